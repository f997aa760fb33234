/- walls.found: the records that bytes begin with. Conditions: lengths that a Go slice has. -/
import Derived.Test.YtanlgidliflepaaFrGet
import Derived.Test.YtanlgidliflepaaRangeBox
namespace Go.Proofs.Ytanlgidliflepaa
open Go.RowKit
attribute [local go_sem] Oper.semAt_some

def parseN : Nat → List UInt8 → List (List UInt8 × Nat)
  | 0, _ => []
  | f + 1, l => match getF l with
    | none => []
    | some (r, k) => (r, k) :: parseN f (l.drop (k * 64))
def parse (l : List UInt8) : List (List UInt8 × Nat) := parseN (l.length + 1) l

theorem getF_some {l r : List UInt8} {k : Nat} (h : getF l = some (r, k)) : 1 ≤ k ∧ k * 64 ≤ l.length ∧ frame r = l.take (k * 64) ∧ r.length ≤ 16384 ∧ k = secs r.length := by
  unfold getF at h
  split at h
  · cases h
  · split at h
    · cases h
    · split at h
      · cases h
      · split at h
        · rename_i h1 h2 h3 h4
          cases h
          have hs := secs_ge (numK (l.take 4))
          have hr : ((l.drop 8).take (numK (l.take 4))).length = numK (l.take 4) := by rw [List.length_take, List.length_drop]; omega
          exact ⟨by omega, by omega, h4, by omega, by rw [hr]⟩
        · cases h
theorem parseN_more : ∀ (f : Nat) (l : List UInt8), l.length < f → parseN (f + 1) l = parseN f l
  | 0, l, h => by omega
  | f + 1, l, h => by
    rw [parseN, parseN]
    cases hg : getF l with
    | none => rfl
    | some x =>
      obtain ⟨r, k⟩ := x
      obtain ⟨h1, h2, _⟩ := getF_some hg
      show (r, k) :: parseN (f + 1) (l.drop (k * 64)) = (r, k) :: parseN f (l.drop (k * 64))
      rw [parseN_more f _ (by rw [List.length_drop]; omega)]
theorem parseN_enough (l : List UInt8) : ∀ f, l.length < f → parseN f l = parse l
  | 0, h => by omega
  | f + 1, h => by
    by_cases e : f = l.length
    · subst e; rfl
    · rw [parseN_more f l (by omega)]; exact parseN_enough l f (by omega)
theorem parse_step {l r : List UInt8} {k : Nat} (h : getF l = some (r, k)) : parse l = (r, k) :: parse (l.drop (k * 64)) := by
  obtain ⟨h1, h2, _⟩ := getF_some h
  unfold parse
  rw [parseN, h]
  show (r, k) :: parseN l.length (l.drop (k * 64)) = _
  rw [parseN_enough _ _ (by rw [List.length_drop]; omega)]; rfl
theorem parse_end {l : List UInt8} (h : getF l = none) : parse l = [] := by
  unfold parse; rw [parseN, h]

structure Rec where
  v : Value
  k : Nat
  r : List UInt8
def Rec.encs (x : Rec) : Array Value := #[x.v, .int .i64 (x.k : Int)]
def Rec.got (B : Nat) (x : Rec) (W : World) : Prop := W.ownsRow B 5 1 x.v x.r.length (bvals x.r) ∧ x.k ≤ 16000000
def Rec.pair (x : Rec) : List UInt8 × Nat := (x.r, x.k)

theorem grown_of_fr {w w' : World} (h : Fr noBlk w w') : w.grownBy w' none := ⟨h.os, h.tape, h.output, h.size, fun k hk _ => h.same k hk (not_noBlk k)⟩
theorem row_base {w : World} {base base' e size n : Nat} {v : Value} {xs : List Value} (h : w.ownsRow base e size v n xs) (hb : base' ≤ base) : w.ownsRow base' e size v n xs :=
  ⟨h.1, h.2.imp id fun ⟨g, cap, cur, e1, e2, r⟩ => ⟨g, cap, cur, e1, Nat.le_trans hb e2, r⟩⟩

def boxLen (W : World) (Bx : Nat) : Nat := match W.cell? ⟨Bx, 0, none⟩ with
  | some (.slice _ n _) => n
  | _ => 0
theorem boxLen_of {W : World} {Bx : Nat} {a : Option Addr} {n c : Nat} (h : W.cell? ⟨Bx, 0, none⟩ = some (.slice a n c)) : boxLen W Bx = n := by
  unfold boxLen; rw [h]

set_option maxHeartbeats 1000000 in
theorem found_box (n : Nat) (own : Nat → Prop) (Bx : Nat) (a : Option Addr) (all : List UInt8) (cap : Nat) (w0 : World) (hl : all.length ≤ 1000000000) (hc : all.length ≤ cap) (hc2 : cap ≤ 9223372036854775807)
    (hbx : w0.heap[Bx]? = some (.cells #[.slice a all.length cap] 22 (0, 0))) (hb : IsB w0 a all) (hob : ¬ own Bx) (hoa : ∀ x, a = some x → ¬ own x.block ∧ x.block < w0.heap.size ∧ x.block ≠ Bx) :
    SeqBox Fence.wide n Try.prog 34 #[.pointer (some ⟨Bx, 0, none⟩)] Rec.encs own Bx (Rec.got w0.heap.size) (fun xs => xs.map Rec.pair = parse all) 2000000000 w0 := by
  intro l J W hfW hJ hJB hY h0
  refine callsIn_of_wp Try.func34 rfl trivial ?_ rfl
  simp only [Try.ntmps34, List.size_toArray, List.length_cons, List.length_nil, Nat.reduceAdd, Nat.reduceSub, Array.replicate_succ, Array.replicate_zero, List.push_toArray, List.append_toArray, List.nil_append, List.cons_append]
  gi_wp2
  gi_loopw [3] (fun _ wr => ∃ (xs : List Rec) (a' : Option Addr) (l' : List UInt8) (c' : Nat), xs.map Rec.pair ++ parse l' = parse all ∧ wr.heap[Bx]? = some (.cells #[.slice a' l'.length c'] 22 (0, 0)) ∧ IsB wr a' l' ∧ l'.length ≤ c' ∧ c' ≤ cap ∧ l'.length + xs.length ≤ all.length ∧ (∀ x, a' = some x → ¬ own x.block ∧ x.block < w0.heap.size ∧ x.block ≠ Bx) ∧ J xs wr ∧ w0.heap.size ≤ wr.heap.size ∧ W.heap.size ≤ wr.heap.size)
    (fun _ wr => boxLen wr Bx)
  case atStart =>
    exact ⟨[], a, all, cap, rfl, hfW.blk hbx (not_noBlk _), hb.fr hfW (fun _ _ => not_noBlk _), hc, Nat.le_refl _, by simp, hoa, h0, hfW.size, Nat.le_refl _⟩
  case round =>
    obtain ⟨xs, a', l', c', hpar, hbr, hbB, hlc, hcc, hlen, hblk, hJr, hs0, hsW⟩ := hrel
    have hcell := blk_cell hbr 0 rfl
    have HPAR := Lib.hid hpar
    clear hpar
    have hcl : wr.cell? ⟨Bx, 0, none⟩ = some (.slice a' l'.length c') := hcell
    have HM := Lib.hid (boxLen_of hcl)
    clear hcell
    gi_wp2
    refine ⟨trivial, fun h => (by cases h), callsIn_wide.2 ((get_any a' l' c' wr (by omega) hlc (by omega) hbB (fun x hx => Nat.lt_of_lt_of_le (hblk x hx).2.1 hs0)).mono ?_)⟩
    rintro e W2 ⟨hfr, ⟨hg, rfl⟩ | ⟨r, k, v, hg, rfl, hown⟩⟩
    · have hJ2 : J xs W2 := hJ xs wr W2 none hJr (grown_of_fr hfr) (fun r e => by cases e)
      have HG := Lib.hid hg
      clear hg
      gi_wp2
      refine ⟨fun _ h => (by cases h), ?_⟩
      gi_wp2
      refine bodyPost_ret (results_none rfl _ _ _) rfl ⟨⟨_, rfl⟩, xs, ?_, hJ2⟩
      rw [← HPAR.out, parse_end HG.out, List.append_nil]
    · have hJ2 : J xs W2 := hJ xs wr W2 none hJr (grown_of_fr hfr) (fun r e => by cases e)
      obtain ⟨hk1, hk2, hk3, hk4, hk5⟩ := getF_some hg
      have HG := Lib.hid hg
      clear hg
      have HF := Lib.hid hk3
      have H5 := Lib.hid hk5
      clear hk3 hk5
      obtain ⟨fn, tmps, assign, body, hy, hR⟩ := hY xs ⟨v, k, r⟩ W2 hJ2 ⟨row_base hown hs0, by show k ≤ 16000000; omega⟩ (by omega)
      simp only [Rec.encs] at hy
      gi_wp2
      refine ⟨fun h => (by cases h), hR.mono ?_⟩
      rintro e W3 ⟨rfl, hJ3, hf3⟩
      have hb3 := hf3.blk (hfr.blk hbr (not_noBlk _)) hob
      have hc3 : W3.cell? ⟨Bx, 0, none⟩ = some (.slice a' l'.length c') := blk_cell hb3 0 rfl
      have hz3 := blk_free hb3 0
      have hs3 := hf3.size
      have hs2 := hfr.size
      have hbB3 : IsB W3 a' l' := (hbB.fr hfr (fun _ _ => not_noBlk _)).fr hf3 (fun x hx => (hblk x hx).1)
      obtain ⟨b', o', rfl, hcells⟩ : ∃ b off, a' = some ⟨b, off, none⟩ ∧ ∀ j (h : j < l'.length), W3.cell? ⟨b, off + j, none⟩ = some (.int .u8 (l'[j].toNat : Int)) := hbB3.resolve_left (by rintro rfl; simp at hk2; omega)
      have hB2 := hblk _ rfl
      have hsub : IsB W3 (some ⟨b', o' + k * 64, none⟩) (l'.drop (k * 64)) := by
        have := IsB.sub hbB3 (k * 64) l'.length
        rwa [List.take_of_length_le (by rw [List.length_drop]; omega)] at this
      have hdl : (l'.drop (k * 64)).length = l'.length - k * 64 := List.length_drop
      clear hcells
      by_cases hck : c' = k * 64
      · have HCK := Lib.hid hck
        gi_wp2
        refine ⟨?rel, ?measure⟩
        case rel =>
          have hset := blk_set hb3 0 (Value.slice (some ⟨b', o', none⟩) (l'.length - k * 64) 0)
          have hfs := Fr.setCell W3 ⟨Bx, 0, none⟩ (Value.slice (some ⟨b', o', none⟩) (l'.length - k * 64) 0)
          refine ⟨xs ++ [⟨v, k, r⟩], (some ⟨b', o', none⟩), l'.drop (k * 64), 0, ?_, ?_, ?_, by rw [hdl]; have := HCK.out; omega, Nat.zero_le _, ?_, ?_, hJB _ _ _ hJ3, ?_, ?_⟩
          · rw [← HPAR.out, parse_step HG.out]; simp [Rec.pair]
          · rw [hdl]; exact hset
          · exact IsB.fr (.inl (List.eq_nil_of_length_eq_zero (by rw [hdl]; have := HCK.out; omega))) hfs (fun x hx => by cases hx; exact hB2.2.2)
          · rw [hdl, List.length_append, List.length_singleton]; omega
          · intro x hx; cases hx; exact hB2
          · rw [World.size_setCell]; omega
          · rw [World.size_setCell]; omega
        case measure =>
          have hset := blk_set hb3 0 (Value.slice (some ⟨b', o', none⟩) (l'.length - k * 64) 0)
          rw [boxLen_of (blk_cell hset 0 rfl), HM.out]; omega
      · gi_wp2
        refine ⟨?rel, ?measure⟩
        case rel =>
          have hset := blk_set hb3 0 (Value.slice (some ⟨b', o' + k * 64, none⟩) (l'.length - k * 64) (c' - k * 64))
          have hfs := Fr.setCell W3 ⟨Bx, 0, none⟩ (Value.slice (some ⟨b', o' + k * 64, none⟩) (l'.length - k * 64) (c' - k * 64))
          refine ⟨xs ++ [⟨v, k, r⟩], (some ⟨b', o' + k * 64, none⟩), l'.drop (k * 64), (c' - k * 64), ?_, ?_, ?_, by rw [hdl]; omega, by omega, ?_, ?_, hJB _ _ _ hJ3, ?_, ?_⟩
          · rw [← HPAR.out, parse_step HG.out]; simp [Rec.pair]
          · rw [hdl]; exact hset
          · exact IsB.fr (hsub) hfs (fun x hx => by cases hx; exact hB2.2.2)
          · rw [hdl, List.length_append, List.length_singleton]; omega
          · intro x hx; cases hx; exact hB2
          · rw [World.size_setCell]; omega
          · rw [World.size_setCell]; omega
        case measure =>
          have hset := blk_set hb3 0 (Value.slice (some ⟨b', o' + k * 64, none⟩) (l'.length - k * 64) (c' - k * 64))
          rw [boxLen_of (blk_cell hset 0 rfl), HM.out]; omega

theorem found_mk (a : Option Addr) (len cap : Nat) (w : World) : Calls Try.prog 24 #[.slice a len cap] w fun e w' => e = .returned (.func (.func 34) #[] #[.pointer (some ⟨w.heap.size, 0, none⟩)]) ∧ w.alloc (.cells #[.slice a len cap] 22) = w' := by
  have hmf : ∀ (fn : Fn) (first cap : Array Value) (w : World), (Instr.makeFunc fn first cap).run Try.prog w = .ok (.func fn first cap) w := fun _ _ _ _ => rfl
  go_enter Try.func24, Try.ntmps24
  go_wp2
  go_ret
  exact ⟨rfl, rfl⟩
end Go.Proofs.Ytanlgidliflepaa
