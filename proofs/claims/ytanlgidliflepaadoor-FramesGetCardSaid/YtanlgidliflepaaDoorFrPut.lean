/- frames.Put: its answer is 'frame'. Conditions: lengths that a Go slice has. -/
import Derived.Test.YtanlgidliflepaaDoorCloneB
import Derived.Test.YtanlgidliflepaaDoorSums
import Derived.IntWalk
namespace Go.Proofs.YtanlgidliflepaaDoor
open Go.RowKit

def secs (n : Nat) : Nat := (n + 71) / 64
def be4 (n : Nat) : List UInt8 := [UInt8.ofNat (n / 16777216), UInt8.ofNat (n / 65536), UInt8.ofNat (n / 256), UInt8.ofNat n]
def frame (r : List UInt8) : List UInt8 := be4 r.length ++ (be4 (crc (crc 0 (be4 r.length)) r) ++ (r ++ zeros (secs r.length * 64 - 8 - r.length)))

theorem secs_any (n : Nat) (hn : n ≤ 1000000000000) (w : World) : Calls Tryd.prog 14 #[.int .i64 n] w fun e w' => e = .returned (.int .i64 (secs n : Nat)) ∧ w = w' := by
  go_enter Tryd.func14, Tryd.ntmps14
  go_wp2
  go_ret
  refine ⟨?_, rfl⟩
  show Ending.returned (Value.int .i64 ((8 + (n : Int) + 64 - 1) / 64)) = _
  have e : ((8 + (n : Int) + 64 - 1) / 64) = (((n + 71) / 64 : Nat) : Int) := by omega
  rw [e]; rfl

theorem splice_step {α : Type} (L : List α) (o k : Nat) (cs : List α) (hk : k < cs.length) (ho : o + cs.length ≤ L.length) : (splice L o (cs.take k)).set (o + k) cs[k] = splice L o (cs.take (k + 1)) := by
  apply List.ext_getElem?
  intro i
  have e1 : (cs.take k).length = k := by rw [List.length_take]; omega
  have e2 : (cs.take (k + 1)).length = k + 1 := by rw [List.length_take]; omega
  rw [List.getElem?_set, splice_get _ _ _ (by omega), splice_get _ _ _ (by omega), e1, e2, length_splice _ _ _ (by omega)]
  by_cases h : o + k = i
  · subst h
    rw [if_pos rfl, if_pos (by omega), if_neg (by omega), if_pos (by omega)]
    rw [show o + k - o = k from by omega, List.getElem?_take, if_pos (by omega), List.getElem?_eq_getElem hk]
  · rw [if_neg h]
    by_cases h1 : i < o
    · rw [if_pos h1, if_pos h1]
    · rw [if_neg h1, if_neg h1]
      by_cases h2 : i < o + k
      · rw [if_pos h2, if_pos (by omega), List.getElem?_take, List.getElem?_take, if_pos (by omega), if_pos (by omega)]
      · rw [if_neg h2, if_neg (by omega)]

theorem be4_get (n k : Nat) (hk : k < 4) : Value.int IntKind.u8 ((n : Int) / 2 ^ (8 * (3 - k)) % 256) = (bvals (be4 n))[k]'(by simp [bvals, be4]; omega) := by
  have h : k = 0 ∨ k = 1 ∨ k = 2 ∨ k = 3 := by omega
  rcases h with rfl | rfl | rfl | rfl <;> simp [bvals, be4]

set_option maxRecDepth 20000 in
theorem tell_any (at_ n : Nat) (atI : Int) (hI : atI = at_) (hat : at_ ≤ 100) (_ : n < 4294967296) (bx g m : Nat) (cur : List Value) (w : World) (hbx : w.heap[bx]? = some (.cells #[.slice (some ⟨g, 0, none⟩) m m] 22 (0, 0)))
    (hg : w.heap[g]? = some (.cells cur.toArray 5 (0, 0))) (hcl : cur.length = m) (hm : at_ + 4 ≤ m) (hm2 : m ≤ 1000000000) :
    Calls Tryd.prog 15 #[.int .i64 atI, .int .u32 n, .pointer (some ⟨bx, 0, none⟩)] w fun e w' => e = .returned (.tuple #[]) ∧ w'.heap[g]? = some (.cells (splice cur at_ (bvals (be4 n))).toArray 5 (0, 0)) ∧ Fr (oneBlk g) w w' := by
  subst hI
  have hbg : bx ≠ g := by rintro rfl; rw [hbx] at hg; simp at hg
  have hb4 : (bvals (be4 n)).length = 4 := by simp [bvals, be4]
  go_enter Tryd.func15, Tryd.ntmps15
  go_wp2
  go_loopw [6] (fun i wr => ∃ k : Nat, k ≤ 4 ∧ i = .int .i64 k ∧ wr.heap[g]? = some (.cells (splice cur at_ ((bvals (be4 n)).take k)).toArray 5 (0, 0)) ∧ Fr (oneBlk g) w wr) (fun i _ => 4 - (intOf i).toNat)
  case atStart =>
    refine ⟨0, by omega, rfl, ?_, Fr.refl _ _⟩
    simpa [splice] using hg
  case round =>
    obtain ⟨k, hk, rfl, hgr, hfr⟩ := hrel
    have hcb := blk_cell (hfr.blk hbx hbg) 0 rfl
    by_cases hlt : k < 4
    · have hlen : (splice cur at_ ((bvals (be4 n)).take k)).length = m := by rw [length_splice _ _ _ (by rw [List.length_take, hb4]; omega)]; exact hcl
      have hold : wr.cell? ⟨g, at_ + k, none⟩ = some ((splice cur at_ ((bvals (be4 n)).take k))[at_ + k]'(by omega)) := by
        rw [cell_of_row _ _ _ _ _ _ hgr]; simp
      have hfz := blk_free hgr (at_ + k)
      generalize (splice cur at_ ((bvals (be4 n)).take k))[at_ + k]'(by omega) = vold at hold
      have hstep := splice_step cur at_ k (bvals (be4 n)) (by omega) (by omega)
      have HS := Lib.hid hstep
      clear hstep
      have w1 : IntKind.i64.wrap ((at_ : Int) + k) = at_ + k := IntWalk.i64_in _ (by omega)
      have w2 : IntKind.i64.wrap (3 - (k : Int)) = 3 - k := IntWalk.i64_in _ (by omega)
      have w3 : IntKind.i64.wrap (8 * (3 - (k : Int))) = 8 * (3 - k) := IntWalk.i64_in _ (by omega)
      have w4 : (0 : Int) ≤ 8 * (3 - (k : Int)) := by omega
      go_wp2_with fail
      go_still_tail 10, (by kernel_rfl)
      go_wp2
      go_roundw
      case rel =>
        have hv : Value.int IntKind.u8 ((n : Int) / 2 ^ (8 * (3 - k)) % 256) = (bvals (be4 n))[k]'(by omega) := be4_get n k hlt
        rw [hv]
        have hset := blk_set hgr (at_ + k) ((bvals (be4 n))[k]'(by omega))
        rw [List.setIfInBounds_toArray, HS.out] at hset
        exact ⟨k + 1, by omega, by go_num, hset, (hfr.trans (Fr.setCell _ _ _) (fun j e => .inl e)).trans (Fr.drew _) (fun _ h => h.elim)⟩
      case measure => simp [intOf]; omega
    · obtain rfl : k = 4 := by omega
      go_wp2
      go_end0
      refine ⟨rfl, ?_, hfr⟩
      rw [List.take_of_length_le (by omega)] at hgr
      exact hgr

theorem make_bytes (m : Nat) (hm : m ≤ 1000000000) (w : World) : (Instr.makeSlice 22 (.int .i64 (m : Int)) (.int .i64 (m : Int))).run Tryd.prog w = .ok (.slice (some ⟨w.heap.size, 0, none⟩) m m) (w.alloc (.cells (bvals (zeros m)).toArray 5)) := by
  obtain ⟨i0, hi, hz0, hz1, hz2⟩ := info_parts info_u8
  have h := run_make (P := Tryd.prog) w 22 5 i0 _ Tryd.underlying22 hi hz0 .i64 .i64 m m (by omega) (by omega) (by rw [hz2]; omega) (by omega)
  rw [hz1] at h
  simp only [Int.toNat_natCast, Value.cells, Nat.mul_one] at h
  have e : madeCells #[Value.int .u8 0] m = (bvals (zeros m)).toArray := by
    apply Array.ext'
    rw [toList_madeCells_one]
    simp [bvals, zeros]
  rw [e] at h
  exact h

theorem secs_ge (n : Nat) : 8 + n ≤ secs n * 64 ∧ secs n * 64 ≤ n + 71 := by unfold secs; omega
theorem frame_splice (r : List UInt8) (c : List UInt8) (hc : c.length = 4) : splice (splice (splice (bvals (zeros (secs r.length * 64))) 0 (bvals (be4 r.length))) 4 (bvals c)) 8 (bvals r) = bvals (be4 r.length ++ (c ++ (r ++ zeros (secs r.length * 64 - 8 - r.length)))) := by
  have hs := secs_ge r.length
  have h4 : (be4 r.length).length = 4 := rfl
  generalize be4 r.length = b at h4 ⊢
  generalize secs r.length * 64 = m at hs ⊢
  rw [← bvals_splice, ← bvals_splice, ← bvals_splice]
  congr 1
  apply List.ext_getElem?
  intro i
  have hz : (zeros m).length = m := by simp [zeros]
  rw [splice_get _ _ _ (by rw [length_splice _ _ _ (by rw [length_splice _ _ _ (by omega)]; omega), length_splice _ _ _ (by omega)]; omega), splice_get _ _ _ (by rw [length_splice _ _ _ (by omega)]; omega), splice_get _ _ _ (by omega)]
  by_cases h1 : i < 4
  · rw [if_pos (by omega), if_pos h1, if_neg (by omega), if_pos (by omega), List.getElem?_append_left (by omega)]; rfl
  · rw [List.getElem?_append_right (by omega), h4]
    by_cases h2 : i < 8
    · rw [if_pos h2, if_neg h1, if_pos (by omega), List.getElem?_append_left (by omega)]
    · rw [if_neg h2, List.getElem?_append_right (by omega), hc]
      by_cases h3 : i < 8 + r.length
      · rw [if_pos h3, List.getElem?_append_left (by omega)]; congr 1
      · rw [if_neg h3, if_neg h1, if_neg (by omega), if_neg (by omega), if_neg (by omega), List.getElem?_append_right (by omega)]
        unfold zeros
        rw [List.getElem?_replicate, List.getElem?_replicate]
        by_cases h5 : i < m
        · rw [if_pos h5, if_pos (by omega)]
        · rw [if_neg h5, if_neg (by omega)]

theorem put_long (a : Option Addr) (len cap : Nat) (w : World) (h : 16384 < len) (h2 : len ≤ 9223372036854775807) : Calls Tryd.prog 6 #[.slice a len cap] w fun e w' => e = .returned (.tuple #[.slice none 0 0, .int .i64 3]) ∧ w = w' := by
  go_enter Tryd.func6, Tryd.ntmps6
  go_wp2
  go_ret2
  exact ⟨rfl, rfl⟩

theorem size_byte : (Tryd.prog.info? 5).map (·.size) = some 1 := by kernel_rfl
/-- copy of bytes, from whatever slice. -/
theorem wpList_copy_bytes {ops : Array Oper} {rest : List Oper} {o : Oper} {a : Act} {w : World} {Q : Exit → Act → World → Prop} (hgd : o.guard = none) (d s : Operand)
    (ho : o.op = .call { callee := .builtin .copy, args := #[d, s], argTypes := #[22, 22] })
    (g off dLen dCap : Nat) (sp : Option Addr) (l : List UInt8) (sCap : Nat) (hd : a.eval d = .slice (some ⟨g, off, none⟩) dLen dCap) (hs : a.eval s = .slice sp l.length sCap)
    (cur : List Value) (t : TypeId) (hg : w.heap[g]? = some (.cells cur.toArray t (0, 0))) (hb : IsB w sp l) (hfit : l.length ≤ dLen) (hfit2 : off + l.length ≤ cur.length)
    (h : wpList Tryd.prog ops Q rest (a.put o.dst (goInt l.length)) (w.setRow g (splice cur off (bvals l)).toArray)) : wpList Tryd.prog ops Q (o :: rest) a w := by
  by_cases h0 : l.length = 0
  · obtain rfl : l = [] := List.eq_nil_of_length_eq_zero h0
    refine wpList_copy_nothing hgd d s _ _ ho 5 Tryd.underlying22 size_byte _ _ _ _ _ _ hd hs (Nat.zero_min _) ?_
    have e : splice cur off (bvals []) = cur := by simp [splice, bvals]
    rw [e, setRow_self w g cur.toArray t (0, 0) hg] at h
    exact h
  · rcases hb with rfl | ⟨b, o', rfl, hb⟩
    · simp at h0
    · have hmin : Nat.min l.length dLen = l.length := Nat.min_eq_left hfit
      refine wpList_copy_any hgd d s _ _ ho 5 1 Tryd.underlying22 size_byte g off dLen dCap ⟨b, o', none⟩ l.length sCap hd hs cur.toArray t hg (bvals l) (by rw [bvals_length, hmin]; omega) (IsB.src (.inr ⟨b, o', rfl, hb⟩)) (by rw [bvals_length]; simpa using hfit2) (bvals_one l) ?_
      rw [hmin]; exact h

set_option maxRecDepth 20000 in
set_option maxHeartbeats 1000000 in
theorem put_any (a : Option Addr) (l : List UInt8) (cap : Nat) (w : World) (hl : l.length ≤ 16384) (hb : IsB w a l) :
    Calls Tryd.prog 6 #[.slice a l.length cap] w fun e w' => ∃ g, e = .returned (.tuple #[.slice (some ⟨g, 0, none⟩) (secs l.length * 64) (secs l.length * 64), .int .i64 0]) ∧ w.heap.size ≤ g ∧ w'.heap[g]? = some (.cells (bvals (frame l)).toArray 5 (0, 0)) ∧ Fr noBlk w w' := by
  have hs := secs_ge l.length
  have hmk := make_bytes (secs l.length * 64) (by omega)
  rw [show (((secs l.length * 64 : Nat) : Int)) = (secs l.length : Int) * 64 from by omega] at hmk
  have hmf : ∀ (fn : Fn) (first cap : Array Value) (w : World), (Instr.makeFunc fn first cap).run Tryd.prog w = .ok (.func fn first cap) w := fun _ _ _ _ => rfl
  have HSEC := Lib.hid (secs_any l.length (by omega) w)
  obtain ⟨m, hm⟩ : ∃ m, m = secs l.length * 64 := ⟨_, rfl⟩
  have W1 : ((w.alloc (.cells (bvals (zeros (secs l.length * 64))).toArray 5)).alloc (.cells #[.slice (some ⟨w.heap.size, 0, none⟩) (secs l.length * 64) (secs l.length * 64)] 22)).heap[w.heap.size]? = some (.cells (bvals (zeros (secs l.length * 64))).toArray 5 (0, 0)) := heap_alloc2_old _ _ _
  have W2 : ((w.alloc (.cells (bvals (zeros (secs l.length * 64))).toArray 5)).alloc (.cells #[.slice (some ⟨w.heap.size, 0, none⟩) (secs l.length * 64) (secs l.length * 64)] 22)).heap[w.heap.size + 1]? = some (.cells #[.slice (some ⟨w.heap.size, 0, none⟩) (secs l.length * 64) (secs l.length * 64)] 22 (0, 0)) := heap_alloc2_new _ _ _
  go_enter Tryd.func6, Tryd.ntmps6
  go_wp2_with (first | (go_at_call 14; refine HSEC.out.mono ?_; rintro e w' ⟨rfl, rfl⟩) | fail)
  refine (tell_any 0 l.length 0 rfl (by omega) (by omega) _ _ (secs l.length * 64) _ _ W2 W1 (by rw [bvals_length]; simp [zeros]) (by omega) (by omega)).mono ?_
  rintro e w3 ⟨rfl, hg3, hf3⟩
  have hsz2 : ((w.alloc (.cells (bvals (zeros (secs l.length * 64))).toArray 5)).alloc (.cells #[.slice (some ⟨w.heap.size, 0, none⟩) (secs l.length * 64) (secs l.length * 64)] 22)).heap.size = w.heap.size + 2 := by simp
  have hF3 : Fr noBlk w w3 := ((Fr.alloc w _).trans (Fr.alloc _ _) (fun _ h => h.elim)).trans hf3 (fun j e => by right; have e' : j = w.heap.size := e; omega)
  have hb3 := hf3.blk W2 (show ¬ (w.heap.size + 1 = w.heap.size) by omega)
  have hc3 : w3.cell? ⟨w.heap.size + 1, 0, none⟩ = some (.slice (some ⟨w.heap.size, 0, none⟩) (secs l.length * 64) (secs l.length * 64)) := blk_cell hb3 0 rfl
  have hs3 := hf3.size
  rw [hsz2] at hs3
  have hB3 : IsB w3 (some ⟨w.heap.size, 0, none⟩) (be4 l.length) := by
    refine IsB.of_blk hg3 _ (fun j hj => ?_)
    have hj4 : j < 4 := hj
    rw [List.getElem?_toArray, Nat.zero_add, splice_get _ _ _ (by rw [bvals_length, bvals_length]; simp [zeros, be4]; omega), if_neg (by omega), if_pos (by rw [bvals_length]; show j < 0 + 4; omega), bvals_get]
    simp [List.getElem?_eq_getElem hj]
  clear hm
  go_wp2_with fail
  refine (of_any (some ⟨w.heap.size, 0, none⟩) (be4 l.length) 4 w3 (by show 4 ≤ _; omega) hB3).mono ?_
  rintro e w4 ⟨rfl, hb4⟩
  have hf4 := Fr.of_below hb4
  have hF4 := hF3.trans hf4 (fun _ h => h.elim)
  have hs4 := hf4.size
  go_wp2_with fail
  refine (on_any (crc 0 (be4 l.length)) (by unfold crc; omega) a l cap w4 (by omega) (hb.fr hF4 (fun _ _ => not_noBlk _))).mono ?_
  rintro e w5 ⟨rfl, hb5⟩
  have hf5 := Fr.of_below hb5
  have hF5 := hF4.trans hf5 (fun _ h => h.elim)
  have hs5 := hf5.size
  have hg5 := hf5.blk (hf4.blk hg3 (not_noBlk _)) (not_noBlk _)
  have hb5' := hf5.blk (hf4.blk hb3 (not_noBlk _)) (not_noBlk _)
  have hZl : (splice (bvals (zeros (secs l.length * 64))) 0 (bvals (be4 l.length))).length = secs l.length * 64 := by rw [length_splice _ _ _ (by rw [bvals_length, bvals_length]; simp [zeros, be4]; omega), bvals_length]; simp [zeros]
  go_wp2_with fail
  refine (tell_any 4 (crc (crc 0 (be4 l.length)) l) 4 rfl (by omega) (by unfold crc; omega) _ _ (secs l.length * 64) _ _ hb5' hg5 hZl (by omega) (by omega)).mono ?_
  rintro e w6 ⟨rfl, hg6, hf6⟩
  have hF6 := hF5.trans hf6 (fun j e => by right; have e' : j = w.heap.size := e; omega)
  have hs6 := hf6.size
  have hb6' := hf6.blk hb5' (show ¬ (w.heap.size + 1 = w.heap.size) by omega)
  have hc6 : w6.cell? ⟨w.heap.size + 1, 0, none⟩ = some (.slice (some ⟨w.heap.size, 0, none⟩) (secs l.length * 64) (secs l.length * 64)) := blk_cell hb6' 0 rfl
  have hZl2 : (splice (splice (bvals (zeros (secs l.length * 64))) 0 (bvals (be4 l.length))) 4 (bvals (be4 (crc (crc 0 (be4 l.length)) l)))).length = secs l.length * 64 := by rw [length_splice _ _ _ (by rw [hZl, bvals_length]; show 4 + 4 ≤ _; omega)]; exact hZl
  have hb6B := hb.fr hF6 (fun _ _ => not_noBlk _)
  have q3 : l.length ≤ secs l.length * 64 - 8 := by omega
  have q4 : 8 + l.length ≤ (splice (splice (bvals (zeros (secs l.length * 64))) 0 (bvals (be4 l.length))) 4 (bvals (be4 (crc (crc 0 (be4 l.length)) l)))).length := by rw [hZl2]; omega
  have hF7 := hF6.trans (Fr.setRow w6 w.heap.size (splice (splice (splice (bvals (zeros (secs l.length * 64))) 0 (bvals (be4 l.length))) 4 (bvals (be4 (crc (crc 0 (be4 l.length)) l)))) 8 (bvals l)).toArray) (fun j e => by right; have e' : j = w.heap.size := e; omega)
  have hc7 := (Fr.setRow w6 w.heap.size (splice (splice (splice (bvals (zeros (secs l.length * 64))) 0 (bvals (be4 l.length))) 4 (bvals (be4 (crc (crc 0 (be4 l.length)) l)))) 8 (bvals l)).toArray).cell hc6 (show ¬ (w.heap.size + 1 = w.heap.size) by omega)
  have hg7 : (w6.setRow w.heap.size (splice (splice (splice (bvals (zeros (secs l.length * 64))) 0 (bvals (be4 l.length))) 4 (bvals (be4 (crc (crc 0 (be4 l.length)) l)))) 8 (bvals l)).toArray).heap[w.heap.size]? = some (.cells _ 5 (0, 0)) := setRow_heap _ _ _ _ _ _ hg6
  have HG7 := Lib.hid hg7
  clear hg7
  go_wp2_with (with_reducible refine wpList_copy_bytes rfl (.tmp 28) (.tmp 29) rfl w.heap.size 8 _ _ a l cap rfl rfl (splice (splice (bvals (zeros (secs l.length * 64))) 0 (bvals (be4 l.length))) 4 (bvals (be4 (crc (crc 0 (be4 l.length)) l)))) 5 hg6 hb6B q3 q4 ?_)
  go_ret2
  exact ⟨w.heap.size, rfl, Nat.le_refl _, HG7.out.trans (by rw [frame_splice l (be4 (crc (crc 0 (be4 l.length)) l)) rfl]; rfl), hF7⟩
end Go.Proofs.YtanlgidliflepaaDoor
