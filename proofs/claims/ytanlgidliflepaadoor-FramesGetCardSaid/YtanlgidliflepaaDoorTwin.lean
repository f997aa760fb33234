/- Copies with a mark behind them (TwinBytes), and whether such a copy is as it was (LeftBytes). Conditions: lengths that memory bears. -/
import Derived.Test.YtanlgidliflepaaDoorCloneB
import Derived.Test.YtanlgidliflepaaDoorBkAppend
import Derived.Deep.QuietTactic
import Derived.BigQuiet
import Derived.IntWalk
namespace Go.Proofs.YtanlgidliflepaaDoor
open Go.RowKit

/-- A copy of the bytes l, the mark behind it. -/
def IsTwin (w : World) (B : Nat) (l : List UInt8) (g c : Nat) : Prop := w.ownsRow B 5 1 (.slice (some ⟨g, 0, none⟩) (l.length + 1) c) (l.length + 1) (bvals (l ++ [77]))
theorem IsTwin.row {w : World} {B : Nat} {l : List UInt8} {g c : Nat} (h : IsTwin w B l g c) : w.ownsRow B 5 1 (.slice (some ⟨g, 0, none⟩) l.length c) l.length (bvals l) := by
  have := row_prefix h (Nat.le_succ l.length)
  rwa [Nat.mul_one, bvals_append, List.take_append_of_le_length (by rw [bvals_length]; exact Nat.le_refl _), List.take_of_length_le (by rw [bvals_length]; exact Nat.le_refl _)] at this
theorem IsTwin.isB {w : World} {B : Nat} {l : List UInt8} {g c : Nat} (h : IsTwin w B l g c) : IsB w (some ⟨g, 0, none⟩) l := by
  obtain ⟨cur, hg, _, _, ht, _⟩ := row_open h.row
  refine IsB.of_blk hg l (fun j hj => ?_)
  have e1 : (bvals l)[j]? = some (.int .u8 (l[j].toNat : Int)) := by rw [bvals_get, List.getElem?_eq_getElem hj]; rfl
  rw [← ht, List.getElem?_take] at e1
  split at e1
  · rw [Nat.zero_add]; simpa using e1
  · cases e1
theorem IsTwin.cap {w : World} {B : Nat} {l : List UInt8} {g c : Nat} (h : IsTwin w B l g c) : l.length + 1 ≤ c ∧ c ≤ maxLen := by
  obtain ⟨cur, _, h1, _, _, h2⟩ := row_open h
  exact ⟨h1, h2⟩
theorem IsTwin.mark {w : World} {B : Nat} {l : List UInt8} {g c : Nat} (h : IsTwin w B l g c) : w.cell? ⟨g, l.length, none⟩ = some (.int .u8 77) := by
  have := h.cells (g := g) rfl l.length (.int .u8 77) (by rw [bvals_get]; simp)
  rwa [Addr.add_mid, Nat.zero_add] at this
theorem IsTwin.fr {w w' : World} {B : Nat} {l : List UInt8} {g c : Nat} {fp : Nat → Prop} (h : IsTwin w B l g c) (hf : Fr fp w w') (hn : ¬ fp g) : IsTwin w' B l g c :=
  hf.row h (fun g' e => by simp [Value.ownBlock] at e; subst e; exact hn)

theorem make_room (m : Nat) (hm : m ≤ 1000000000) (w : World) : (Instr.makeSlice 22 (.int .i64 0) (.int .i64 (m : Int))).run Tryd.prog w = .ok (.slice (some ⟨w.heap.size, 0, none⟩) 0 m) (w.alloc (.cells (bvals (zeros m)).toArray 5)) := by
  obtain ⟨i0, hi, hz0, hz1, hz2⟩ := info_parts info_u8
  have h := run_make (P := Tryd.prog) w 22 5 i0 _ Tryd.underlying22 hi hz0 .i64 .i64 0 m (by omega) (by omega) (by rw [hz2]; omega) (by omega)
  rw [hz1] at h
  simp only [Int.toNat_natCast, Value.cells, Nat.mul_one] at h
  have e : madeCells #[Value.int .u8 0] m = (bvals (zeros m)).toArray := by
    apply Array.ext'
    rw [toList_madeCells_one]
    simp [bvals, zeros]
  rw [e] at h
  exact h

set_option maxRecDepth 20000 in
set_option maxHeartbeats 1000000 in
theorem twin_any (a : Option Addr) (l : List UInt8) (cap : Nat) (w : World) (hl : l.length ≤ 900000000) (hb : IsB w a l) :
    Calls Tryd.prog 5 #[.slice a l.length cap] w fun e w' => ∃ g c, e = .returned (.slice (some ⟨g, 0, none⟩) l.length c) ∧ IsTwin w' w.heap.size l g c ∧ Fr noBlk w w' := by
  obtain ⟨i0, hi, hz0, hz1, hz2⟩ := info_parts info_u8
  have hmk := make_room (l.length + 1) (by omega) w
  rw [show ((l.length + 1 : Nat) : Int) = (l.length : Int) + 1 from by omega] at hmk
  have hmade : (w.alloc (.cells (bvals (zeros (l.length + 1))).toArray 5)).ownsRow w.heap.size 5 1 (.slice (some ⟨w.heap.size, 0, none⟩) 0 (l.length + 1)) 0 [] := by
    refine ⟨rfl, .inr ⟨w.heap.size, l.length + 1, _, rfl, Nat.le_refl _, heap_alloc_new _ _, by omega, by simp only [maxLen]; omega, by simp [bvals, zeros], by simp⟩⟩
  have hfm := Fr.alloc w (.cells (bvals (zeros (l.length + 1))).toArray 5)
  obtain ⟨w1, hw1⟩ : ∃ x, w.alloc (.cells (bvals (zeros (l.length + 1))).toArray 5) = x := ⟨_, rfl⟩
  rw [hw1] at hmk hmade hfm
  have hsz1 : w1.heap.size = w.heap.size + 1 := by rw [← hw1]; simp
  have HZ := Lib.hid hsz1
  clear hw1 hsz1
  go_enter Tryd.func5, Tryd.ntmps5
  go_wp2
  obtain ⟨B, hB⟩ : ∃ x, w.heap.size = x := ⟨_, rfl⟩
  have HB := Lib.hid hB
  rw [hB] at hmade HZ ⊢
  clear hB
  clear hmk
  go_loopw [3, 4] (fun v i wr => ∃ k : Nat, k ≤ l.length ∧ i = .int .i64 k ∧ wr.ownsRow B 5 1 v k (bvals (l.take k)) ∧ Fr (fun j => B ≤ j) w wr) (fun _ i _ => l.length - (intOf i).toNat)
  case atStart => exact ⟨0, by omega, rfl, by simpa [bvals] using hmade, hfm.mono (fun _ h => h.elim)⟩
  case round =>
    obtain ⟨k, hk, rfl, hown, hfr⟩ := hrel
    by_cases hlt : k < l.length
    · obtain ⟨b, off, rfl, hcell⟩ : ∃ b off, a = some ⟨b, off, none⟩ ∧ ∀ j (h : j < l.length), w.cell? ⟨b, off + j, none⟩ = some (.int .u8 (l[j].toNat : Int)) := hb.resolve_left (by rintro rfl; simp at hlt)
      have hbl := World.block_lt_of_cell? w ⟨b, off + k, none⟩ (hcell k hlt)
      simp only at hbl
      have hc := hfr.cell (hcell k hlt) (by rw [← HB.out]; omega)
      have hT := List.take_succ_eq_append_getElem hlt
      have hfa := Fr.alloc wr (.cells #[.int .u8 (l[k].toNat : Int)] 5)
      have hnew := heap_alloc_new wr (.cells #[.int .u8 (l[k].toNat : Int)] 5)
      have HT := Lib.hid hT
      have hsz := hfr.size
      clear hcell hb hT
      go_wp2_with (at_builtin; refine wpList_append_own _ rfl (.tmp 15) (.tmp 20) 22 rfl B 5 i0 (.int .u8 0) 1 1 Tryd.underlying22 hi hz0 hz1 hz2 rfl (by decide) _ k (bvals (l.take k)) rfl (hfa.row hown (fun _ _ => not_noBlk _)) ⟨wr.heap.size, 0, none⟩ 1 1 [.int .u8 (l[k].toNat : Int)] rfl rfl ?c1 ?c2 ?c3 ?c4 ?c5 ?_)
      case c1 =>
        intro j u hj
        have : j = 0 := by
          have := (List.getElem?_eq_some_iff.1 hj).1
          simpa using this
        subst this
        simp at hj
        subst hj
        exact blk_cell hnew 0 rfl
      case c2 => intro u hu; simp at hu; subst hu; rfl
      case c3 => simp only [maxLen]; omega
      case c4 => omega
      case c5 => have := HB.out; have := hfa.size; omega
      intro v' w2 hown2 hg2 _
      have hF := (hfr.trans hfa (fun _ h => h.elim)).trans (Fr.grown hg2) (fun j e => .inl (hown.lt j e).1)
      have hown3 : w2.ownsRow B 5 1 v' (k + 1) (bvals (l.take (k + 1))) := by rw [HT.out, bvals_append]; exact hown2
      have HF := Lib.hid hF
      have HO := Lib.hid hown3
      clear hF hown3 hown2 hg2 hown hc hnew hfa
      go_wp2
      refine ⟨⟨k + 1, by omega, by go_num, HO.out, HF.out⟩, ?_⟩
      simp [intOf]; omega
    · obtain rfl : k = l.length := by omega
      have hfa := Fr.alloc wr (.cells #[.int .u8 77] 5)
      have hnew := heap_alloc_new wr (.cells #[.int .u8 77] 5)
      have hsz := hfr.size
      rw [List.take_length] at hown
      go_wp2_with (at_builtin; refine wpList_append_own _ rfl (.tmp 22) (.tmp 23) 22 rfl B 5 i0 (.int .u8 0) 1 1 Tryd.underlying22 hi hz0 hz1 hz2 rfl (by decide) _ l.length (bvals l) rfl (hfa.row hown (fun _ _ => not_noBlk _)) ⟨wr.heap.size, 0, none⟩ 1 1 [.int .u8 77] rfl rfl ?c1 ?c2 ?c3 ?c4 ?c5 ?_)
      case c1 =>
        intro j u hj
        have : j = 0 := by
          have := (List.getElem?_eq_some_iff.1 hj).1
          simpa using this
        subst this
        simp at hj
        subst hj
        exact blk_cell hnew 0 rfl
      case c2 => intro u hu; simp at hu; subst hu; rfl
      case c3 => simp only [maxLen]; omega
      case c4 => omega
      case c5 => have := HB.out; have := hfa.size; omega
      intro v' w2 hown2 hg2 _
      have hF := (hfr.trans hfa (fun _ h => h.elim)).trans (Fr.grown hg2) (fun j e => .inl (hown.lt j e).1)
      obtain ⟨va, vc, rfl, hva⟩ := row_slice hown2
      obtain ⟨g, rfl, hgB⟩ : ∃ g, va = some ⟨g, 0, none⟩ ∧ B ≤ g := by
        rcases hva with ⟨_, h⟩ | h
        · omega
        · exact h
      have htw : IsTwin w2 B l g vc := by unfold IsTwin; rw [bvals_append]; exact hown2
      obtain ⟨hcap, hcm⟩ := htw.cap
      simp only [maxLen] at hcm
      have HF := Lib.hid hF
      have HO := Lib.hid htw
      clear hF htw hown2 hg2 hown hnew hfa
      go_wp2
      go_ret
      exact ⟨g, vc, rfl, by rw [HB.out]; exact HO.out, HF.out.mono (fun j h => .inr (by have := HB.out; omega))⟩

theorem left_any (g c : Nat) (a : Option Addr) (l : List UInt8) (cap : Nat) (B : Nat) (w : World) (hl : l.length ≤ 900000000) (ht : IsTwin w B l g c) (hb : IsB w a l) :
    Calls Tryd.prog 9 #[.slice (some ⟨g, 0, none⟩) l.length c, .slice a l.length cap] w fun e w' => e = .returned (.bool true) ∧ ∃ n, w' = w.drewN n := by
  obtain ⟨h1, h2⟩ := ht.cap
  simp only [maxLen] at h2
  have hbt := ht.isB
  have hm := ht.mark
  have b0 : ((l.length : Int) != (l.length : Int)) = false := by simp
  have b1 : decide ((c : Int) ≤ (l.length : Int)) = false := decide_eq_false (by omega)
  have b2 : (l.length : Int) + 1 ≤ (c : Int) := by omega
  have b3 : (l.length : Int) < (l.length : Int) + 1 := by omega
  go_enter Tryd.func9, Tryd.ntmps9
  go_wp2
  go_loopw [5] (fun i wr => ∃ k : Nat, k ≤ l.length ∧ i = .int .i64 k ∧ ∃ n, wr = w.drewN n) (fun i _ => l.length - (intOf i).toNat)
  case atStart => exact ⟨0, by omega, rfl, 0, rfl⟩
  case round =>
    obtain ⟨k, hk, rfl, n0, rfl⟩ := hrel
    by_cases hlt : k < l.length
    · obtain ⟨b1, o1, e1, h1⟩ : ∃ b off, some (⟨g, 0, none⟩ : Addr) = some ⟨b, off, none⟩ ∧ ∀ j (h : j < l.length), w.cell? ⟨b, off + j, none⟩ = some (.int .u8 (l[j].toNat : Int)) := hbt.resolve_left (by rintro rfl; simp at hlt)
      cases e1
      obtain ⟨b2, o2, rfl, h2⟩ : ∃ b' off, a = some ⟨b', off, none⟩ ∧ ∀ j (h : j < l.length), w.cell? ⟨b', off + j, none⟩ = some (.int .u8 (l[j].toNat : Int)) := hb.resolve_left (by rintro rfl; simp at hlt)
      have c1 := h1 k hlt
      rw [Nat.zero_add] at c1
      have c2 := h2 k hlt
      clear h1 h2 hbt hb
      have b1' : (k : Int) < (l.length : Int) := by omega
      have hbne : ((l[k].toNat : Int) != (l[k].toNat : Int)) = false := by simp
      go_wp2_with fail
      go_quiet (fail)
      go_wp2
      refine ⟨⟨k + 1, by omega, by go_num, n0 + nq, rfl⟩, ?_⟩
      simp [intOf]; omega
    · obtain rfl : k = l.length := by omega
      clear hbt hb
      go_wp2
      go_ret
      exact ⟨rfl, n0, rfl⟩
end Go.Proofs.YtanlgidliflepaaDoor
