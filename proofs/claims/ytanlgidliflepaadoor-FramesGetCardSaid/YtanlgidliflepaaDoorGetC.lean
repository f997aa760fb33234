/- The law FramesGet: it tells true. Conditions: what a Go slice has. -/
import Derived.Test.YtanlgidliflepaaDoorRefGet
import Derived.Test.YtanlgidliflepaaDoorTwin
import Derived.Test.YtanlgidliflepaaDoorBkBook
import Derived.Test.YtanlgidliflepaaDoorSameB
namespace Go.Proofs.YtanlgidliflepaaDoor
open Go.RowKit

/-- What Get tells: a record; of how many sectors its frame is; its error. -/
def getB (l : List UInt8) : List UInt8 := ((getF l).map (·.1)).getD []
def getN (l : List UInt8) : Nat := ((getF l).map (·.2)).getD 0
def getE (l : List UInt8) : Int := if (getF l).isSome then 0 else 4
theorem getB_le (l : List UInt8) : (getB l).length ≤ l.length := by
  unfold getB
  cases h : getF l with
  | none => simp
  | some x =>
    unfold getF at h
    split at h
    · cases h
    · split at h
      · cases h
      · split at h
        · cases h
        · split at h
          · cases h
            simp only [Option.map_some, Option.getD_some, List.length_take, List.length_drop]; omega
          · cases h
theorem getN_le (l : List UInt8) : getN l ≤ 16777216 := by
  unfold getN
  cases h : getF l with
  | none => simp
  | some x =>
    unfold getF at h
    split at h
    · cases h
    · split at h
      · cases h
      · split at h
        · cases h
        · split at h
          · cases h
            simp only [Option.map_some, Option.getD_some]
            have := secs_ge (numK (l.take 4)); omega
          · cases h
theorem got_law {w w' : World} {l : List UInt8} {e : Ending} (h : Got w l e w') : ∃ x c, e = .returned (.tuple #[.slice x (getB l).length c, .int .i64 (getN l : Nat), .int .i64 (getE l)]) ∧ w'.ownsRow w.heap.size 5 1 (.slice x (getB l).length c) (getB l).length (bvals (getB l)) ∧ Fr noBlk w w' := by
  obtain ⟨hf, ⟨h, rfl⟩ | ⟨r, k, v, h, rfl, ho⟩⟩ := h
  · refine ⟨none, 0, ?_, ?_, hf⟩
    · simp [getB, getN, getE, h]
    · simp only [getB, h, Option.map_none, Option.getD_none]; exact World.ownsRow_nil _ _ _ _
  · obtain ⟨x, c, rfl, _⟩ := row_slice ho
    refine ⟨x, c, ?_, ?_, hf⟩
    · simp [getB, getN, getE, h]
    · simp only [getB, h, Option.map_some, Option.getD_some]; exact ho
theorem row_isB {w : World} {base n c : Nat} {a : Option Addr} {l : List UInt8} (h : w.ownsRow base 5 1 (.slice a n c) n (bvals l)) : IsB w a l := isB_row2 h

set_option maxRecDepth 20000 in
set_option maxHeartbeats 4000000 in
theorem framesGet_any (a : Option Addr) (l : List UInt8) (cap : Nat) (w : World) (hl : l.length ≤ 140737488355328) (hc : l.length ≤ cap) (hc2 : cap ≤ 9223372036854775807) (hb : IsB w a l) :
    Calls Tryd.prog 4 #[.slice a l.length cap] w fun e w' => e = .returned (.bool true) ∧ Fr noBlk w w' := by
  by_cases h30 : 30000 < l.length
  · have d30 : decide ((30000 : Int) < (l.length : Int)) = true := decide_eq_true (by omega)
    have i30 : (30000 : Int) < (l.length : Int) := by omega
    go_enter Tryd.func4, Tryd.ntmps4
    go_wp2_with fail
    go_ret
    exact ⟨rfl, Fr.refl _ _⟩
  have d30 : decide ((30000 : Int) < (l.length : Int)) = false := decide_eq_false (by omega)
  have HT := Lib.hid (twin_any a l cap w (by omega) hb)
  have HP := Lib.hid (fun a' c' w' (h1 : l.length ≤ c') (h2 : c' ≤ 9223372036854775807) hb' hlt' => (get_any a' l c' w' (by omega) h1 h2 hb' hlt').mono (fun e w'' h => got_law h))
  have HR := Lib.hid (fun w' hb' => (refGet_any a l cap w' (by omega) hc hc2 hb').mono (fun e w'' h => got_law h))
  obtain ⟨n, hn0⟩ : ∃ n, l.length = n := ⟨_, rfl⟩
  have hn30 : n ≤ 30000 := by omega
  have HN0 := Lib.hid hn0
  have hPl := getB_le l
  have hNl := getN_le l
  rw [hn0] at HT HP HR d30 hPl ⊢
  obtain ⟨P, hP⟩ : ∃ P, getB l = P := ⟨_, rfl⟩
  obtain ⟨E, hE⟩ : ∃ E, getE l = E := ⟨_, rfl⟩
  obtain ⟨M, hM⟩ : ∃ M, getN l = M := ⟨_, rfl⟩
  rw [hP] at HP HR hPl
  rw [hE] at HP HR
  rw [hM] at HP HR hNl
  clear hP hE h30 hn0 hM hc hc2
  go_enter Tryd.func4, Tryd.ntmps4
  go_wp2_with (go_at_call 5; (with_reducible refine HT.out.mono ?_); rintro e w1 ⟨gt, ct, rfl, ht1, hf1⟩)
  obtain ⟨hc1, hc1'⟩ := ht1.cap
  simp only [maxLen] at hc1'
  have hc1 : n ≤ ct := by have := HN0.out; omega
  have hgt0 := ht1.row.lt gt rfl
  have hgt1 : ∀ x, some (⟨gt, 0, none⟩ : Addr) = some x → x.block < w1.heap.size := fun x hx => by cases hx; exact hgt0.2
  go_wp2_with (go_at_call 12; (with_reducible refine (HP.out _ _ _ hc1 hc1' ht1.isB hgt1).mono ?_); rintro e w2 ⟨x1, c1, rfl, ho1, hf2⟩)
  have ht2 := ht1.fr hf2 (not_noBlk _)
  have hgt2 : ∀ x, some (⟨gt, 0, none⟩ : Addr) = some x → x.block < w2.heap.size := fun x hx => by cases hx; have := hf2.size; have := hgt0.2; simp only; omega
  go_wp2_with (go_at_call 12; (with_reducible refine (HP.out _ _ _ hc1 hc1' ht2.isB hgt2).mono ?_); rintro e w3 ⟨x2, c2, rfl, ho2, hf3⟩)
  have hF3 := (hf1.trans hf2 (fun _ h => h.elim)).trans hf3 (fun _ h => h.elim)
  go_wp2_with (go_at_call 13; (with_reducible refine (HR.out _ (hb.fr hF3 (fun _ _ => not_noBlk _))).mono ?_); rintro e w4 ⟨x3, c3, rfl, ho3, hf4⟩)
  have hP47 : P.length ≤ 140737488355328 := by omega
  have ho1' := (hf3.trans hf4 (fun _ h => h.elim)).row ho1 (fun _ _ => not_noBlk _)
  have ho2' := hf4.row ho2 (fun _ _ => not_noBlk _)
  have ht4 := (ht2.fr hf3 (not_noBlk _)).fr hf4 (not_noBlk _)
  have hF4 := hF3.trans hf4 (fun _ h => h.elim)
  have hs1 := hf1.size
  have hs2 := hf2.size
  have hs3 := hf3.size
  have hs4 := hf4.size
  have hgt := ht1.row.lt gt rfl
  have r1 : ∀ g, (Value.slice x1 P.length c1).ownBlock = some g → w1.heap.size ≤ g ∧ g < w2.heap.size := fun g h => ho1.lt g h
  have r2 : ∀ g, (Value.slice x2 P.length c2).ownBlock = some g → w2.heap.size ≤ g ∧ g < w3.heap.size := fun g h => ho2.lt g h
  have R1 := Lib.hid r1
  have R2 := Lib.hid r2
  have S1 := sameB_any x1 x3 P P c1 c3 w4 hP47 hP47 (row_isB ho1') (row_isB ho3)
  rw [decide_eq_true rfl] at S1
  have S1 := Lib.hid S1
  clear ho1 ho2 ht1 ht2 r1 r2
  go_wp2_with (go_at_call 8; (with_reducible refine S1.out.mono ?_); rintro e w5 ⟨rfl, hf5⟩)
  have S2 := sameB_any x2 x3 P P c2 c3 w5 hP47 hP47 ((row_isB ho2').fr hf5 (fun _ _ => not_noBlk _)) ((row_isB ho3).fr hf5 (fun _ _ => not_noBlk _))
  rw [decide_eq_true rfl] at S2
  have S2 := Lib.hid S2
  go_wp2_with (go_at_call 8; (with_reducible refine S2.out.mono ?_); rintro e w6 ⟨rfl, hf6⟩)
  have hf46 := hf5.trans hf6 (fun _ h => h.elim)
  have HL := left_any gt ct a l cap _ w6 (by have := HN0.out; omega) (ht4.fr hf46 (not_noBlk _)) (hb.fr (hF4.trans hf46 (fun _ h => h.elim)) (fun _ _ => not_noBlk _))
  rw [HN0.out] at HL
  have HL := Lib.hid HL
  go_wp2_with (go_at_call 9; (with_reducible refine HL.out.mono ?_); rintro e w7 ⟨rfl, nq, hw7⟩; have hf7 : Fr noBlk w6 w7 := hw7 ▸ Fr.drewN w6 nq; clear hw7)
  have hfK := Fr.alloc w7 (.cells #[.int .i64 0, .slice none 0 0, .slice none 0 0, .slice none 0 0, .slice none 0 0, .slice none 0 0, .slice none 0 0, .slice none 0 0, .slice none 0 0, .slice none 0 0, .slice none 0 0, .slice none 0 0, .slice none 0 0] 41)
  have hK := heap_alloc_new w7 (.cells #[.int .i64 0, .slice none 0 0, .slice none 0 0, .slice none 0 0, .slice none 0 0, .slice none 0 0, .slice none 0 0, .slice none 0 0, .slice none 0 0, .slice none 0 0, .slice none 0 0, .slice none 0 0, .slice none 0 0] 41)
  obtain ⟨w8, hw8⟩ : ∃ x, w7.alloc (.cells #[.int .i64 0, .slice none 0 0, .slice none 0 0, .slice none 0 0, .slice none 0 0, .slice none 0 0, .slice none 0 0, .slice none 0 0, .slice none 0 0, .slice none 0 0, .slice none 0 0, .slice none 0 0, .slice none 0 0] 41) = x := ⟨_, rfl⟩
  rw [hw8] at hfK hK ⊢
  clear hw8
  obtain ⟨K, hKe⟩ : ∃ x, w7.heap.size = x := ⟨_, rfl⟩
  rw [hKe] at hK ⊢
  have hs46 := hf46.size
  have hs7 := hf7.size
  have hKlt := blk_lt hK
  have hf48 := (hf46.trans hf7 (fun _ h => h.elim)).trans hfK (fun _ h => h.elim)
  have ht8 := ht4.fr hf48 (not_noBlk _)
  have ho18 := hf48.row ho1' (fun _ _ => not_noBlk _)
  have ho28 := hf48.row ho2' (fun _ _ => not_noBlk _)
  have hF8 := hF4.trans hf48 (fun _ h => h.elim)
  obtain ⟨B, hBe⟩ : ∃ x, w.heap.size = x := ⟨_, rfl⟩
  have hbook := IsBook.new (B := B) hK (by omega)
  have htr := ht8.row
  rw [hBe] at htr
  rw [HN0.out] at htr
  have HB1 := Lib.hid (bytes_any B K [] _ w8 hbook (by omega) (by simp) (some ⟨gt, 0, none⟩) n ct (bvals l) htr (fun g hg => by simp [Value.ownBlock] at hg; omega) (by omega))
  have HKE := Lib.hid hKe
  have HBE := Lib.hid hBe
  clear hKe hBe hK
  go_wp2_with (go_at_call 10; (with_reducible refine HB1.out.mono ?_); rintro e w9 ⟨rfl, fp9, hb9, hfp9, hf9⟩)
  have hs8 := hfK.size
  have hs9 := hf9.size
  have k1 : ∀ g, (Value.slice x1 P.length c1).ownBlock = some g → ¬ fp9 g := fun g hg h => by
    have := R1.out g hg
    have := HKE.out
    rcases hfp9 g h with h | h | h
    · omega
    · simp [Value.ownBlock] at h; omega
    · omega
  have ho19 := row_base' (hf9.row ho18 (fun g hg h => by have := R1.out g hg; have := HKE.out; omega)) (show B ≤ w1.heap.size by have := HBE.out; omega)
  have HB2 := Lib.hid (bytes_any B K _ fp9 w9 hb9 (by have := HBE.out; omega) (by simp) x1 P.length c1 (bvals P) ho19 k1 (by omega))
  go_wp2_with (go_at_call 10; (with_reducible refine HB2.out.mono ?_); rintro e w10 ⟨rfl, fp10, hb10, hfp10, hf10⟩)
  have hs10 := hf10.size
  have k2 : ∀ g, (Value.slice x2 P.length c2).ownBlock = some g → ¬ fp10 g := fun g hg h => by
    have := R2.out g hg
    have := HKE.out
    rcases hfp10 g h with h | h | h
    · rcases hfp9 g h with h | h | h
      · omega
      · simp [Value.ownBlock] at h; omega
      · omega
    · have := R1.out g h; omega
    · omega
  have k3 : ∀ g, (Value.slice x2 P.length c2).ownBlock = some g → ¬ fp9 g := fun g hg h => by
    have := R2.out g hg
    have := HKE.out
    rcases hfp9 g h with h | h | h
    · omega
    · simp [Value.ownBlock] at h; omega
    · omega
  have ho210 := row_base' (hf10.row (hf9.row ho28 (fun g hg h => by have := R2.out g hg; have := HKE.out; omega)) k3) (show B ≤ w2.heap.size by have := HBE.out; omega)
  have HB3 := Lib.hid (bytes_any B K _ fp10 w10 hb10 (by have := HBE.out; omega) (by simp) x2 P.length c2 (bvals P) ho210 k2 (by omega))
  go_wp2_with (go_at_call 10; (with_reducible refine HB3.out.mono ?_); rintro e w11 ⟨rfl, fp11, hb11, hfp11, hf11⟩)
  have hs11 := hf11.size
  have HA := Lib.hid (apart_any B K _ fp11 w11 hb11 (by have := HBE.out; omega))
  go_wp2_with (go_at_call 11; (with_reducible refine HA.out.mono ?_); rintro e w12 ⟨rfl, hf12⟩)
  go_ret
  refine ⟨rfl, ?_⟩
  have hBw := HBE.out
  exact (((hF8.trans hf9 (fun j h => .inr (by have := HKE.out; omega))).trans hf10 (fun j h => .inr (by have := (hb9.lt j h).1; omega))).trans hf11 (fun j h => .inr (by have := (hb10.lt j h).1; omega))).trans hf12 (fun j h => .inr (by have := (hb11.lt j h).1; omega))
end Go.Proofs.YtanlgidliflepaaDoor
