/- The law WallsAll: it tells true. Conditions: what a Go slice has. -/
import Derived.Test.YtanlgidliflepaaAlive
namespace Go.Proofs.Ytanlgidliflepaa
open Go.RowKit

theorem lens_take_le (ls : List (List UInt8)) : ∀ k, secsAll (ls.take k) * 64 ≤ lens ls + 71 * k := by
  induction ls with
  | nil => intro k; simp [secsAll]
  | cons x ls ih =>
    intro k
    cases k with
    | zero => simp [secsAll]
    | succ k =>
      have := ih k
      have hs := secs_ge x.length
      simp only [List.take_succ_cons, secsAll, lens, List.map_cons, List.sum_cons] at this ⊢
      omega

set_option maxHeartbeats 4000000 in
theorem wallsAll_any (a0 : Option Addr) (cap : Nat) (ls : List (List UInt8)) (forced : Bool) (w : World) (ha : IsLx (fun k => k < w.heap.size) w a0 ls) (hll : ls.length ≤ 140737488355328) :
    Calls Try.prog 5 #[.slice a0 ls.length cap, .bool forced] w fun e w' => e = .returned (.bool true) ∧ Fr noBlk w w' := by
  have HAL := Lib.hid alive_any
  by_cases h40 : 40 < ls.length
  · go_enter Try.func5, Try.ntmps5
    go_wp2_with (go_at_call 10; with_reducible refine (HAL.out w).mono ?_; rintro e w1 ⟨rfl, hf1⟩)
    go_wp2_with (go_at_call 10; with_reducible refine (HAL.out w1).mono ?_; rintro e w2 ⟨rfl, hf2⟩)
    go_ret
    exact ⟨rfl, hf1.trans hf2 (fun _ h => h.elim)⟩
  go_enter Try.func5, Try.ntmps5
  go_wp2_with (go_at_call 10; with_reducible refine (HAL.out w).mono ?_; rintro e w1 ⟨rfl, hf1⟩)
  have HRS := Lib.hid (recordsSize_any a0 ls cap w1 hll (ha.isL.still hf1))
  rw [show decide ((40 : Int) < (ls.length : Int)) = false from decide_eq_false (by omega)]
  go_wp2_with (go_at_call 11; with_reducible refine HRS.out.mono ?_; rintro e w1' ⟨n, rfl, hn, rfl⟩; by_cases h20 : 20000 < n)
  · go_wp2_with (go_at_call 10; with_reducible refine (HAL.out w1).mono ?_; rintro e w2 ⟨rfl, hf2⟩)
    go_ret
    exact ⟨rfl, hf1.trans hf2 (fun _ h => h.elim)⟩
  rw [show decide ((20000 : Int) < (n : Int)) = false from decide_eq_false (by omega)]
  have hlens : lens ls ≤ 20000 := by have := hn (by omega); omega
  have hsec : ∀ k, k ≤ 40 → secsAll (ls.take k) ≤ 400 := fun k hk => by have := lens_take_le ls k; omega
  have HN := Lib.hid (new_law 1200 w1 (by omega) (by omega) (nI := 1200) rfl)
  go_wp2_with (go_at_call 12; with_reducible refine HN.out.mono ?_; rintro e w2 ⟨D, S1, fp1, rfl, hd1, hn1, hw1, hp1, hb1, hf2⟩)
  clear HN
  have HO := Lib.hid (open_law w D S1 fp1 w2 hd1 (by rw [hw1]; exact Nat.zero_le _) (hf1.trans hf2 (fun _ h => h.elim)) (fun k hk => Nat.le_trans hf1.size (hb1 k hk)))
  go_wp2_with (go_at_call 9; with_reducible refine HO.out.mono ?_; rintro e w3 ⟨L, a3, c3, rs3, fp3, E3, S3, rfl, hp3, hc3, hn3, hL3, hLE3, hE3, hI3, hs3, hw3, hsu3, hnn3, hsb3, hfr3⟩; obtain rfl := pairs_inj (hp1.symm.trans hp3))
  clear HO
  have hS3 : S3.n = 1200 := by rw [hnn3, hn1]
  clear hp1 hp3 hnn3 hn1 hI3 hn3 hc3 hsu3 hsb3 hfr3 hd1 hw1 hb1
  go_loopw [10] (fun i wr => ∃ (k : Nat) (S : Dk) (fp : Nat → Prop), k ≤ ls.length ∧ i = .int .i64 k ∧ Sess w wr D L (secsAll (ls.take k)) S fp (ls.take k) ∧ S.n = 1200 ∧ (forced = true → S.waits = [])) (fun i _ => ls.length - (intOf i).toNat)
  case atStart => exact ⟨0, S3, fp3, by omega, rfl, by rw [List.take_zero]; exact hs3, hS3, fun _ => hw3⟩
  case round =>
    obtain ⟨k, S, fp, hk, rfl, hs, hSn, hfo⟩ := hrel
    by_cases hlt : k < ls.length
    · have haw := ha.fr hs.fr (fun _ _ => not_noBlk _)
      obtain ⟨b, off, rfl, _, hq⟩ := haw.resolve_left (by rintro rfl; simp at hlt)
      obtain ⟨x, c, e1, i1, _, h47, hx1⟩ := hq k hlt
      have HT := Lib.hid (List.take_succ_eq_append_getElem hlt)
      have hsk := hsec (k + 1) (by omega)
      rw [HT.out, secsAll_append] at hsk
      clear hq haw ha
      generalize hr : ls[k] = r at *
      clear hr
      have hsr : secsAll [r] = secs r.length := by simp [secsAll]
      rw [hsr] at hsk
      have b1 : (k : Int) < (ls.length : Int) := by omega
      by_cases hlong : 16384 < r.length
      · have HA := Lib.hid (add_long L D _ x r.length c wr hs.log hlong (by omega))
        go_wp2_with (go_at_call 6; with_reducible refine HA.out.mono ?_; rintro e w8 ⟨rfl, rfl⟩)
        go_ret
        refine ⟨?_, hs.fr⟩
        show Ending.returned (.bool (decide ((16384 : Int) < (r.length : Int)))) = _
        rw [decide_eq_true (by omega)]
      · have HA := Lib.hid (add_law hs x r r.length c rfl i1 (by omega) (by omega))
        have hadd : secsAll (ls.take k) + secs r.length = secsAll (ls.take (k + 1)) := by rw [HT.out, secsAll_append, hsr]
        have HADD := Lib.hid hadd
        clear hadd
        cases forced with
        | false =>
          go_wp2_with (go_at_call 6; with_reducible refine HA.out.mono ?_; rintro e w8 ⟨rfl, fp8, hs8, hf8, hsb8⟩)
          go_roundw
          case rel => exact ⟨k + 1, _, fp8, by omega, by go_num, by rw [← HADD.out, HT.out]; exact hs8, by rw [add_n]; exact hSn, fun h => by cases h⟩
          case measure => simp [intOf]; omega
        | true =>
          go_wp2_with (go_at_call 6; with_reducible refine HA.out.mono ?_; rintro e w8 ⟨rfl, fp8, hs8, hf8, hsb8⟩)
          have HF := Lib.hid (force_law hs8)
          go_wp2_with (go_at_call 7; with_reducible refine HF.out.mono ?_; rintro e w9 ⟨rfl, hs9, hf9⟩)
          go_roundw
          case rel => exact ⟨k + 1, _, fp8, by omega, by go_num, by rw [← HADD.out, HT.out]; exact hs9, by show (S.add _ r).n = _; rw [add_n]; exact hSn, fun _ => rfl⟩
          case measure => simp [intOf]; omega
    · obtain rfl : k = ls.length := by omega
      rw [List.take_length] at hs
      have hwl := hs.wl
      have hle := hs.holds.le
      have hWW := waits_any D S fp wr hs.dsk
      obtain ⟨m, hm⟩ : ∃ m, S.waits.length = m := ⟨_, rfl⟩
      rw [hm] at hWW hwl
      have HW := Lib.hid hWW
      clear hWW
      cases forced with
      | false =>
        go_wp2_with (go_at_call 16; with_reducible refine HW.out.mono ?_; rintro e w4 ⟨rfl, rfl⟩)
        clear HW
        have HF := Lib.hid (fail_law hs 18446744073709551615 (-1) (by omega) (by omega) (by omega) (kI := 18446744073709551615) rfl)
        go_wp2_with (go_at_call 13; with_reducible refine HF.out.mono ?_; rintro e w5 ⟨C, fpC, rfl, hdC, hnC, hC1, hC2, hf5⟩)
        clear HF
        have hs5 := hs.still hf5
        have hall : m ≤ 64 → parse (S.fail 18446744073709551615 (-1)).seen = pairs ls := fun h => by rw [fail_all hs.dsk.isok hs.coh (by omega)]; exact hs.holds.parse
        obtain ⟨SC, hSC, hwC⟩ : ∃ S', S.fail 18446744073709551615 (-1) = S' ∧ S'.waits = [] := ⟨_, rfl, rfl⟩
        rw [hSC] at hdC hall
        clear hSC
        have HO := Lib.hid (open_law w D S fp w5 hs5.dsk (by omega) hs5.fr hs5.new)
        go_wp2_with (go_at_call 9; with_reducible refine HO.out.mono ?_; rintro e w6 ⟨L6, a6, c6, rs6, fp6, E6, S6, rfl, hp6, hc6, hn6, hL6, hLE6, hE6, hI6, hs6, hw6, hsu6, hnn6, hsb6, hfr6⟩; obtain rfl := pairs_inj (hs.holds.parse.symm.trans hp6))
        clear HO
        have HSR := Lib.hid (sameRecords_any a6 a0 ls ls c6 cap w6 hll hll hI6.isL (ha.fr hs6.fr (fun _ _ => not_noBlk _)).isL)
        go_wp2_with (go_at_call 14; with_reducible refine HSR.out.mono ?_; rintro e w7 ⟨rfl, hf7⟩)
        have HW2 := Lib.hid (waits_any D S6 fp6 w7 (hs6.still hf7).dsk)
        go_wp2_with (go_at_call 16; with_reducible refine HW2.out.mono ?_; rintro e w7' ⟨rfl, rfl⟩)
        clear HW2
        have hdC7 : IsDsk w7 C SC fpC := (hdC.fr hfr6 (fun k hk e => hC2 k e hk)).fr hf7 (fun _ _ => not_noBlk _)
        have HO := Lib.hid (open_law w C SC fpC w7 hdC7 (by rw [hwC]; exact Nat.zero_le _) (hs6.still hf7).fr (fun k hk => Nat.le_trans hs.fr.size (hC1 k hk)))
        go_wp2_with (go_at_call 9; with_reducible refine HO.out.mono ?_; rintro e w8 ⟨L8, a8, c8, rs8, fp8, E8, S8, rfl, hp8, hc8, hn8, hL8, hLE8, hE8, hI8, hs8, hw8, hsu8, hnn8, hsb8, hfr8⟩; by_cases h64 : 64 < m)
        · go_ret
          exact ⟨rfl, hs8.fr⟩
        · obtain rfl := pairs_inj ((hall (by omega)).symm.trans hp8)
          have HSR := Lib.hid (sameRecords_any a8 a0 ls ls c8 cap w8 hll hll hI8.isL (ha.fr hs8.fr (fun _ _ => not_noBlk _)).isL)
          go_wp2_with (go_at_call 14; with_reducible refine HSR.out.mono ?_; rintro e w9 ⟨rfl, hf9⟩)
          go_ret
          exact ⟨by simp, hs8.fr.trans hf9 (fun _ h => h.elim)⟩
      | true =>
        have hm0 : m = 0 := by rw [← hm, hfo rfl]; rfl
        subst hm0
        go_wp2_with (go_at_call 16; with_reducible refine HW.out.mono ?_; rintro e w4 ⟨rfl, rfl⟩)
        clear HW
        have HF := Lib.hid (fail_law hs 18446744073709551615 (-1) (by omega) (by omega) (by omega) (kI := 18446744073709551615) rfl)
        go_wp2_with (go_at_call 13; with_reducible refine HF.out.mono ?_; rintro e w5 ⟨C, fpC, rfl, hdC, hnC, hC1, hC2, hf5⟩)
        clear HF
        have hs5 := hs.still hf5
        have hall : 0 ≤ 64 → parse (S.fail 18446744073709551615 (-1)).seen = pairs ls := fun h => by rw [fail_all hs.dsk.isok hs.coh (by omega)]; exact hs.holds.parse
        obtain ⟨SC, hSC, hwC⟩ : ∃ S', S.fail 18446744073709551615 (-1) = S' ∧ S'.waits = [] := ⟨_, rfl, rfl⟩
        rw [hSC] at hdC hall
        clear hSC
        have HO := Lib.hid (open_law w D S fp w5 hs5.dsk (by omega) hs5.fr hs5.new)
        go_wp2_with (go_at_call 9; with_reducible refine HO.out.mono ?_; rintro e w6 ⟨L6, a6, c6, rs6, fp6, E6, S6, rfl, hp6, hc6, hn6, hL6, hLE6, hE6, hI6, hs6, hw6, hsu6, hnn6, hsb6, hfr6⟩; obtain rfl := pairs_inj (hs.holds.parse.symm.trans hp6))
        clear HO
        have HSR := Lib.hid (sameRecords_any a6 a0 ls ls c6 cap w6 hll hll hI6.isL (ha.fr hs6.fr (fun _ _ => not_noBlk _)).isL)
        go_wp2_with (go_at_call 14; with_reducible refine HSR.out.mono ?_; rintro e w7 ⟨rfl, hf7⟩)
        have HW2 := Lib.hid (waits_any D S6 fp6 w7 (hs6.still hf7).dsk)
        go_wp2_with (go_at_call 16; with_reducible refine HW2.out.mono ?_; rintro e w7' ⟨rfl, rfl⟩)
        clear HW2
        have hdC7 : IsDsk w7 C SC fpC := (hdC.fr hfr6 (fun k hk e => hC2 k e hk)).fr hf7 (fun _ _ => not_noBlk _)
        have HO := Lib.hid (open_law w C SC fpC w7 hdC7 (by rw [hwC]; exact Nat.zero_le _) (hs6.still hf7).fr (fun k hk => Nat.le_trans hs.fr.size (hC1 k hk)))
        go_wp2_with (go_at_call 9; with_reducible refine HO.out.mono ?_; rintro e w8 ⟨L8, a8, c8, rs8, fp8, E8, S8, rfl, hp8, hc8, hn8, hL8, hLE8, hE8, hI8, hs8, hw8, hsu8, hnn8, hsb8, hfr8⟩)
        · obtain rfl := pairs_inj ((hall (by omega)).symm.trans hp8)
          have HSR := Lib.hid (sameRecords_any a8 a0 ls ls c8 cap w8 hll hll hI8.isL (ha.fr hs8.fr (fun _ _ => not_noBlk _)).isL)
          go_wp2_with (go_at_call 14; with_reducible refine HSR.out.mono ?_; rintro e w9 ⟨rfl, hf9⟩)
          go_ret
          exact ⟨by simp, hs8.fr.trans hf9 (fun _ h => h.elim)⟩
end Go.Proofs.Ytanlgidliflepaa
