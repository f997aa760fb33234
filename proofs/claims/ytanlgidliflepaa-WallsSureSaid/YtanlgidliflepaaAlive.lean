/- The law's own sample ('alive') tells true. Conditions: none. -/
import Derived.Test.YtanlgidliflepaaRoom
import Derived.Test.YtanlgidliflepaaBEq
import Derived.Lib.SlBytesConst
namespace Go.Proofs.Ytanlgidliflepaa
open Go.RowKit

theorem isB_one (w : World) (v : UInt8) (u : Int) (hu : u = (v.toNat : Int)) : IsB (w.alloc (.cells #[.int .u8 u] 5 (1, 2))) (some ⟨w.heap.size, 0, none⟩) [v] := by
  subst hu
  exact IsB.of_blk (heap_alloc_new w _) [v] fun j hj => by
    have : j = 0 := by simpa using hj
    subst this; rfl
theorem addTo_n (S : Dk) (at_ : Nat) (f : List UInt8) : ∀ k, (addTo S at_ f k).n = S.n
  | 0 => rfl
  | k + 1 => addTo_n S at_ f k
theorem add_n (S : Dk) (at_ : Nat) (r : List UInt8) : (S.add at_ r).n = S.n := addTo_n _ _ _ _
theorem addTo_sure (S : Dk) (at_ : Nat) (f : List UInt8) : ∀ k, (addTo S at_ f k).sure = S.sure
  | 0 => rfl
  | k + 1 => addTo_sure S at_ f k
theorem keepTo_none (torn : Int) (ws : List (Nat × List UInt8)) (sure : List UInt8) : ∀ k, keepTo 0 torn ws sure k = sure
  | 0 => rfl
  | k + 1 => by
    rw [keepTo]
    split
    · exact keepTo_none torn ws sure k
    · rw [keepOne, if_pos (by simp)]; exact keepTo_none torn ws sure k
theorem fail_law {w0 w : World} {D L at_ : Nat} {S : Dk} {fp : Nat → Prop} {rs : List (List UInt8)} (h : Sess w0 w D L at_ S fp rs) (keep : Nat) (torn : Int) (hk : keep < 18446744073709551616) (ht : -1 ≤ torn) (ht2 : torn ≤ 9223372036854775807) {kI : Int} (hI : kI = keep) :
    Calls Try.prog 13 #[.pointer (some ⟨D, 0, none⟩), .int .u64 kI, .int .i64 torn] w fun e w' => ∃ C fpC, e = .returned (.tuple #[.pointer (some ⟨C, 0, none⟩), .int .i64 0]) ∧ IsDsk w' C (S.fail keep torn) fpC ∧ (S.fail keep torn).n = S.n ∧ (∀ k, fpC k → w.heap.size ≤ k) ∧ (∀ k, fp k → ¬ fpC k) ∧ Fr noBlk w w' := by
  subst hI
  have hle := h.holds.le
  have hm := h.dsk.isok.most
  have hwl := h.wl
  have hlt := h.dsk.lt
  refine (fail_any D S fp keep torn w h.dsk hk ht ht2 (by omega)).mono ?_
  rintro e w' ⟨C, rfl, hd, hf⟩
  exact ⟨C, _, rfl, hd, rfl, fun k hk => hk.1, fun k hk e => by have := hlt k hk; have := e.1; omega, hf⟩
theorem secs_1 : secs 1 = 1 := by decide
theorem secs_100 : secs 100 = 2 := by decide
theorem secs_56 : secs 56 = 1 := by decide
theorem secs_57 : secs 57 = 2 := by decide

set_option maxHeartbeats 400000 in
theorem alive_any (w : World) : Calls Try.prog 10 #[] w fun e w' => e = .returned (.bool true) ∧ Fr noBlk w w' := by
  have hm1 : ∀ w, (Instr.makeSlice 22 (.int .i64 100) (.int .i64 100)).run Try.prog w = .ok (.slice (some ⟨w.heap.size, 0, none⟩) 100 100) (w.alloc (.cells (bvals (zeros 100)).toArray 5)) := fun w => make_bytes 100 (by omega) w
  have hm2 : ∀ w, (Instr.makeSlice 22 (.int .i64 57) (.int .i64 57)).run Try.prog w = .ok (.slice (some ⟨w.heap.size, 0, none⟩) 57 57) (w.alloc (.cells (bvals (zeros 57)).toArray 5)) := fun w => make_bytes 57 (by omega) w
  have hm3 : ∀ w, (Instr.makeSlice 22 (.int .i64 16385) (.int .i64 16385)).run Try.prog w = .ok (.slice (some ⟨w.heap.size, 0, none⟩) 16385 16385) (w.alloc (.cells (bvals (zeros 16385)).toArray 5)) := fun w => make_bytes 16385 (by omega) w
  obtain ⟨z1, hz1⟩ : ∃ z, zeros 100 = z := ⟨_, rfl⟩
  obtain ⟨z2, hz2⟩ : ∃ z, zeros 57 = z := ⟨_, rfl⟩
  obtain ⟨z3, hz3⟩ : ∃ z, zeros 16385 = z := ⟨_, rfl⟩
  have l1 : z1.length = 100 := by rw [← hz1, zeros_length]
  have l2 : z2.length = 57 := by rw [← hz2, zeros_length]
  have l3 : z3.length = 16385 := by rw [← hz3, zeros_length]
  rw [hz1] at hm1
  rw [hz2] at hm2
  rw [hz3] at hm3
  clear hz1 hz2 hz3
  have kc := fun (w : World) (C : Array Value) (n c : Nat) => Lib.run_convert_bytes_const (P := Try.prog) w 22 5 C n c Try.underlying22 Try.underlying5
  go_enter Try.func10, Try.ntmps10
  go_wp2_with (go_at_call 12; refine (new_law 4 w (by omega) (by omega) rfl).mono ?_; rintro e w1 ⟨D, S1, fp1, rfl, hd1, hn1, hw1, hp1, hb1, hf1⟩)
  have HO := Lib.hid (open_law w D S1 fp1 w1 hd1 (by rw [hw1]; exact Nat.zero_le _) hf1 hb1)
  go_wp2_with (go_at_call 9; refine HO.out.mono ?_; rintro e w2 ⟨L, a2, c2, rs2, fp2, E2, S2, rfl, hp2, hc2, hn2, hL2, hLE2, hE2, hI2, hs2, hw2, hsu2, hnn2, hsb2, hfr2⟩; obtain rfl := pairs_inj (hp1.symm.trans hp2))
  have hS2 : S2.n = 4 := by rw [hnn2, hn1]
  have h3 := hs2.still (Fr.alloc w2 (.cells #[.int .u8 97] 5 (1, 2)))
  have HA := Lib.hid (add_law h3 (some ⟨w2.heap.size, 0, none⟩) [97] 1 1 rfl (isB_one w2 97 97 rfl) (by simp) (by rw [hS2]; decide))
  clear h3
  go_wp2_with (go_at_call 6; with_reducible refine HA.out.mono ?_; rintro e w3 ⟨rfl, fp3, hs3, hf3, hsb3⟩)
  clear HA
  have hn3 : (S2.add (secsAll []) [97]).n = 4 := by rw [add_n, hS2]
  obtain ⟨S3, hS3⟩ : ∃ S, S2.add (secsAll []) [97] = S := ⟨_, rfl⟩
  rw [hS3] at hs3 hn3
  clear hS3
  rw [show secsAll [] + secs ([97] : List UInt8).length = 1 from by decide, List.nil_append] at hs3
  have h4 := hs3.still (Fr.alloc w3 (.cells (bvals z1).toArray 5))
  have HA := Lib.hid (add_law h4 (some ⟨w3.heap.size, 0, none⟩) z1 100 100 l1.symm (IsB.of_bvals (heap_alloc_new _ _)) (by omega) (by rw [hn3, l1]; decide))
  clear h4
  go_wp2_with (go_at_call 6; with_reducible refine HA.out.mono ?_; rintro e w4 ⟨rfl, fp4, hs4, hf4, hsb4⟩)
  clear HA
  have hn4 : (S3.add 1 z1).n = 4 := by rw [add_n, hn3]
  obtain ⟨S4, hS4⟩ : ∃ S, S3.add 1 z1 = S := ⟨_, rfl⟩
  rw [hS4] at hs4 hn4
  clear hS4
  rw [show 1 + secs z1.length = 3 from by rw [l1]; decide] at hs4
  have HR := room_law hs4 56 (by omega) (nI := 56) rfl
  rw [decide_eq_true (by rw [hn4]; decide)] at HR
  have HR := Lib.hid HR
  go_wp2_with (go_at_call 8; with_reducible refine HR.out.mono ?_; rintro e w5 ⟨rfl, hs5, hf5⟩)
  clear HR
  have HR := room_law hs5 57 (by omega) (nI := 57) rfl
  rw [decide_eq_false (by rw [hn4]; decide)] at HR
  have HR := Lib.hid HR
  go_wp2_with (go_at_call 8; with_reducible refine HR.out.mono ?_; rintro e w6 ⟨rfl, hs6, hf6⟩)
  clear HR
  have h7 := hs6.still (Fr.alloc w6 (.cells (bvals z2).toArray 5))
  have HA := Lib.hid (full_law h7 (some ⟨w6.heap.size, 0, none⟩) z2 57 57 l2.symm (IsB.of_bvals (heap_alloc_new _ _)) (by omega) (by rw [hn4, l2]; decide))
  clear h7
  go_wp2_with (go_at_call 6; with_reducible refine HA.out.mono ?_; rintro e w7 ⟨rfl, hs7, hf7⟩)
  clear HA
  have h8 := hs7.still (Fr.alloc w7 (.cells (bvals z3).toArray 5))
  have HA := Lib.hid (add_long L D 3 (some ⟨w7.heap.size, 0, none⟩) 16385 16385 _ h8.log (by omega) (by omega))
  go_wp2_with (go_at_call 6; with_reducible refine HA.out.mono ?_; rintro e w8 ⟨rfl, rfl⟩)
  clear HA
  clear hm1 hm2 hm3
  obtain ⟨v8, hv8⟩ : ∃ x, w7.alloc (.cells (bvals z3).toArray 5) = x := ⟨_, rfl⟩
  rw [hv8] at h8 ⊢
  clear hv8
  have HF := Lib.hid (force_law h8)
  go_wp2_with (go_at_call 7; with_reducible refine HF.out.mono ?_; rintro e w9 ⟨rfl, hs9, hf9⟩)
  clear HF
  obtain ⟨S5, hS5, hn5, hp5⟩ : ∃ S, S4.sync = S ∧ S.n = 4 ∧ parse S.sure = pairs ([[97]] ++ [z1]) := ⟨_, rfl, hn4, h8.holds.parse⟩
  rw [hS5] at hs9
  clear hS5
  have h10 := hs9.still (Fr.alloc w9 (.cells #[.int .u8 98] 5 (1, 2)))
  have HA := Lib.hid (add_law h10 (some ⟨w9.heap.size, 0, none⟩) [98] 1 1 rfl (isB_one w9 98 98 rfl) (by simp) (by rw [hn5]; decide))
  go_wp2_with (go_at_call 6; with_reducible refine HA.out.mono ?_; rintro e v10 ⟨rfl, fp10, hs10, hf10, hsb10⟩)
  clear HA h10
  obtain ⟨S6, hS6, hp6⟩ : ∃ S, S5.add 3 [98] = S ∧ parse S.sure = pairs ([[97]] ++ [z1]) := ⟨_, rfl, by rw [Dk.add, addTo_sure]; exact hp5⟩
  rw [hS6, show 3 + secs ([98] : List UInt8).length = 4 from by decide] at hs10
  clear hS6
  have HF := Lib.hid (fail_law hs10 0 (-1) (by omega) (by omega) (by omega) (kI := 0) rfl)
  go_wp2_with (go_at_call 13; with_reducible refine HF.out.mono ?_; rintro e v11 ⟨C, fpC, rfl, hdC, hnC, hC1, hC2, hf11⟩)
  clear HF
  have hpC : parse (S6.fail 0 (-1)).seen = pairs ([[97]] ++ [z1]) := by
    show parse (keepTo _ _ _ _ _) = _
    rw [keepTo_none]; exact hp6
  obtain ⟨SC, hSC, hwC⟩ : ∃ S, S6.fail 0 (-1) = S ∧ S.waits = [] := ⟨_, rfl, rfl⟩
  rw [hSC] at hdC hpC
  clear hSC
  have hs11 := hs10.still hf11
  have HO := Lib.hid (open_law w C SC fpC v11 hdC (by rw [hwC]; exact Nat.zero_le _) hs11.fr (fun k hk => Nat.le_trans hs10.fr.size (hC1 k hk)))
  go_wp2_with (go_at_call 9; with_reducible refine HO.out.mono ?_; rintro e v12 ⟨L2, a12, c12, rs12, fp12, E12, S12, rfl, hp12, hc12, hn12, hL12, hLE12, hE12, hI12, hs12, _, _, _, _, hfr12⟩; obtain rfl := pairs_inj (hpC.symm.trans hp12))
  clear HO
  have hdD := hs11.dsk.fr hfr12 hC2
  have HO := Lib.hid (open_law w D S6 fp10 v12 hdD (by have := hs10.wl; omega) hs12.fr hs10.new)
  go_wp2_with (go_at_call 9; with_reducible refine HO.out.mono ?_; rintro e v13 ⟨L3, a13, c13, rs13, fp13, E13, S13, rfl, hp13, hc13, hn13, hL13, hLE13, hE13, hI13, hs13, _, _, _, _, hfr13⟩; obtain rfl := pairs_inj (hs10.holds.parse.symm.trans hp13))
  clear HO
  have hIp := hI12.fr hfr13 (fun k hk e => by have := hs10.dsk.lt k e; have := hf11.size; omega)
  obtain ⟨b1, o1, rfl, _, hq1⟩ := hIp.resolve_left (by simp)
  obtain ⟨b2, o2, rfl, _, hq2⟩ := hI13.resolve_left (by simp)
  obtain ⟨x0, y0, e0, i0, _⟩ := hq1 0 (by simp)
  obtain ⟨x1, y1, e1, i1, _⟩ := hq1 1 (by simp)
  obtain ⟨x2, y2, e2, i2, _⟩ := hq2 2 (by simp)
  obtain ⟨b3, o3, rfl, _⟩ := i0.resolve_left (by simp)
  obtain ⟨b4, o4, rfl, _⟩ := i2.resolve_left (by simp)
  have k0 := conv_bytes v13 b3 o3 y0 [97] i0
  have k2 := conv_bytes v13 b4 o4 y2 [98] i2
  simp only [List.cons_append, List.nil_append, List.getElem_cons_zero, List.getElem_cons_succ, List.length_cons, List.length_nil, Nat.zero_add, Nat.add_zero, l1] at e0 e1 e2 k0 k2
  have hfin := hs13.fr
  clear hq1 hq2 hIp hI13 hI12 i0 i1 i2
  go_wp2
  go_ret
  exact ⟨rfl, hfin⟩
end Go.Proofs.Ytanlgidliflepaa
