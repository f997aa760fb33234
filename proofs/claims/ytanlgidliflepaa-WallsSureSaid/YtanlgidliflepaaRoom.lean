/- walls.Room. Conditions: a log over a disk that is there. -/
import Derived.Test.YtanlgidliflepaaSess
namespace Go.Proofs.Ytanlgidliflepaa
open Go.RowKit

theorem room_out (L D at_ : Nat) (n : Int) (w : World) (h : IsLog w L D at_) (hn : n < 0 ∨ 16384 < n) :
    Calls Try.prog 8 #[.pointer (some ⟨L, 0, none⟩), .int .i64 n] w fun e w' => e = .returned (.bool false) ∧ w = w' := by
  have HT := Lib.hid (there_any L D at_ w h)
  by_cases h0 : n < 0
  · go_enter Try.func8, Try.ntmps8
    go_wp2_with (go_at_call 17; refine HT.out.mono ?_; rintro e w' ⟨rfl, rfl⟩)
    go_ret
    exact ⟨rfl, rfl⟩
  · have h1 : 16384 < n := by omega
    go_enter Try.func8, Try.ntmps8
    go_wp2_with (go_at_call 17; refine HT.out.mono ?_; rintro e w' ⟨rfl, rfl⟩)
    go_ret
    exact ⟨rfl, rfl⟩

set_option maxHeartbeats 1000000 in
theorem room_any (L D at_ n : Nat) (S : Dk) (fp : Nat → Prop) (w : World) (h : IsLog w L D at_) (hd : IsDsk w D S fp) (ha : at_ ≤ S.n) (hn : n ≤ 16384) {nI : Int} (hI : nI = n) :
    Calls Try.prog 8 #[.pointer (some ⟨L, 0, none⟩), .int .i64 nI] w fun e w' => e = .returned (.bool (decide (at_ + secs n ≤ S.n))) ∧ Fr noBlk w w' := by
  have HT := Lib.hid (there_any L D at_ w h)
  have hmk := make_bytes n (by omega) w
  rw [← hI] at hmk
  have hok := hd.isok
  have hm := hok.most
  obtain ⟨Z, hZ⟩ : ∃ Z, zeros n = Z := ⟨_, rfl⟩
  have hZl : Z.length = n := by rw [← hZ, zeros_length]
  rw [hZ] at hmk
  clear hZ
  have hf1 := Fr.alloc w (.cells (bvals Z).toArray 5)
  have hnew := heap_alloc_new w (.cells (bvals Z).toArray 5)
  obtain ⟨W1, hW1⟩ : ∃ W1, w.alloc (.cells (bvals Z).toArray 5) = W1 := ⟨_, rfl⟩
  rw [hW1] at hmk hf1 hnew
  have hlt := blk_lt hnew
  have HP := put_any (some ⟨w.heap.size, 0, none⟩) Z n W1 (by omega) (IsB.of_bvals hnew)
  rw [hZl] at HP
  have HP := Lib.hid HP
  have hLd := Lib.hid (fun w1 (hf : Fr noBlk w w1) => left_any L D at_ S fp w1 (hf.blk h (not_noBlk _)) (hd.fr hf (fun _ _ => not_noBlk _)) ha)
  have hs := secs_ge n
  subst hI
  clear hW1
  by_cases hfit : at_ + secs n ≤ S.n
  · rw [decide_eq_true hfit]
    go_enter Try.func8, Try.ntmps8
    go_wp2_with (first | (go_at_call 17; refine HT.out.mono ?_; rintro e w' ⟨rfl, rfl⟩) | (go_at_call 18; refine HP.out.mono ?_; rintro e w6 ⟨g, rfl, hg, hgb, hf6⟩) | (go_at_call 19; refine (hLd.out _ (hf1.trans hf6 (fun _ h => h.elim))).mono ?_; rintro e w7 ⟨rfl, hf7⟩))
    go_ret
    refine ⟨?_, (hf1.trans hf6 (fun _ h => h.elim)).trans hf7 (fun _ h => h.elim)⟩
    show Ending.returned (.bool _) = _
    congr 2
    simp; omega
  · rw [decide_eq_false hfit]
    go_enter Try.func8, Try.ntmps8
    go_wp2_with (first | (go_at_call 17; refine HT.out.mono ?_; rintro e w' ⟨rfl, rfl⟩) | (go_at_call 18; refine HP.out.mono ?_; rintro e w6 ⟨g, rfl, hg, hgb, hf6⟩) | (go_at_call 19; refine (hLd.out _ (hf1.trans hf6 (fun _ h => h.elim))).mono ?_; rintro e w7 ⟨rfl, hf7⟩))
    go_ret
    refine ⟨?_, (hf1.trans hf6 (fun _ h => h.elim)).trans hf7 (fun _ h => h.elim)⟩
    show Ending.returned (.bool _) = _
    congr 2
    simp; omega

theorem room_law {w0 w : World} {D L at_ : Nat} {S : Dk} {fp : Nat → Prop} {rs : List (List UInt8)} (h : Sess w0 w D L at_ S fp rs) (n : Nat) (hn : n ≤ 16384) {nI : Int} (hI : nI = n) :
    Calls Try.prog 8 #[.pointer (some ⟨L, 0, none⟩), .int .i64 nI] w fun e w' => e = .returned (.bool (decide (at_ + secs n ≤ S.n))) ∧ Sess w0 w' D L at_ S fp rs ∧ Fr noBlk w w' := by
  refine (room_any L D at_ n S fp w h.log h.dsk h.holds.le hn hI).mono ?_
  rintro e w' ⟨rfl, hf⟩
  exact ⟨rfl, h.still hf, hf⟩
end Go.Proofs.Ytanlgidliflepaa
