/- sectors.Sync; Write where it is refused. Conditions: none. -/
import Derived.Test.YtanlgidliflepaaDiskWrite
namespace Go.Proofs.Ytanlgidliflepaa
open Go.RowKit

theorem write_out (D : Nat) (S : Dk) (fp : Nat → Prop) (at_ : Int) (a : Option Addr) (len cap : Nat) (w : World) (h : IsDsk w D S fp) (hat : ¬ (0 ≤ at_ ∧ at_ < S.n)) :
    Calls Try.prog 20 #[.pointer (some ⟨D, 0, none⟩), .int .i64 at_, .slice a len cap] w fun e w' => e = .returned (.int .i64 1) ∧ w = w' := by
  have hmay := may_any D S fp at_ w h
  rw [if_neg hat] at hmay
  have HM := Lib.hid hmay
  clear hmay
  go_enter Try.func20, Try.ntmps20
  go_wp2_with (go_at_call 32; refine HM.out.mono ?_; rintro e w' ⟨rfl, rfl⟩)
  go_ret
  exact ⟨rfl, rfl⟩

theorem write_long (D : Nat) (S : Dk) (fp : Nat → Prop) (at_ : Int) (a : Option Addr) (len cap : Nat) (w : World) (h : IsDsk w D S fp) (hat : 0 ≤ at_ ∧ at_ < S.n) (hl : 64 < len) :
    Calls Try.prog 20 #[.pointer (some ⟨D, 0, none⟩), .int .i64 at_, .slice a len cap] w fun e w' => e = .returned (.int .i64 1) ∧ w = w' := by
  have hmay := may_any D S fp at_ w h
  rw [if_pos hat] at hmay
  have HM := Lib.hid hmay
  clear hmay
  go_enter Try.func20, Try.ntmps20
  go_wp2_with (go_at_call 32; refine HM.out.mono ?_; rintro e w' ⟨rfl, rfl⟩)
  go_ret
  exact ⟨rfl, rfl⟩

def Dk.sync (S : Dk) : Dk := { S with sure := S.seen, waits := [] }
theorem Dk.sync_ok {S : Dk} (h : S.ok) : S.sync.ok := ⟨h.pos, h.most, h.seen, h.seen, by simp [Dk.sync]⟩

set_option maxHeartbeats 2000000 in
set_option maxRecDepth 100000 in
theorem sync_any (D : Nat) (S : Dk) (fp : Nat → Prop) (w : World) (h : IsDsk w D S fp) :
    Calls Try.prog 21 #[.pointer (some ⟨D, 0, none⟩)] w fun e w' => e = .returned (.int .i64 0) ∧ IsDsk w' D S.sync fp ∧ Fr fp w w' := by
  have hsz := Lib.hid (size_any D S fp w h)
  obtain ⟨g1, c1, g2, c2, v3, hd⟩ := h
  have hp := hd.ok.pos
  have hne : ((S.n : Int) == 0) = false := by rw [beq_eq_false_iff_ne]; omega
  have hc0 := blk_cell hd.blk 0 rfl
  have hc1 := blk_cell hd.blk 1 rfl
  have hc2 := blk_cell hd.blk 2 rfl
  have hf2 := blk_free hd.blk 2
  obtain ⟨cur, hg1, hnc, hcs, htk, _⟩ := row_open hd.r1
  go_enter Try.func21, Try.ntmps21
  go_wp2_with (go_at_call 22; refine hsz.out.mono ?_; rintro e w' ⟨rfl, rfl⟩)
  go_still_tail 8, (by kernel_rfl)
  change wpList _ _ _ _ _ w.drew
  have hg1' : w.drew.heap[g1]? = some (.cells cur 64 (0, 0)) := hg1
  refine wpList_copy_any rfl (.tmp 9) (.tmp 13) 37 37 rfl 64 64 Try.underlying37 size_piece g1 0 S.n c1 ⟨g2, 0, none⟩ S.n c2 rfl rfl cur 64 hg1' (bvals S.seen) ?k1 ?k2 ?k3 ?k4 ?k5
  case k1 => rw [bvals_length, hd.ok.seen]; simp
  case k2 => exact hd.r2.cells rfl
  case k3 => rw [bvals_length, hd.ok.seen, hcs]; have := Nat.mul_le_mul_right 64 hnc; omega
  case k4 => exact bvals_one _
  case k5 =>
    have hf3 : Fr (oneBlk g1) w (w.drew.setRow g1 (splice cur.toList 0 (bvals S.seen)).toArray) := ((Fr.drew w).mono (fun _ h => h.elim)).trans (Fr.setRow _ _ _) (fun _ h => .inl h)
    have hg3 : (w.drew.setRow g1 (splice cur.toList 0 (bvals S.seen)).toArray).heap[g1]? = some (.cells (splice cur.toList 0 (bvals S.seen)).toArray 64 (0, 0)) := setRow_heap _ _ _ _ _ _ hg1'
    generalize w.drew.setRow g1 (splice cur.toList 0 (bvals S.seen)).toArray = w3 at *
    have hDg : D ≠ g1 := by rintro rfl; rw [hd.blk] at hg1; simp at hg1
    have hD3 := hf3.blk hd.blk hDg
    have e2 := blk_cell hD3 2 rfl
    have e1 := blk_free hD3 2
    have hrow : w3.ownsRow 0 64 64 (.slice (some ⟨g1, 0, none⟩) S.n c1) S.n (bvals S.seen) := by
      have hsp : splice (bvals S.sure) 0 (bvals S.seen) = bvals S.seen := by
        unfold splice
        rw [List.take_zero, List.nil_append, List.drop_eq_nil_of_le (by rw [bvals_length, bvals_length, hd.ok.sure, hd.ok.seen]; omega), List.append_nil]
      rw [← hsp]
      refine row_splice hd.r1 hg1 hg3 ?_
      rw [bvals_length, hd.ok.seen]; omega
    go_wp2
    go_ret
    have hf6 := Fr.setCell w3 ⟨D, 2, none⟩ (Value.slice none 0 0)
    have n2 : g2 ≠ D := by rintro rfl; obtain ⟨_, h', _⟩ := row_open hd.r2; rw [hd.blk] at h'; simp at h'
    refine ⟨rfl, ⟨g1, c1, g2, c2, Value.slice none 0 0, Dk.sync_ok hd.ok, blk_set hD3 2 _, ?_, ?_, World.ownsRow_nil _ _ _ _, hd.ne, hd.fD, hd.f1, hd.f2, fun g e => by simp [Value.ownBlock] at e, ?_⟩, ?_⟩
    · exact hf6.row hrow (fun g e => by simp [Value.ownBlock] at e; subst e; exact Ne.symm hDg)
    · exact hf6.row (hf3.row hd.r2 (fun g e => by simp [Value.ownBlock] at e; subst e; exact Ne.symm hd.ne)) (fun g e => by simp [Value.ownBlock] at e; subst e; exact n2)
    · intro k hk
      have e6 : (w3.setCell ⟨D, 2, none⟩ (Value.slice none 0 0)).heap.size = w3.heap.size := by simp
      rw [e6]; exact Nat.lt_of_lt_of_le (hd.lt k hk) hf3.size
    · exact (hf3.mono (fun k e => by left; have e' : k = g1 := e; subst e'; exact hd.f1)).trans hf6 (fun k e => by left; have e' : k = D := e; subst e'; exact hd.fD)
end Go.Proofs.Ytanlgidliflepaa
