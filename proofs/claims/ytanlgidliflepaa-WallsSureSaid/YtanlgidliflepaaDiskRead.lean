/- sectors.Read. Conditions: none. -/
import Derived.Test.YtanlgidliflepaaDiskSync
namespace Go.Proofs.Ytanlgidliflepaa
open Go.RowKit

def Dk.at_ (S : Dk) (k : Nat) : List UInt8 := (S.seen.drop (k * 64)).take 64
theorem Dk.at_length {S : Dk} (h : S.ok) (k : Nat) (hk : k < S.n) : (S.at_ k).length = 64 := by
  unfold Dk.at_; rw [List.length_take, List.length_drop, h.seen]; omega

theorem row_bytes {w : World} {base t n g cap : Nat} {L : List UInt8} (h : w.ownsRow base t 64 (.slice (some ⟨g, 0, none⟩) n cap) n (bvals L)) (k m : Nat) (hk : k * 64 + m ≤ n * 64) : IsB w (some ⟨g, k * 64, none⟩) ((L.drop (k * 64)).take m) := by
  obtain ⟨cur, hg, hnc, hcs, htk, _⟩ := row_open h
  refine IsB.of_blk hg _ (fun j hj => ?_)
  rw [List.length_take, List.length_drop] at hj
  have hL : L.length = n * 64 := by have := h.1; rwa [bvals_length] at this
  have e : (bvals L)[k * 64 + j]? = some (.int .u8 ((L[k * 64 + j]'(by omega)).toNat : Int)) := by
    rw [bvals_get, List.getElem?_eq_getElem (by omega)]; rfl
  rw [← htk, List.getElem?_take, if_pos (by omega)] at e
  rw [← Array.getElem?_toList, e]
  simp

theorem read_any (D : Nat) (S : Dk) (fp : Nat → Prop) (at_ : Nat) (w : World) (h : IsDsk w D S fp) (hat : at_ < S.n) :
    Calls Try.prog 23 #[.pointer (some ⟨D, 0, none⟩), .int .i64 at_] w fun e w' => ∃ v, e = .returned (.tuple #[v, .int .i64 0]) ∧ w'.ownsRow w.heap.size 5 1 v 64 (bvals (S.at_ at_)) ∧ Fr noBlk w w' := by
  have hmay := may_any D S fp at_ w h
  rw [if_pos (by omega)] at hmay
  have HM := Lib.hid hmay
  clear hmay
  obtain ⟨g1, c1, g2, c2, v3, hd⟩ := h
  have hl := Dk.at_length hd.ok at_ hat
  have hB : IsB w (some ⟨g2, at_ * 64, none⟩) (S.at_ at_) := row_bytes hd.r2 at_ 64 (by omega)
  have hcl := cloneB_any (some ⟨g2, at_ * 64, none⟩) (S.at_ at_) 64 w (by omega) hB
  rw [hl] at hcl
  have HC := Lib.hid hcl
  clear hcl
  have hc1 := blk_cell hd.blk 1 rfl
  have hn : S.n ≤ 4096 := hd.ok.most
  go_enter Try.func23, Try.ntmps23
  go_wp2_with (first | (go_at_call 32; refine HM.out.mono ?_; rintro e w' ⟨rfl, rfl⟩) | (go_at_call 33; refine HC.out.mono ?_; rintro e w' ⟨v, rfl, hown, hfr⟩))
  go_ret2
  exact ⟨_, rfl, hown, hfr⟩

theorem read_out (D : Nat) (S : Dk) (fp : Nat → Prop) (at_ : Int) (w : World) (h : IsDsk w D S fp) (hat : ¬ (0 ≤ at_ ∧ at_ < S.n)) :
    Calls Try.prog 23 #[.pointer (some ⟨D, 0, none⟩), .int .i64 at_] w fun e w' => e = .returned (.tuple #[.slice none 0 0, .int .i64 1]) ∧ w = w' := by
  have hmay := may_any D S fp at_ w h
  rw [if_neg hat] at hmay
  have HM := Lib.hid hmay
  clear hmay
  go_enter Try.func23, Try.ntmps23
  go_wp2_with (go_at_call 32; refine HM.out.mono ?_; rintro e w' ⟨rfl, rfl⟩)
  go_ret2
  exact ⟨rfl, rfl⟩
end Go.Proofs.Ytanlgidliflepaa
