/- slices.Clone at bytes. Conditions: lengths that memory bears. -/
import Derived.Test.YtanlgidliflepaaDoorHeap
import Derived.WalkSpells
namespace Go.Proofs.YtanlgidliflepaaDoor
open Go.RowKit

theorem info_u8 : (Tryd.prog.info? 5).map (fun i => (i.zero, i.size, i.bytes)) = some (some (.int .u8 0), 1, 1) := by kernel_rfl

theorem cloneB_any (a : Option Addr) (l : List UInt8) (cap : Nat) (w : World) (hl : l.length ≤ 140737488355328) (hb : IsB w a l) :
    Calls Tryd.prog 57 #[.slice a l.length cap] w fun e w' => ∃ v, e = .returned v ∧ w'.ownsRow w.heap.size 5 1 v l.length (bvals l) ∧ Fr noBlk w w' := by
  obtain ⟨i0, hi, hz0, hz1, hz2⟩ := info_parts info_u8
  cases a with
  | none =>
    have : l = [] := by rcases hb with h | ⟨b, off, h, _⟩; exact h; cases h
    subst this
    have hnil := @Lib.run_eql_slice_nil Tryd.prog
    go_enter Tryd.func57, Tryd.ntmps57
    go_wp2
    go_ret
    exact ⟨_, rfl, World.ownsRow_nil _ _ _ _, Fr.refl _ _⟩
  | some ad =>
    have hnil := @Lib.run_eql_slice_nil Tryd.prog
    go_enter Tryd.func57, Tryd.ntmps57
    have hb1 := hb.alloc (Obj.cells #[] 5)
    have hown : (w.alloc (Obj.cells #[] 5)).ownsRow w.heap.size 5 1 (.slice (some ⟨w.heap.size, 0, none⟩) 0 0) 0 [] := World.ownsRow_made w #[] 0 (Nat.le_refl _) (by simp [maxLen]) rfl
    go_wp2_with (at_builtin; refine wpList_append_own _ rfl (.tmp 5) (.tmp 6) 22 rfl w.heap.size 5 i0 (.int .u8 0) 1 1 Tryd.underlying22 hi hz0 hz1 hz2 rfl (by decide) _ 0 [] rfl hown ad l.length cap (bvals l) rfl ?c1 ?c2 ?c3 ?c4 ?c5 ?c6 ?_)
    case c1 => simp [bvals_length]
    case c2 => exact hb1.src
    case c3 => exact bvals_one l
    case c4 => simp only [maxLen]; omega
    case c5 => omega
    case c6 => simp
    intro v' w1 hown1 hg1 _
    go_wp2
    go_ret
    exact ⟨_, rfl, hown1, (Fr.alloc w _).trans (Fr.grown hg1) (fun j hj => by simp [Value.ownBlock] at hj; right; omega)⟩

def zeros (n : Nat) : List UInt8 := List.replicate n 0
end Go.Proofs.YtanlgidliflepaaDoor
