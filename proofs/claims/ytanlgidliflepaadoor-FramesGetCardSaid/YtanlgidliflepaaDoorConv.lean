/- []byte to string. Conditions: none. -/
import Derived.Test.YtanlgidliflepaaDoorCloneB
import Derived.Laws.BytesArg
import Derived.WalkLawsBesides
namespace Go.Proofs.YtanlgidliflepaaDoor
open Go.RowKit

theorem conv_bytes (w : World) (b off cap : Nat) (l : List UInt8) (h : IsB w (some ⟨b, off, none⟩) l) : (convert 22 9 (.slice (some ⟨b, off, none⟩) l.length cap)).run Tryd.prog w = .ok (.string ⟨l.toArray⟩) w := by
  have := run_convert_bytes_arg (P := Tryd.prog) w 22 5 Tryd.underlying22 Tryd.underlying5 b off l.length cap (l.map fun x => (x.toNat : Int)) (by simp) (fun i hi => by
    rcases h with rfl | ⟨b', o', e, h⟩
    · simp at hi
    · cases e; rw [h i hi]; simp [hi]) 9 Tryd.underlying9
  rw [this]
  have e : strOfNums (l.map fun x => (x.toNat : Int)) = ⟨l.toArray⟩ := by
    unfold strOfNums
    rw [List.map_map]
    have h2 : (l.map ((fun n : Int => UInt8.ofNat n.toNat) ∘ fun x : UInt8 => (x.toNat : Int))) = l := by
      conv => rhs; rw [← List.map_id l]
      apply List.map_congr_left
      intro x _
      simp
    rw [h2]
  rw [e]
end Go.Proofs.YtanlgidliflepaaDoor
