/- bytes.Equal. Conditions: none. -/
import Derived.Test.YtanlgidliflepaaEqB
import Derived.Laws.BytesArg
import Derived.WalkLawsBesides
namespace Go.Proofs.Ytanlgidliflepaa
open Go.RowKit

theorem conv_bytes (w : World) (b off cap : Nat) (l : List UInt8) (h : IsB w (some ⟨b, off, none⟩) l) : (convert 22 9 (.slice (some ⟨b, off, none⟩) l.length cap)).run Try.prog w = .ok (.string ⟨l.toArray⟩) w := by
  have := run_convert_bytes_arg (P := Try.prog) w 22 5 Try.underlying22 Try.underlying5 b off l.length cap (l.map fun x => (x.toNat : Int)) (by simp) (fun i hi => by
    rcases h with rfl | ⟨b', o', e, h⟩
    · simp at hi
    · cases e; rw [h i hi]; simp [hi]) 9 Try.underlying9
  rw [this]
  have e : strOfNums (l.map fun x => (x.toNat : Int)) = ⟨l.toArray⟩ := by
    unfold strOfNums
    rw [List.map_map]
    have h2 : (l.map ((fun n : Int => UInt8.ofNat n.toNat) ∘ fun x : UInt8 => (x.toNat : Int))) = l := by
      conv => rhs; rw [← List.map_id l]
      apply List.map_congr_left
      intro x _
      simp
    rw [h2]
  rw [e]

theorem bytesEq_any (b1 o1 c1 b2 o2 c2 : Nat) (l m : List UInt8) (w : World) (h1 : IsB w (some ⟨b1, o1, none⟩) l) (h2 : IsB w (some ⟨b2, o2, none⟩) m) :
    Calls Try.prog 25 #[.slice (some ⟨b1, o1, none⟩) l.length c1, .slice (some ⟨b2, o2, none⟩) m.length c2] w fun e w' => e = .returned (.bool (decide (l = m))) ∧ w = w' := by
  have e1 := conv_bytes w b1 o1 c1 l h1
  have e2 := conv_bytes w b2 o2 c2 m h2
  go_enter Try.func25, Try.ntmps25
  go_wp2
  go_ret
  refine ⟨?_, rfl⟩
  show Ending.returned (Value.bool (l == m)) = _
  congr 2; rw [Bool.eq_iff_iff]; simp
end Go.Proofs.Ytanlgidliflepaa
