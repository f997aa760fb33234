/- The law WallsAll holds for every input that its row reads. Conditions: none beyond the row's.
  (The frame around the walk follows the print of the kit's own program proof-skeleton.mjs for WallsNone.)
-/
import Derived.Test.YtanlgidliflepaaRows
import Derived.Test.YtanlgidliflepaaAllC
import Derived.Test.YtanlgidliflepaaArgs
import Derived.WalkKit
import Derived.ProofKit
import Derived.OpenShut
import Derived.ShutString
import Derived.ChangeOld
import Derived.Below
import Derived.SizedLaws
namespace Go.Proofs.Ytanlgidliflepaa.wallsAll
open Go.ChangeShapes Go.WideShapes Go.ChangeAt Go.RowKit Go.Deep
set_option linter.unusedVariables false

theorem own : ownKnob Try.prog.godebug = none := by kernel_rfl
theorem laidOut : laidOutB Try.prog = true := by kernel_rfl
theorem cellsSl : Try.prog.cellsOf 22 = 1 := by kernel_rfl
theorem cellsU8 : Try.prog.cellsOf 5 = 1 := by kernel_rfl
theorem bytesSl : Try.checked.prog.bytesOf 22 = 24 := by kernel_rfl
theorem bytesU8 : Try.checked.prog.bytesOf 5 = 1 := by kernel_rfl

theorem mem_all {H : Type} {P : Program} {e : TypeId} : ∀ {ds : List (DataW H)} {d : DataW H} {n : Nat}, d ∈ ds → n ∈ d.weights P e → n ∈ DataW.weightsAll P e ds
  | d0 :: ds, d, n, hd, hn => by
    simp only [DataW.weightsAll, List.mem_append]
    rcases List.mem_cons.1 hd with rfl | hd
    · exact .inl hn
    · exact .inr (mem_all hd hn)

set_option maxRecDepth 100000 in
theorem lifted (os : Os) (started : os.Started) (H : Type) (enc : TypeId × Value → H) :
    ReturnsInHanded {} Try.checked os 5 .any (Rows.wallsAllSpec.pre6 enc Try.prog Try.f5 Rows.wallsAllRow.domain false) (Rows.wallsAllSpec.post enc Try.prog Try.f5 false true false false) := by
  refine returnsInHanded_of_change_sized (C := Try.checked) own started (by kernel_rfl) Try.func5
      (ChangeSpec.witness6 (enc := enc) (C := Try.checked) false ⟨#[], #[.slice none 0 0, .bool false], []⟩ 8 (by kernel_rfl) (by kernel_rfl) (by kernel_rfl) (by kernel_rfl)) ?_
  intro W base args ds gs before hval0 hW hcnd hsz _
  have hval : ∀ (j : Nat) t v, Try.f5.params[j]? = some t → args[j]? = some v → Value.okWide Try.prog W .any base t v := hval0
  have hW' := hW
  obtain ⟨p, q, hA0, hV, rfl, hfz, hnd⟩ := hW
  have hA : DataW.TrodAll enc Try.prog W 0 (fun _ => true) true Try.f5.params.toList args.toList ds p := hA0
  rw [Try.params5] at hA hval
  obtain ⟨v0, vs0, d0, ds0, p0, q0, hargs, rfl, rfl, h0, r0⟩ := trodAll_cons hA
  obtain ⟨v1, vs1, d1, ds1, p1, q1, rfl, rfl, rfl, h1, r1⟩ := trodAll_cons r0
  obtain ⟨rfl, rfl, rfl⟩ := trodAll_nil r1
  obtain rfl : args = #[v0, v1] := by cases args; simp_all
  obtain ⟨rfl, rfl⟩ := trodVars_none hV
  obtain ⟨a0, len0, cap0, rfl⟩ := okWide_slice Try.underlying34 (hval 0 34 v0 rfl rfl)
  have k0 := h0
  have lt0 : ∀ x ∈ p0, x.block < W.heap.size := by obtain ⟨m, hm⟩ := k0; exact DataW.trod_lt m _ _ _ hm
  obtain ⟨b1, rfl, rfl, rfl⟩ := open_bool Try.underlying4 (hval 1 4 v1 rfl rfl) h1
  obtain ⟨ls, hls, hlen, h47⟩ : ∃ ls : List (List UInt8), IsLx (fun k => k < W.heap.size) W a0 ls ∧ ls.length = len0 ∧ ls.length ≤ 140737488355328 := by
    obtain ⟨fuel, hf⟩ := h0
    rcases open_int_rows Try.underlying34 Try.underlying22 Try.underlying5 cellsSl cellsU8 hf with ⟨hcs, _⟩ | ⟨a, len', cap', A, L, C, Z, hcs, _, hl, hm, hx, hrows⟩
    · simp [Value.cells] at hcs
      obtain ⟨rfl, rfl, rfl⟩ := hcs
      exact ⟨[], .inl rfl, rfl, by simp⟩
    · simp [Value.cells] at hcs
      obtain ⟨rfl, rfl, rfl⟩ := hcs
      simp only [Prod.mk.injEq] at hx
      obtain ⟨rfl, _⟩ := hx
      have hw : ∀ n ∈ DataW.weights Try.checked.prog 34 (.slice ((List.range len0).map fun r => intRow (H := H) .u8 (A r) (L r) (Z r)) ((List.range (cap0 - len0)).map fun j => intRow .u8 (A (len0 + j)) (L (len0 + j)) (Z (len0 + j)))), n ≤ reachBytes := fun n hn => by
        have := List.all_eq_true.1 hsz n (DataW.weights_mem_each (j := 0) (t := 34) (by kernel_rfl) rfl n hn)
        simpa using this
      have hu : Try.checked.prog.underlying 34 = some (.slice 22) := Try.underlying34
      have hu2 : Try.checked.prog.underlying 22 = some (.slice 5) := Try.underlying22
      have hreach : reachBytes = 140737488351232 := rfl
      have hout := hw _ (by rw [DataW.weights, hu]; exact List.mem_cons_self)
      rw [bytesSl, List.length_map, List.length_range, hreach] at hout
      refine ⟨_, isLx_rows hl hrows (fun r hr => ?_), by simp, by simp; omega⟩
      obtain ⟨_, g2, g3, g4, g5, g6, g7⟩ := hrows r (by omega)
      cases hAr : A r with
      | none => have := g6 hAr; omega
      | some x =>
        have hin := hw ((Z r).length * 1) (by
          rw [DataW.weights, hu]
          refine List.mem_cons_of_mem _ (List.mem_append.2 (.inl (mem_all (List.mem_map.2 ⟨r, List.mem_range.2 hr, rfl⟩) ?_)))
          rw [hAr, intRow, DataW.weights, hu2]
          refine List.mem_cons.2 (.inl ?_)
          rw [bytesU8]; simp [lits]; omega)
        rw [hreach] at hin; omega
  clear hA0 hval0
  subst hlen
  refine (wallsAll_any a0 cap0 ls b1 W hls h47).mono fun e W' ⟨he, hfr⟩ => ?_
  subst he
  have bel := hfr.below (Nat.le_refl _) (fun _ h => h.elim)
  exact ⟨_, rfl, _, _, _, [], _, [], hW', trodAll_mk1 (shut_bool Try.underlying4 _), (trodAll_cons_mk (Below.trod laidOut (by kernel_rfl) (of_decide_eq_true (by kernel_rfl)) k0 bel lt0) (trodAll_cons_mk (shut_bool Try.underlying4 _) trodAll_mk0)), rfl, bel.frame _, fun h => by cases h⟩

theorem over : Rows.wallsAllRow.holds Try.pinned (OpenSpec.ofChange Rows.wallsAllSpec) :=
  OpenClaim.holds_of_wide 5 Try.f5 rfl rfl rfl rfl rfl rfl rfl ⟨rfl, rfl, rfl, rfl, rfl⟩ rfl rfl rfl rfl rfl (by kernel_rfl) Try.func5 (by kernel_rfl)
    (of_decide_eq_true (by kernel_rfl)) (by unfold Func.isWrapper; first | (rw [if_pos (by decide +kernel)]; kernel_rfl) | (rw [if_neg (by decide +kernel)]; exact ⟨rfl, rfl⟩))
    (fun os started H enc _ => lifted os started H enc)

end Go.Proofs.Ytanlgidliflepaa.wallsAll
namespace Go.Proofs.Ytanlgidliflepaa
/-- The statement. -/
theorem wallsAll_holds : Rows.WallsAllSaid := wallsAll.over
#print axioms wallsAll_holds
end Go.Proofs.Ytanlgidliflepaa
