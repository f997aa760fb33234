/- The law WallsSure holds for every input that its row reads. Conditions: none beyond the row's.
  (The frame around the walk follows the print of the kit's own program proof-skeleton.mjs for WallsNone.)
-/
import Derived.Test.YtanlgidliflepaaRows
import Derived.Test.YtanlgidliflepaaSureC
import Derived.Test.YtanlgidliflepaaArgs
import Derived.WalkKit
import Derived.ProofKit
import Derived.OpenShut
import Derived.ShutString
import Derived.ChangeOld
import Derived.Below
import Derived.SizedLaws
import Derived.Lib.SmallJoins
namespace Go.Proofs.Ytanlgidliflepaa.wallsSure
open Go.ChangeShapes Go.WideShapes Go.ChangeAt Go.RowKit Go.Deep
set_option linter.unusedVariables false

theorem own : ownKnob Try.prog.godebug = none := by kernel_rfl
theorem laidOut : laidOutB Try.prog = true := by kernel_rfl
theorem cellsSl : Try.prog.cellsOf 22 = 1 := by kernel_rfl
theorem cellsU8 : Try.prog.cellsOf 5 = 1 := by kernel_rfl
theorem bytesSl : Try.checked.prog.bytesOf 22 = 24 := by kernel_rfl
theorem bytesU8 : Try.checked.prog.bytesOf 5 = 1 := by kernel_rfl

theorem mem_all {H : Type} {P : Program} {e : TypeId} : ∀ {ds : List (DataW H)} {d : DataW H} {n : Nat}, d ∈ ds → n ∈ d.weights P e → n ∈ DataW.weightsAll P e ds
  | d0 :: ds, d, n, hd, hn => by
    simp only [DataW.weightsAll, List.mem_append]
    rcases List.mem_cons.1 hd with rfl | hd
    · exact .inl hn
    · exact .inr (mem_all hd hn)

theorem u8_nat {n : Int} (h : (Lit.int .u8 n).wf = true) : ∃ m : Nat, n = (m : Nat) ∧ m < 256 := by
  have h2 : 0 ≤ n ∧ n ≤ 255 := by
    simp only [Lit.wf, IntKind.min, IntKind.max, IntKind.signed, IntKind.bits, Bool.and_eq_true] at h
    simpa using h
  exact ⟨n.toNat, by omega, by omega⟩
theorem u64_nat {n : Int} (h : (Lit.int .u64 n).wf = true) : ∃ m : Nat, n = (m : Nat) ∧ m < 18446744073709551616 := by
  have h2 : 0 ≤ n ∧ n ≤ 18446744073709551615 := by
    simp only [Lit.wf, IntKind.min, IntKind.max, IntKind.signed, IntKind.bits, Bool.and_eq_true] at h
    simpa using h
  exact ⟨n.toNat, by omega, by omega⟩

set_option maxRecDepth 100000 in
theorem lifted (os : Os) (started : os.Started) (H : Type) (enc : TypeId × Value → H) :
    ReturnsInHanded {} Try.checked os 4 .any (Rows.wallsSureSpec.pre6 enc Try.prog Try.f4 Rows.wallsSureRow.domain false) (Rows.wallsSureSpec.post enc Try.prog Try.f4 false true false false) := by
  refine returnsInHanded_of_change_sized (C := Try.checked) own started (by kernel_rfl) Try.func4
      (ChangeSpec.witness6 (enc := enc) (C := Try.checked) false ⟨#[], #[.agg #[.slice none 0 0, .int .u8 0, .int .u64 0, .int .u8 0], .slice none 0 0], []⟩ 8 (by kernel_rfl) (by kernel_rfl) (by kernel_rfl) (by kernel_rfl)) ?_
  intro W base args ds gs before hval0 hW hcnd hsz _
  have hval : ∀ (j : Nat) t v, Try.f4.params[j]? = some t → args[j]? = some v → Value.okWide Try.prog W .any base t v := hval0
  have hW' := hW
  obtain ⟨p, q, hA0, hV, rfl, hfz, hnd⟩ := hW
  have hA : DataW.TrodAll enc Try.prog W 0 (fun _ => true) true Try.f4.params.toList args.toList ds p := hA0
  rw [Try.params4] at hA hval
  obtain ⟨v0, vs0, d0, ds0, p0, q0, hargs, rfl, rfl, h0, r0⟩ := trodAll_cons hA
  obtain ⟨v1, vs1, d1, ds1, p1, q1, rfl, rfl, rfl, h1, r1⟩ := trodAll_cons r0
  obtain ⟨rfl, rfl, rfl⟩ := trodAll_nil r1
  obtain rfl : args = #[v0, v1] := by cases args; simp_all
  obtain ⟨rfl, rfl⟩ := trodVars_none hV
  have k0 := h0
  have lt0 : ∀ x ∈ p0, x.block < W.heap.size := by obtain ⟨m, hm⟩ := k0; exact DataW.trod_lt m _ _ _ hm
  obtain ⟨s0, s1, s2, s3, y0, y1, y2, y3, fuel, rfl, rfl, rfl, g0, g1, g2, g3⟩ := Go.Joins.open_agg4 Try.underlying44 (by kernel_rfl) (by kernel_rfl) (hval 0 44 v0 rfl rfl) h0
  obtain ⟨n1, hc1, rfl, wf1⟩ := DataW.trod_int Try.underlying5 g1
  obtain ⟨n2, hc2, rfl, wf2⟩ := DataW.trod_int Try.underlying42 g2
  obtain ⟨n3, hc3, rfl, wf3⟩ := DataW.trod_int Try.underlying5 g3
  simp only [List.cons.injEq, and_true] at hc1 hc2 hc3
  subst hc1 hc2 hc3
  obtain ⟨a0, len0, cap0, hc0⟩ := Go.Joins.slice_form Try.underlying34 g0
  simp only [List.cons.injEq, and_true] at hc0
  subst hc0
  obtain ⟨a1, len1, cap1, rfl⟩ := okWide_slice Try.underlying22 (hval 1 22 v1 rfl rfl)
  have k1 := h1
  have lt1 : ∀ x ∈ p1, x.block < W.heap.size := by obtain ⟨m, hm⟩ := k1; exact DataW.trod_lt m _ _ _ hm
  have hreach : reachBytes = 140737488351232 := rfl
  obtain ⟨more, hmI, hml, hm47, hmb⟩ : ∃ more : List UInt8, IsB W a1 more ∧ more.length = len1 ∧ more.length ≤ 140737488355328 ∧ (more ≠ [] → ∀ y, a1 = some y → y.block < W.heap.size) := by
    obtain ⟨fuel, hf⟩ := h1
    rcases open_ints Try.underlying22 Try.underlying5 cellsU8 hf with ⟨hcs, _⟩ | ⟨x, l, c, zs, hcs, _, hl, hm, hz, hd, hcell, hwz⟩
    · simp [Value.cells] at hcs
      obtain ⟨rfl, rfl, rfl⟩ := hcs
      exact ⟨[], .inl rfl, rfl, by simp, fun h => absurd rfl h⟩
    · simp [Value.cells] at hcs
      obtain ⟨rfl, rfl, rfl⟩ := hcs
      obtain ⟨i1, i2⟩ := isB_row (a := some x) hl (by simpa using hz) hwz (fun h => by cases h) (fun x' hx' c' hc' => by cases hx'; exact hcell c' (by simp at hz; omega))
      refine ⟨_, i1, ?_, ?_, i2⟩
      · rw [List.length_map, List.length_take]; simp at hz; omega
      · injection hd with hd _
        subst hd
        have hu2 : Try.checked.prog.underlying 22 = some (.slice 5) := Try.underlying22
        have hin := List.all_eq_true.1 hsz _ (DataW.weights_mem_each (j := 1) (t := 22) (by kernel_rfl) rfl _ (by rw [DataW.weights, hu2]; exact List.mem_cons_self))
        rw [bytesU8, hreach] at hin
        simp [lits] at hin hz
        rw [List.length_map, List.length_take]; omega
  obtain ⟨ls, hls, hlen, h47, hlc⟩ : ∃ ls : List (List UInt8), IsLx (fun k => k < W.heap.size) W a0 ls ∧ ls.length = len0 ∧ ls.length ≤ 140737488355328 ∧ ls.length ≤ cap0 := by
    rcases open_int_rows Try.underlying34 Try.underlying22 Try.underlying5 cellsSl cellsU8 g0 with ⟨hcs, _⟩ | ⟨a, len', cap', A, L, C, Z, hcs, _, hl, hm, hx, hrows⟩
    · simp [Value.cells] at hcs
      obtain ⟨rfl, rfl, rfl⟩ := hcs
      exact ⟨[], .inl rfl, rfl, by simp, by simp⟩
    · simp [Value.cells] at hcs
      obtain ⟨rfl, rfl, rfl⟩ := hcs
      subst hx
      have hw : ∀ n ∈ DataW.weights Try.checked.prog 34 (.slice ((List.range len0).map fun r => intRow (H := H) .u8 (A r) (L r) (Z r)) ((List.range (cap0 - len0)).map fun j => intRow .u8 (A (len0 + j)) (L (len0 + j)) (Z (len0 + j)))), n ≤ reachBytes := fun n hn => by
        have hs : Try.checked.prog.underlying 44 = _ := Try.underlying44
        have := List.all_eq_true.1 hsz n (DataW.weights_mem_each (j := 0) (t := 44) (by kernel_rfl) rfl n (by rw [DataW.weights, hs]; exact List.mem_append.2 (.inl hn)))
        simpa using this
      have hu : Try.checked.prog.underlying 34 = some (.slice 22) := Try.underlying34
      have hu2 : Try.checked.prog.underlying 22 = some (.slice 5) := Try.underlying22
      have hout := hw _ (by rw [DataW.weights, hu]; exact List.mem_cons_self)
      rw [bytesSl, List.length_map, List.length_range, hreach] at hout
      refine ⟨_, isLx_rows hl hrows (fun r hr => ?_), by simp, by simp; omega, by simp; omega⟩
      obtain ⟨_, g2, g3, g4, g5, g6, g7⟩ := hrows r (by omega)
      cases hAr : A r with
      | none => have := g6 hAr; omega
      | some x =>
        have hin := hw ((Z r).length * 1) (by
          rw [DataW.weights, hu]
          refine List.mem_cons_of_mem _ (List.mem_append.2 (.inl (mem_all (List.mem_map.2 ⟨r, List.mem_range.2 hr, rfl⟩) ?_)))
          rw [hAr, intRow, DataW.weights, hu2]
          refine List.mem_cons.2 (.inl ?_)
          rw [bytesU8]; simp [lits]; omega)
        rw [hreach] at hin; omega
  clear hA0 hval0
  subst hlen
  subst hml
  obtain ⟨m1, rfl, hm1⟩ := u8_nat wf1
  obtain ⟨m2, rfl, hm2⟩ := u64_nat wf2
  obtain ⟨m3, rfl, hm3⟩ := u8_nat wf3
  refine (wallsSure_any a0 cap0 ls m1 m2 m3 a1 cap1 more W hls h47 hlc hm1 hm2 hm3 hmI hm47 hmb).mono fun e W' ⟨he, hfr⟩ => ?_
  subst he
  have bel := hfr.below (Nat.le_refl _) (fun _ h => h.elim)
  exact ⟨_, rfl, _, _, _, [], _, [], hW', trodAll_mk1 (shut_bool Try.underlying4 _), (trodAll_cons_mk (Below.trod laidOut (by kernel_rfl) (of_decide_eq_true (by kernel_rfl)) k0 bel lt0) (trodAll_cons_mk (Below.trod laidOut (by kernel_rfl) (of_decide_eq_true (by kernel_rfl)) k1 bel lt1) trodAll_mk0)), rfl, bel.frame _, fun h => by cases h⟩

theorem over : Rows.wallsSureRow.holds Try.pinned (OpenSpec.ofChange Rows.wallsSureSpec) :=
  OpenClaim.holds_of_wide 4 Try.f4 rfl rfl rfl rfl rfl rfl rfl ⟨rfl, rfl, rfl, rfl, rfl⟩ rfl rfl rfl rfl rfl (by kernel_rfl) Try.func4 (by kernel_rfl)
    (of_decide_eq_true (by kernel_rfl)) (by unfold Func.isWrapper; first | (rw [if_pos (by decide +kernel)]; kernel_rfl) | (rw [if_neg (by decide +kernel)]; exact ⟨rfl, rfl⟩))
    (fun os started H enc _ => lifted os started H enc)

end Go.Proofs.Ytanlgidliflepaa.wallsSure
namespace Go.Proofs.Ytanlgidliflepaa
/-- The statement. -/
theorem wallsSure_holds : Rows.WallsSureSaid := wallsSure.over
#print axioms wallsSure_holds
end Go.Proofs.Ytanlgidliflepaa
