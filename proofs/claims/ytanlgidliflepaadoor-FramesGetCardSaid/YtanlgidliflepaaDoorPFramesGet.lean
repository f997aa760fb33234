/- The law FramesGet holds for every input that its card's row reads; the card is tied to the program's text. Conditions: none beyond the card's.
  (The frame around the walk follows the print of the kit's own program proof-skeleton.mjs, and the kit's worked Mapy.)
-/
import Derived.Test.YtanlgidliflepaaDoorRows
import Derived.Test.YtanlgidliflepaaDoorTie
import Derived.Test.YtanlgidliflepaaDoorCards
import Derived.Test.YtanlgidliflepaaDoorGetC
import Derived.WalkKit
import Derived.ProofKit
import Derived.OpenShut
import Derived.ShutString
import Derived.ChangeOld
import Derived.Below
import Derived.LaidMore
import Derived.Stop.Joined
import Derived.SevenTiedAt
namespace Go.Proofs.YtanlgidliflepaaDoor.framesGet
open Go.ChangeShapes Go.WideShapes Go.ChangeAt Go.RowKit
set_option linter.unusedVariables false

theorem own : ownKnob Tryd.prog.godebug = none := by kernel_rfl
theorem laidOut : laidOutB Tryd.prog = true := by kernel_rfl
theorem bytesU8 : Tryd.checked.prog.bytesOf 5 = 1 := by kernel_rfl
def laidL : List (String × DataW Unit) := [("math/bits.deBruijn32tab", Rows.laid_math_bits_deBruijn32tab), ("math/bits.deBruijn64tab", Rows.laid_math_bits_deBruijn64tab), ("internal/strconv.uint64pow10", Rows.laid_internal_strconv_uint64pow10)]
theorem door_met (os : Os) (args : Array Value) : laidMetH Tryd.prog laidL ((World.doorLaid Tryd.prog 2000 os).forCall (fun _ _ => 0) ⟨#[], args, []⟩).memory :=
  laidMetH_of_parts3 (fuel := 8) (laidMet_of_run' 8 (by kernel_rfl) (by kernel_rfl)) (by kernel_rfl) (by kernel_rfl)

theorem toB_of {z : Int} (h : (Lit.int .u8 z).wf = true) : z = ((UInt8.ofNat z.toNat).toNat : Int) := by
  have h2 : 0 ≤ z ∧ z ≤ 255 := by
    simp only [Lit.wf, IntKind.min, IntKind.max, IntKind.signed, IntKind.bits, Bool.and_eq_true] at h
    simpa using h
  rw [UInt8.toNat_ofNat']; omega
theorem addr_of {w : World} {x : Addr} {v : Value} (h : w.cell? x = some v) : x = ⟨x.block, x.off, none⟩ := by
  obtain ⟨b, o, spot⟩ := x
  have : spot = none := by simpa using World.cell?_spot h
  subst this; rfl
theorem isB_ints {w : World} {x : Addr} {len : Nat} {zs : List Int} (hl : len ≤ zs.length) (hw : ∀ n ∈ zs, (Lit.int .u8 n).wf = true)
    (hc : ∀ c, c < zs.length → w.cell? (x.add c) = some (.int .u8 (zs.getD c 0))) : IsB w (some x) ((zs.take len).map fun z => UInt8.ofNat z.toNat) := by
  by_cases h0 : len = 0
  · subst h0; exact .inl (by simp)
  · have h1 := hc 0 (by omega)
    have hx : x.add 0 = x := rfl
    rw [hx] at h1
    refine .inr ⟨x.block, x.off, by rw [← addr_of h1], fun j hj => ?_⟩
    rw [List.length_map, List.length_take] at hj
    have h2 := hc j (by omega)
    rw [addr_of h1, Addr.add_mid] at h2
    rw [h2]
    have hjz : j < zs.length := by omega
    have e : ((zs.take len).map fun z => UInt8.ofNat z.toNat)[j]'(by rw [List.length_map, List.length_take]; omega) = UInt8.ofNat (zs[j]).toNat := by simp
    rw [e, ← toB_of (hw _ (List.getElem_mem hjz))]
    simp [List.getD, hjz]

set_option maxRecDepth 100000 in
theorem lifted (os : Os) (started : os.Started) (H : Type) (enc : TypeId × Value → H) :
    ReturnsInHanded {} Tryd.checked os 4 .any (fun w args => (Rows.framesGetSpec.pre enc Tryd.prog Tryd.f4 [] false w args ∧ laidMetH Tryd.prog laidL w) ∧ sizedMet enc Tryd.prog Tryd.f4 (OpenSpec.ofChange Rows.framesGetSpec) false w args)
      (Rows.framesGetSpec.post enc Tryd.prog Tryd.f4 false true false false) := by
  refine returnsInHanded_of_change_and (C := Tryd.checked) (X := fun w _ => laidMetH Tryd.prog laidL w) (fun _ _ _ hh h => h.of_heap hh) own started (by kernel_rfl) Tryd.func4
    (ChangeSpec.witness_shaped (enc := enc) (C := Tryd.checked) (os := os) (X := fun w _ => laidMetH Tryd.prog laidL w) false (World.doorLaid Tryd.prog 2000 os) #[.slice none 0 0] 8 rfl (World.shaped_of_RefB (by kernel_rfl) (by kernel_rfl)) (by kernel_rfl) (by kernel_rfl) (by kernel_rfl) (door_met os _)) ?_
  intro W base args ds gs before hval0 hW _ hsz _ _
  have hval : ∀ (j : Nat) t v, Tryd.f4.params[j]? = some t → args[j]? = some v → Value.okWide Tryd.prog W .any base t v := hval0
  have hW' := hW
  obtain ⟨p, q, hA0, hV, rfl, hfz, hnd⟩ := hW
  have hA : DataW.TrodAll enc Tryd.prog W 0 (fun _ => true) true Tryd.f4.params.toList args.toList ds p := hA0
  rw [Tryd.params4] at hA hval
  obtain ⟨v0, vs0, d0, ds0, p0, q0, hargs, rfl, rfl, h0, r0⟩ := trodAll_cons hA
  obtain ⟨rfl, rfl, rfl⟩ := trodAll_nil r0
  obtain rfl : args = #[v0] := by cases args; simp_all
  obtain ⟨rfl, rfl⟩ := trodVars_none hV
  obtain ⟨a0, len0, cap0, rfl⟩ := okWide_slice Tryd.underlying22 (hval 0 22 v0 rfl rfl)
  have k0 := h0
  have lt0 : ∀ x ∈ p0, x.block < W.heap.size := by obtain ⟨m, hm⟩ := k0; exact DataW.trod_lt m _ _ _ hm
  have hreach : reachBytes = 140737488351232 := rfl
  obtain ⟨l, hb, hl, h47, hcap, hcap2⟩ : ∃ l : List UInt8, IsB W a0 l ∧ l.length = len0 ∧ l.length ≤ 140737488355328 ∧ l.length ≤ cap0 ∧ cap0 ≤ 9223372036854775807 := by
    obtain ⟨fuel, hf⟩ := h0
    rcases open_ints Tryd.underlying22 Tryd.underlying5 (by kernel_rfl) hf with ⟨hcs, _⟩ | ⟨x, l, c, zs, hcs, _, hl, hm, hz, hd, hcell, hwz⟩
    · simp [Value.cells] at hcs
      obtain ⟨rfl, rfl, rfl⟩ := hcs
      exact ⟨[], .inl rfl, rfl, by simp, by simp, by simp⟩
    · simp [Value.cells] at hcs
      obtain ⟨rfl, rfl, rfl⟩ := hcs
      have hz' : zs.length = cap0 := by simpa using hz
      refine ⟨_, isB_ints (len := len0) (by omega) hwz hcell, ?_, ?_, ?_, by simp only [maxLen] at hm; omega⟩
      · rw [List.length_map, List.length_take]; omega
      · injection hd with hd _
        subst hd
        have hu2 : Tryd.checked.prog.underlying 22 = some (.slice 5) := Tryd.underlying22
        have hin := List.all_eq_true.1 hsz _ (DataW.weights_mem_each (j := 0) (t := 22) (by kernel_rfl) rfl _ (by rw [DataW.weights, hu2]; exact List.mem_cons_self))
        rw [bytesU8, hreach] at hin
        simp [lits] at hin
        rw [List.length_map, List.length_take]; omega
      · rw [List.length_map, List.length_take]; omega
  clear hA0 hval0
  subst hl
  refine (framesGet_any a0 l cap0 W h47 hcap hcap2 hb).mono fun e W' ⟨he, hfr⟩ => ?_
  subst he
  have bel := hfr.below (Nat.le_refl _) (fun _ h => h.elim)
  exact ⟨_, rfl, _, _, _, [], _, [], hW', trodAll_mk1 (shut_bool Tryd.underlying4 _), (trodAll_cons_mk (Below.trod laidOut (by kernel_rfl) (of_decide_eq_true (by kernel_rfl)) k0 bel lt0) trodAll_mk0), rfl, bel.frame _, fun h => by cases h⟩

theorem over : Rows.framesGetRow.holds Tryd.pinned (OpenSpec.ofChange Rows.framesGetSpec) :=
  OpenClaim.holds_of_wide 4 Tryd.f4 rfl rfl rfl rfl rfl rfl rfl ⟨rfl, rfl, rfl, rfl, rfl⟩ rfl rfl rfl rfl rfl (by kernel_rfl) Tryd.func4 (by kernel_rfl)
    (of_decide_eq_true (by kernel_rfl)) (by unfold Func.isWrapper; first | (rw [if_pos (by decide +kernel)]; kernel_rfl) | (rw [if_neg (by decide +kernel)]; exact ⟨rfl, rfl⟩))
    (fun os started H enc _ => lifted os started H enc)
end Go.Proofs.YtanlgidliflepaaDoor.framesGet
namespace Go.Proofs.YtanlgidliflepaaDoor
open Go
/-- The statement: the tied card. -/
theorem framesGet_holds : Rows.FramesGetCardSaid :=
  Claim7.holds_tied_plain_at .later [] [.data, .data, .data] true Rows.framesGetCard.stood.harness false
    framesGet.over (fun _ h => by cases h) (by kernel_rfl) (fun _ h => by cases h) framesGet_row_tie rfl ⟨rfl, rfl⟩ (by kernel_rfl) rfl
    (fun f fn hf hfn => by
      obtain rfl : f = 4 := Option.some.inj ((show Tryd.prog.funcNamed "concordat/concordatlaw05.FramesGet" = some 4 by kernel_rfl).symm.trans hf) |>.symm
      obtain rfl : fn = Tryd.f4 := (Option.some.inj (Tryd.func4.symm.trans hfn)).symm
      exact ⟨by kernel_rfl, fun j t ht => by
        rw [Tryd.params4] at ht
        have hm : t ∈ [22] := by simpa using Array.mem_of_getElem? ht
        have hall : ([22].all fun u => !Tryd.prog.wantsStandIn u) = true := by kernel_rfl
        exact (show Tryd.prog.wantsStandIn t = false by simpa using List.all_eq_true.1 hall t hm)⟩)
    (by kernel_rfl)
#print axioms framesGet_holds
end Go.Proofs.YtanlgidliflepaaDoor
