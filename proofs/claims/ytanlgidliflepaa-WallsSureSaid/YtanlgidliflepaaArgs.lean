/- What came in as [][]byte, as lists of bytes. Conditions: none. -/
import Derived.Test.YtanlgidliflepaaSess
import Derived.Deep.Matrix
import Derived.SizedLaws
namespace Go.Proofs.Ytanlgidliflepaa
open Go.RowKit

def toB (z : Int) : UInt8 := UInt8.ofNat z.toNat
theorem toB_of {z : Int} (h : (Lit.int .u8 z).wf = true) : z = ((toB z).toNat : Int) := by
  have h2 : 0 ≤ z ∧ z ≤ 255 := by
    simp only [Lit.wf, IntKind.min, IntKind.max, IntKind.signed, IntKind.bits, Bool.and_eq_true] at h
    simpa using h
  unfold toB
  rw [UInt8.toNat_ofNat']; omega
theorem addr_of {w : World} {x : Addr} {v : Value} (h : w.cell? x = some v) : x = ⟨x.block, x.off, none⟩ := by
  obtain ⟨b, o, spot⟩ := x
  have : spot = none := by simpa using World.cell?_spot h
  subst this; rfl
theorem add_at (b o c : Nat) : (⟨b, o, none⟩ : Addr).add c = ⟨b, o + c, none⟩ := by
  unfold Addr.add; split
  · rename_i h; subst h; rfl
  · rfl
theorem isB_row {w : World} {a : Option Addr} {L C : Nat} {zs : List Int} (hl : L ≤ C) (hz : zs.length = C) (hw : ∀ n ∈ zs, (Lit.int .u8 n).wf = true) (hn : a = none → C = 0)
    (hc : ∀ x, a = some x → ∀ c, c < C → w.cell? (x.add c) = some (.int .u8 (zs.getD c 0))) : IsB w a ((zs.take L).map toB) ∧ (((zs.take L).map toB) ≠ [] → ∀ y, a = some y → y.block < w.heap.size) := by
  by_cases h0 : L = 0
  · subst h0; exact ⟨.inl (by simp), fun h => absurd (by simp) h⟩
  · cases a with
    | none => have := hn rfl; omega
    | some x =>
      have h1 := hc x rfl 0 (by omega)
      have hx : x.add 0 = x := rfl
      rw [hx] at h1
      have hb := World.block_lt_of_cell? w x h1
      refine ⟨.inr ⟨x.block, x.off, by rw [← addr_of h1], fun j hj => ?_⟩, fun _ y hy => by cases hy; exact hb⟩
      rw [List.length_map, List.length_take] at hj
      have h2 := hc x rfl j (by omega)
      rw [addr_of h1, add_at] at h2
      rw [h2]
      have hjz : j < zs.length := by omega
      have e : ((zs.take L).map toB)[j]'(by rw [List.length_map, List.length_take]; omega) = toB zs[j] := by simp
      rw [e, ← toB_of (hw _ (List.getElem_mem hjz))]
      simp [List.getD, hjz]
/-- The rows that open_int_rows tells of, as lists of bytes. -/
theorem isLx_rows {w : World} {a : Addr} {len cap : Nat} {A : Nat → Option Addr} {L C : Nat → Nat} {Z : Nat → List Int} (hl : len ≤ cap)
    (h : ∀ r, r < cap → w.cell? (a.add r) = some (.slice (A r) (L r) (C r)) ∧ L r ≤ C r ∧ C r ≤ maxLen ∧ (Z r).length = C r ∧ (∀ n ∈ Z r, (Lit.int .u8 n).wf = true) ∧ (A r = none → C r = 0) ∧
      ∀ a', A r = some a' → 0 ≤ a'.block ∧ ∀ c, c < C r → w.cell? (a'.add c) = some (.int .u8 ((Z r).getD c 0))) (h47 : ∀ r, r < len → L r ≤ 140737488355328) :
    IsLx (fun k => k < w.heap.size) w (some a) ((List.range len).map fun r => ((Z r).take (L r)).map toB) := by
  by_cases h0 : len = 0
  · subst h0; exact .inl rfl
  · have h1 := (h 0 (by omega)).1
    have hx : a.add 0 = a := rfl
    rw [hx] at h1
    refine .inr ⟨a.block, a.off, by rw [← addr_of h1], World.block_lt_of_cell? w a h1, fun j hj => ?_⟩
    rw [List.length_map, List.length_range] at hj
    obtain ⟨g1, g2, g3, g4, g5, g6, g7⟩ := h j (by omega)
    rw [addr_of h1, add_at] at g1
    have hlen : (((Z j).take (L j)).map toB).length = L j := by rw [List.length_map, List.length_take]; omega
    obtain ⟨i1, i2⟩ := isB_row g2 g4 g5 g6 (fun x hx => (g7 x hx).2)
    simp only [List.getElem_map, List.getElem_range]
    rw [hlen]
    exact ⟨A j, C j, g1, i1, g2, h47 j hj, i2⟩
end Go.Proofs.Ytanlgidliflepaa
