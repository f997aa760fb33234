/- sectors.New. Conditions: none. -/
import Derived.Test.YtanlgidliflepaaDisk
namespace Go.Proofs.Ytanlgidliflepaa
open Go.RowKit

def bcells (l : List UInt8) : Array Value := (bvals l).toArray

theorem zeros_get (m j : Nat) (h : j < m) : (bvals (zeros m)).toArray[j]! = Value.int .u8 0 := by
  have h' : j < (bvals (zeros m)).toArray.size := by simpa [bvals, zeros] using h
  rw [getElem!_pos (bvals (zeros m)).toArray j h']
  simp [bvals, zeros]
theorem zeros_size (m : Nat) : (bvals (zeros m)).toArray.size = m := by simp [bvals, zeros]
theorem made_zeros (n : Nat) : madeCells (bvals (zeros 64)).toArray n = bcells (zeros n) := by
  apply Array.ext_getElem?
  intro j
  unfold madeCells bcells
  rw [zeros_size 64]
  by_cases hj : j < n
  · have h64 : j % 64 < 64 := Nat.mod_lt _ (by decide)
    rw [Array.getElem?_map, Array.getElem?_range, if_pos hj, Option.map_some, zeros_get 64 _ h64]
    simp [bvals, zeros, hj]
  · rw [Array.getElem?_map, Array.getElem?_range, if_neg hj]
    simp [bvals, zeros, hj]

theorem make_pieces (n : Nat) (hn : n ≤ 4096) (w : World) : (Instr.makeSlice 37 (.int .i64 n) (.int .i64 n)).run Try.prog w = .ok (.slice (some ⟨w.heap.size, 0, none⟩) n n) (w.alloc (.cells (bcells (zeros (n * 64))) 64)) := by
  obtain ⟨i0, hi, hz0, hz1, hz2⟩ := info_parts info_piece
  have h := run_make (P := Try.prog) w 37 64 i0 _ Try.underlying37 hi hz0 .i64 .i64 n n (by omega) (by omega) (by rw [hz2]; omega) (by omega)
  rw [hz1] at h
  simp only [Int.toNat_natCast, Value.cells] at h
  rw [made_zeros] at h
  exact h

def newDk (n : Nat) : Dk := { n := n, sure := zeros (n * 64), seen := zeros (n * 64), waits := [] }
theorem newDk_ok (n : Nat) (h1 : 1 ≤ n) (h2 : n ≤ 4096) : (newDk n).ok := ⟨h1, h2, by simp [newDk, zeros], by simp [newDk, zeros], by simp [newDk]⟩

theorem row_zeros (w : World) (t : TypeId) (n g : Nat) (hn : n ≤ 4096) (h : w.heap[g]? = some (.cells (bcells (zeros (n * 64))) t (0, 0))) : w.ownsRow 0 t 64 (.slice (some ⟨g, 0, none⟩) n n) n (bvals (zeros (n * 64))) :=
  ⟨by simp [bvals, zeros], .inr ⟨g, n, _, rfl, Nat.zero_le _, h, Nat.le_refl _, by simp [maxLen]; omega, by simp [bcells, bvals, zeros], by simp [bcells, bvals, zeros]⟩⟩

theorem newD_refused (n : Int) (w : World) (h : n < 1 ∨ 4096 < n) : Calls Try.prog 12 #[.int .i64 n] w fun e w' => e = .returned (.tuple #[.pointer none, .int .i64 1]) ∧ w = w' := by
  by_cases h1 : n < 1
  · go_enter Try.func12, Try.ntmps12
    go_wp2
    go_ret2
    exact ⟨rfl, rfl⟩
  · have h2 : 4096 < n := by omega
    go_enter Try.func12, Try.ntmps12
    go_wp2
    go_ret2
    exact ⟨rfl, rfl⟩

theorem al3 (w : World) (A B C : Obj) : (((w.alloc A).alloc B).alloc C).drew.heap[w.heap.size]? = some A ∧ (((w.alloc A).alloc B).alloc C).drew.heap[w.heap.size + 1]? = some B ∧ (((w.alloc A).alloc B).alloc C).drew.heap[w.heap.size + 1 + 1]? = some C ∧ (((w.alloc A).alloc B).alloc C).drew.heap.size = w.heap.size + 3 := by
  refine ⟨?_, ?_, ?_, ?_⟩
  · show (((w.heap.push A).push B).push C)[w.heap.size]? = some A
    simp [Array.getElem?_push]; omega
  · show (((w.heap.push A).push B).push C)[w.heap.size + 1]? = some B
    rw [Array.getElem?_push, if_neg (by simp), Array.getElem?_push, if_pos (by simp)]
  · show (((w.heap.push A).push B).push C)[w.heap.size + 1 + 1]? = some C
    rw [Array.getElem?_push, if_pos (by simp)]
  · show (((w.heap.push A).push B).push C).size = w.heap.size + 3
    simp
theorem fr3 (w : World) (A B C : Obj) : Fr noBlk w (((w.alloc A).alloc B).alloc C).drew :=
  (((Fr.alloc w A).trans (Fr.alloc _ B) (fun _ h => h.elim)).trans (Fr.alloc _ C) (fun _ h => h.elim)).trans (Fr.drew _) (fun _ h => h.elim)

/-- A fresh footprint: the blocks from B up to the heap's end. -/
def since (B E : Nat) : Nat → Prop := fun k => B ≤ k ∧ k < E

theorem newD_any (n : Nat) (w : World) (h1 : 1 ≤ n) (h2 : n ≤ 4096) : Calls Try.prog 12 #[.int .i64 n] w fun e w' => ∃ D, e = .returned (.tuple #[.pointer (some ⟨D, 0, none⟩), .int .i64 0]) ∧ IsDsk w' D (newDk n) (since w.heap.size w'.heap.size) ∧ Fr noBlk w w' := by
  have hmk := make_pieces n h2
  go_enter Try.func12, Try.ntmps12
  go_wp2
  go_region
  all_goals go_wp2
  all_goals go_ret2
  · refine ⟨_, rfl, ⟨_, _, _, _, _, newDk_ok n h1 h2, (al3 w _ _ _).2.2.1, row_zeros _ _ n _ h2 (al3 w _ _ _).1, row_zeros _ _ n _ h2 (al3 w _ _ _).2.1, World.ownsRow_nil _ _ _ _, by omega, ?_, ?_, ?_, by simp [Value.ownBlock], fun k hk => hk.2⟩, ?_⟩
    · exact ⟨by omega, by rw [(al3 w _ _ _).2.2.2]; omega⟩
    · exact ⟨by omega, by rw [(al3 w _ _ _).2.2.2]; omega⟩
    · exact ⟨by omega, by rw [(al3 w _ _ _).2.2.2]; omega⟩
    · exact fr3 w _ _ _
  · refine ⟨_, rfl, ⟨_, _, _, _, _, newDk_ok n h1 h2, (al3 w _ _ _).2.2.1, row_zeros _ _ n _ h2 (al3 w _ _ _).2.1, row_zeros _ _ n _ h2 (al3 w _ _ _).1, World.ownsRow_nil _ _ _ _, by omega, ?_, ?_, ?_, by simp [Value.ownBlock], fun k hk => hk.2⟩, ?_⟩
    · exact ⟨by omega, by rw [(al3 w _ _ _).2.2.2]; omega⟩
    · exact ⟨by omega, by rw [(al3 w _ _ _).2.2.2]; omega⟩
    · exact ⟨by omega, by rw [(al3 w _ _ _).2.2.2]; omega⟩
    · exact fr3 w _ _ _
end Go.Proofs.Ytanlgidliflepaa
