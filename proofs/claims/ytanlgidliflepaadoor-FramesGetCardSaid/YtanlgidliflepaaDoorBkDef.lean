/- The book of lists (concordatlaw01.Book): how it lies in memory; its parts for kinds of which no list is kept do nothing. Conditions: none. -/
import Derived.Test.YtanlgidliflepaaDoorHeap
import Derived.IntWalk
namespace Go.Proofs.YtanlgidliflepaaDoor
open Go.RowKit

/-- The cells of a book: how many lists; its rows. -/
def bookC (cnt : Nat) (f : Nat → Value) : Array Value := #[.int .i64 (cnt : Nat), f 1, f 2, f 3, f 4, f 5, f 6, f 7, f 8, f 9, f 10, f 11, f 12]
def BookAt (w : World) (K cnt : Nat) (f : Nat → Value) : Prop := w.heap[K]? = some (.cells (bookC cnt f) 41 (0, 0))

/-- A list that is kept: itself, how long it is, what was put behind it, its number. -/
structure Held where
  v : Value
  n : Nat
  long : Value
  k : Nat
def hcells (hs : List Held) : List Value := hs.flatMap fun h => [h.v, h.long, .int .i64 (h.k : Nat)]
theorem hcells_length : ∀ hs : List Held, (hcells hs).length = hs.length * 3
  | [] => rfl
  | h :: hs => by
    have := hcells_length hs
    simp only [hcells, List.flatMap_cons, List.length_append, List.length_cons, List.length_nil] at this ⊢; omega
theorem hcells_append (a b : List Held) : hcells (a ++ b) = hcells a ++ hcells b := by simp [hcells]
theorem hcells_get : ∀ (hs : List Held) (i : Nat) (h : i < hs.length), (hcells hs)[i * 3]? = some hs[i].v ∧ (hcells hs)[i * 3 + 1]? = some hs[i].long ∧ (hcells hs)[i * 3 + 2]? = some (.int .i64 (hs[i].k : Nat))
  | [], i, h => by simp at h
  | x :: hs, 0, _ => by simp [hcells]
  | x :: hs, i + 1, h => by
    have ih := hcells_get hs i (by simpa using h)
    have e : hcells (x :: hs) = [x.v, x.long, .int .i64 (x.k : Nat)] ++ hcells hs := by simp [hcells]
    rw [e, show (i + 1) * 3 = 3 + i * 3 by omega, show 3 + i * 3 + 1 = 3 + (i * 3 + 1) by omega, show 3 + i * 3 + 2 = 3 + (i * 3 + 2) by omega]
    have a : ∀ j, ([x.v, x.long, .int .i64 (x.k : Nat)] ++ hcells hs)[3 + j]? = (hcells hs)[j]? := fun j => by rw [List.getElem?_append_right (by simp)]; congr 1; simp
    rw [a, a, a]; exact ih
theorem hcells_one : ∀ hs : List Held, (∀ h ∈ hs, h.v.oneCell' = true ∧ h.long.oneCell' = true) → ∀ v ∈ hcells hs, v.oneCell' = true
  | [], _, v, hv => by simp [hcells] at hv
  | x :: hs, h, v, hv => by
    have e : hcells (x :: hs) = [x.v, x.long, .int .i64 (x.k : Nat)] ++ hcells hs := by simp [hcells]
    rw [e] at hv
    rcases List.mem_append.1 hv with hv | hv
    · simp only [List.mem_cons, List.not_mem_nil, or_false] at hv
      rcases hv with rfl | rfl | rfl
      · exact (h x (by simp)).1
      · exact (h x (by simp)).2
      · rfl
    · exact hcells_one hs (fun y hy => h y (by simp [hy])) v hv
/-- No two lists share a block. -/
def Apart (hs : List Held) : Prop := ∀ (i j : Nat) (hi : i < hs.length) (hj : j < hs.length), i ≠ j → ∀ g, hs[i].v.ownBlock = some g → hs[j].v.ownBlock ≠ some g
/-- Each list, as it lies in memory: cells of the element's type e, size cells an element. -/
def Lists (w : World) (B e size : Nat) (hs : List Held) : Prop := ∀ (i : Nat) (h : i < hs.length), ∃ xs : List Value, w.ownsRow B e size hs[i].v hs[i].n xs
/-- The blocks of the lists. -/
def lblk (hs : List Held) : Nat → Prop := fun k => ∃ h ∈ hs, h.v.ownBlock = some k
theorem lblk_of {hs : List Held} {i : Nat} (h : i < hs.length) {g : Nat} (hg : hs[i].v.ownBlock = some g) : lblk hs g := ⟨_, List.getElem_mem h, hg⟩
theorem Lists.lt {w : World} {B e size : Nat} {hs : List Held} (h : Lists w B e size hs) {k : Nat} (hk : lblk hs k) : B ≤ k ∧ k < w.heap.size := by
  obtain ⟨x, hx, hg⟩ := hk
  obtain ⟨i, hi, rfl⟩ := List.getElem_of_mem hx
  obtain ⟨xs, hr⟩ := h i hi
  exact hr.lt k hg
/-- A block of another type than the lists' elements is none of theirs. -/
theorem Lists.not {w : World} {B e size : Nat} {hs : List Held} (h : Lists w B e size hs) {k : Nat} {cs : Array Value} {t : TypeId} {fr : Nat × Nat} (hk : w.heap[k]? = some (.cells cs t fr)) (ht : t ≠ e) : ¬ lblk hs k := by
  rintro ⟨x, hx, hg⟩
  obtain ⟨i, hi, rfl⟩ := List.getElem_of_mem hx
  obtain ⟨xs, hr⟩ := h i hi
  exact row_ne hr hk ht k hg rfl
theorem BookAt.cell {w : World} {K cnt : Nat} {f : Nat → Value} (h : BookAt w K cnt f) (j : Nat) (v : Value) (hv : (bookC cnt f)[j]? = some v) : w.cell? ⟨K, j, none⟩ = some v := blk_cell h j hv
theorem row_cells3 {w : World} {B e : Nat} {g c : Nat} {hs : List Held} (h : w.ownsRow B e 3 (.slice (some ⟨g, 0, none⟩) hs.length c) hs.length (hcells hs)) (i : Nat) (hi : i < hs.length) :
    w.cell? ⟨g, i * 3, none⟩ = some hs[i].v ∧ w.cell? ⟨g, i * 3 + 1, none⟩ = some hs[i].long ∧ w.cell? ⟨g, i * 3 + 2, none⟩ = some (.int .i64 (hs[i].k : Nat)) := by
  obtain ⟨h0, h1, h2⟩ := hcells_get hs i hi
  have hc := h.cells (g := g) rfl
  have e : ∀ j, (⟨g, 0, none⟩ : Addr).add j = ⟨g, j, none⟩ := fun j => by rw [Addr.add_mid, Nat.zero_add]
  have a0 := hc _ _ h0
  have a1 := hc _ _ h1
  have a2 := hc _ _ h2
  rw [e] at a0 a1 a2
  exact ⟨a0, a1, a2⟩
theorem fillByte_none (K cnt : Nat) (f : Nat → Value) (w : World) (h : BookAt w K cnt f) (hf : f 1 = .slice none 0 0) : Calls Tryd.prog 21 #[.pointer (some ⟨K, 0, none⟩)] w fun e w' => e = .returned (.tuple #[]) ∧ w = w' := by
  have hc : w.cell? ⟨K, 1, none⟩ = some (.slice none 0 0) := by rw [← hf]; exact blk_cell h 1 rfl
  clear hf
  go_enter Tryd.func21, Tryd.ntmps21
  go_wp2
  go_loop [2] (fun i => i = .int .i64 0) (fun _ => 0)
  case atStart => rfl
  case round =>
    obtain rfl := hrel
    go_wp2
    go_end0
    exact ⟨rfl, rfl⟩
theorem growByte_none (K cnt : Nat) (f : Nat → Value) (w : World) (h : BookAt w K cnt f) (hf : f 1 = .slice none 0 0) : Calls Tryd.prog 33 #[.pointer (some ⟨K, 0, none⟩)] w fun e w' => e = .returned (.tuple #[]) ∧ w = w' := by
  have hc : w.cell? ⟨K, 1, none⟩ = some (.slice none 0 0) := by rw [← hf]; exact blk_cell h 1 rfl
  clear hf
  go_enter Tryd.func33, Tryd.ntmps33
  go_wp2
  go_loop [2] (fun i => i = .int .i64 0) (fun _ => 0)
  case atStart => rfl
  case round =>
    obtain rfl := hrel
    go_wp2
    go_end0
    exact ⟨rfl, rfl⟩
theorem lookByte_none (K cnt : Nat) (f : Nat → Value) (w : World) (h : BookAt w K cnt f) (hf : f 1 = .slice none 0 0) : Calls Tryd.prog 45 #[.pointer (some ⟨K, 0, none⟩)] w fun e w' => e = .returned (.bool true) ∧ w = w' := by
  have hc : w.cell? ⟨K, 1, none⟩ = some (.slice none 0 0) := by rw [← hf]; exact blk_cell h 1 rfl
  clear hf
  go_enter Tryd.func45, Tryd.ntmps45
  go_wp2
  go_loop [3] (fun i => i = .int .i64 0) (fun _ => 0)
  case atStart => rfl
  case round =>
    obtain rfl := hrel
    go_wp2
    go_ret
    exact ⟨rfl, rfl⟩
theorem fillId_none (K cnt : Nat) (f : Nat → Value) (w : World) (h : BookAt w K cnt f) (hf : f 2 = .slice none 0 0) : Calls Tryd.prog 22 #[.pointer (some ⟨K, 0, none⟩)] w fun e w' => e = .returned (.tuple #[]) ∧ w = w' := by
  have hc : w.cell? ⟨K, 2, none⟩ = some (.slice none 0 0) := by rw [← hf]; exact blk_cell h 2 rfl
  clear hf
  go_enter Tryd.func22, Tryd.ntmps22
  go_wp2
  go_loop [2] (fun i => i = .int .i64 0) (fun _ => 0)
  case atStart => rfl
  case round =>
    obtain rfl := hrel
    go_wp2
    go_end0
    exact ⟨rfl, rfl⟩
theorem growId_none (K cnt : Nat) (f : Nat → Value) (w : World) (h : BookAt w K cnt f) (hf : f 2 = .slice none 0 0) : Calls Tryd.prog 34 #[.pointer (some ⟨K, 0, none⟩)] w fun e w' => e = .returned (.tuple #[]) ∧ w = w' := by
  have hc : w.cell? ⟨K, 2, none⟩ = some (.slice none 0 0) := by rw [← hf]; exact blk_cell h 2 rfl
  clear hf
  go_enter Tryd.func34, Tryd.ntmps34
  go_wp2
  go_loop [2] (fun i => i = .int .i64 0) (fun _ => 0)
  case atStart => rfl
  case round =>
    obtain rfl := hrel
    go_wp2
    go_end0
    exact ⟨rfl, rfl⟩
theorem lookId_none (K cnt : Nat) (f : Nat → Value) (w : World) (h : BookAt w K cnt f) (hf : f 2 = .slice none 0 0) : Calls Tryd.prog 46 #[.pointer (some ⟨K, 0, none⟩)] w fun e w' => e = .returned (.bool true) ∧ w = w' := by
  have hc : w.cell? ⟨K, 2, none⟩ = some (.slice none 0 0) := by rw [← hf]; exact blk_cell h 2 rfl
  clear hf
  go_enter Tryd.func46, Tryd.ntmps46
  go_wp2
  go_loop [3] (fun i => i = .int .i64 0) (fun _ => 0)
  case atStart => rfl
  case round =>
    obtain rfl := hrel
    go_wp2
    go_ret
    exact ⟨rfl, rfl⟩
theorem fillInt_none (K cnt : Nat) (f : Nat → Value) (w : World) (h : BookAt w K cnt f) (hf : f 3 = .slice none 0 0) : Calls Tryd.prog 23 #[.pointer (some ⟨K, 0, none⟩)] w fun e w' => e = .returned (.tuple #[]) ∧ w = w' := by
  have hc : w.cell? ⟨K, 3, none⟩ = some (.slice none 0 0) := by rw [← hf]; exact blk_cell h 3 rfl
  clear hf
  go_enter Tryd.func23, Tryd.ntmps23
  go_wp2
  go_loop [2] (fun i => i = .int .i64 0) (fun _ => 0)
  case atStart => rfl
  case round =>
    obtain rfl := hrel
    go_wp2
    go_end0
    exact ⟨rfl, rfl⟩
theorem growInt_none (K cnt : Nat) (f : Nat → Value) (w : World) (h : BookAt w K cnt f) (hf : f 3 = .slice none 0 0) : Calls Tryd.prog 35 #[.pointer (some ⟨K, 0, none⟩)] w fun e w' => e = .returned (.tuple #[]) ∧ w = w' := by
  have hc : w.cell? ⟨K, 3, none⟩ = some (.slice none 0 0) := by rw [← hf]; exact blk_cell h 3 rfl
  clear hf
  go_enter Tryd.func35, Tryd.ntmps35
  go_wp2
  go_loop [2] (fun i => i = .int .i64 0) (fun _ => 0)
  case atStart => rfl
  case round =>
    obtain rfl := hrel
    go_wp2
    go_end0
    exact ⟨rfl, rfl⟩
theorem lookInt_none (K cnt : Nat) (f : Nat → Value) (w : World) (h : BookAt w K cnt f) (hf : f 3 = .slice none 0 0) : Calls Tryd.prog 47 #[.pointer (some ⟨K, 0, none⟩)] w fun e w' => e = .returned (.bool true) ∧ w = w' := by
  have hc : w.cell? ⟨K, 3, none⟩ = some (.slice none 0 0) := by rw [← hf]; exact blk_cell h 3 rfl
  clear hf
  go_enter Tryd.func47, Tryd.ntmps47
  go_wp2
  go_loop [3] (fun i => i = .int .i64 0) (fun _ => 0)
  case atStart => rfl
  case round =>
    obtain rfl := hrel
    go_wp2
    go_ret
    exact ⟨rfl, rfl⟩
theorem fillText_none (K cnt : Nat) (f : Nat → Value) (w : World) (h : BookAt w K cnt f) (hf : f 4 = .slice none 0 0) : Calls Tryd.prog 24 #[.pointer (some ⟨K, 0, none⟩)] w fun e w' => e = .returned (.tuple #[]) ∧ w = w' := by
  have hc : w.cell? ⟨K, 4, none⟩ = some (.slice none 0 0) := by rw [← hf]; exact blk_cell h 4 rfl
  clear hf
  go_enter Tryd.func24, Tryd.ntmps24
  go_wp2
  go_loop [2] (fun i => i = .int .i64 0) (fun _ => 0)
  case atStart => rfl
  case round =>
    obtain rfl := hrel
    go_wp2
    go_end0
    exact ⟨rfl, rfl⟩
theorem growText_none (K cnt : Nat) (f : Nat → Value) (w : World) (h : BookAt w K cnt f) (hf : f 4 = .slice none 0 0) : Calls Tryd.prog 36 #[.pointer (some ⟨K, 0, none⟩)] w fun e w' => e = .returned (.tuple #[]) ∧ w = w' := by
  have hc : w.cell? ⟨K, 4, none⟩ = some (.slice none 0 0) := by rw [← hf]; exact blk_cell h 4 rfl
  clear hf
  go_enter Tryd.func36, Tryd.ntmps36
  go_wp2
  go_loop [2] (fun i => i = .int .i64 0) (fun _ => 0)
  case atStart => rfl
  case round =>
    obtain rfl := hrel
    go_wp2
    go_end0
    exact ⟨rfl, rfl⟩
theorem lookText_none (K cnt : Nat) (f : Nat → Value) (w : World) (h : BookAt w K cnt f) (hf : f 4 = .slice none 0 0) : Calls Tryd.prog 48 #[.pointer (some ⟨K, 0, none⟩)] w fun e w' => e = .returned (.bool true) ∧ w = w' := by
  have hc : w.cell? ⟨K, 4, none⟩ = some (.slice none 0 0) := by rw [← hf]; exact blk_cell h 4 rfl
  clear hf
  go_enter Tryd.func48, Tryd.ntmps48
  go_wp2
  go_loop [3] (fun i => i = .int .i64 0) (fun _ => 0)
  case atStart => rfl
  case round =>
    obtain rfl := hrel
    go_wp2
    go_ret
    exact ⟨rfl, rfl⟩
theorem fillRow_none (K cnt : Nat) (f : Nat → Value) (w : World) (h : BookAt w K cnt f) (hf : f 5 = .slice none 0 0) : Calls Tryd.prog 25 #[.pointer (some ⟨K, 0, none⟩)] w fun e w' => e = .returned (.tuple #[]) ∧ w = w' := by
  have hc : w.cell? ⟨K, 5, none⟩ = some (.slice none 0 0) := by rw [← hf]; exact blk_cell h 5 rfl
  clear hf
  go_enter Tryd.func25, Tryd.ntmps25
  go_wp2
  go_loop [2] (fun i => i = .int .i64 0) (fun _ => 0)
  case atStart => rfl
  case round =>
    obtain rfl := hrel
    go_wp2
    go_end0
    exact ⟨rfl, rfl⟩
theorem growRow_none (K cnt : Nat) (f : Nat → Value) (w : World) (h : BookAt w K cnt f) (hf : f 5 = .slice none 0 0) : Calls Tryd.prog 37 #[.pointer (some ⟨K, 0, none⟩)] w fun e w' => e = .returned (.tuple #[]) ∧ w = w' := by
  have hc : w.cell? ⟨K, 5, none⟩ = some (.slice none 0 0) := by rw [← hf]; exact blk_cell h 5 rfl
  clear hf
  go_enter Tryd.func37, Tryd.ntmps37
  go_wp2
  go_loop [2] (fun i => i = .int .i64 0) (fun _ => 0)
  case atStart => rfl
  case round =>
    obtain rfl := hrel
    go_wp2
    go_end0
    exact ⟨rfl, rfl⟩
theorem lookRow_none (K cnt : Nat) (f : Nat → Value) (w : World) (h : BookAt w K cnt f) (hf : f 5 = .slice none 0 0) : Calls Tryd.prog 49 #[.pointer (some ⟨K, 0, none⟩)] w fun e w' => e = .returned (.bool true) ∧ w = w' := by
  have hc : w.cell? ⟨K, 5, none⟩ = some (.slice none 0 0) := by rw [← hf]; exact blk_cell h 5 rfl
  clear hf
  go_enter Tryd.func49, Tryd.ntmps49
  go_wp2
  go_loop [3] (fun i => i = .int .i64 0) (fun _ => 0)
  case atStart => rfl
  case round =>
    obtain rfl := hrel
    go_wp2
    go_ret
    exact ⟨rfl, rfl⟩
theorem fillOp_none (K cnt : Nat) (f : Nat → Value) (w : World) (h : BookAt w K cnt f) (hf : f 6 = .slice none 0 0) : Calls Tryd.prog 26 #[.pointer (some ⟨K, 0, none⟩)] w fun e w' => e = .returned (.tuple #[]) ∧ w = w' := by
  have hc : w.cell? ⟨K, 6, none⟩ = some (.slice none 0 0) := by rw [← hf]; exact blk_cell h 6 rfl
  clear hf
  go_enter Tryd.func26, Tryd.ntmps26
  go_wp2
  go_loop [2] (fun i => i = .int .i64 0) (fun _ => 0)
  case atStart => rfl
  case round =>
    obtain rfl := hrel
    go_wp2
    go_end0
    exact ⟨rfl, rfl⟩
theorem growOp_none (K cnt : Nat) (f : Nat → Value) (w : World) (h : BookAt w K cnt f) (hf : f 6 = .slice none 0 0) : Calls Tryd.prog 38 #[.pointer (some ⟨K, 0, none⟩)] w fun e w' => e = .returned (.tuple #[]) ∧ w = w' := by
  have hc : w.cell? ⟨K, 6, none⟩ = some (.slice none 0 0) := by rw [← hf]; exact blk_cell h 6 rfl
  clear hf
  go_enter Tryd.func38, Tryd.ntmps38
  go_wp2
  go_loop [2] (fun i => i = .int .i64 0) (fun _ => 0)
  case atStart => rfl
  case round =>
    obtain rfl := hrel
    go_wp2
    go_end0
    exact ⟨rfl, rfl⟩
theorem lookOp_none (K cnt : Nat) (f : Nat → Value) (w : World) (h : BookAt w K cnt f) (hf : f 6 = .slice none 0 0) : Calls Tryd.prog 50 #[.pointer (some ⟨K, 0, none⟩)] w fun e w' => e = .returned (.bool true) ∧ w = w' := by
  have hc : w.cell? ⟨K, 6, none⟩ = some (.slice none 0 0) := by rw [← hf]; exact blk_cell h 6 rfl
  clear hf
  go_enter Tryd.func50, Tryd.ntmps50
  go_wp2
  go_loop [3] (fun i => i = .int .i64 0) (fun _ => 0)
  case atStart => rfl
  case round =>
    obtain rfl := hrel
    go_wp2
    go_ret
    exact ⟨rfl, rfl⟩
theorem fillSpan_none (K cnt : Nat) (f : Nat → Value) (w : World) (h : BookAt w K cnt f) (hf : f 7 = .slice none 0 0) : Calls Tryd.prog 27 #[.pointer (some ⟨K, 0, none⟩)] w fun e w' => e = .returned (.tuple #[]) ∧ w = w' := by
  have hc : w.cell? ⟨K, 7, none⟩ = some (.slice none 0 0) := by rw [← hf]; exact blk_cell h 7 rfl
  clear hf
  go_enter Tryd.func27, Tryd.ntmps27
  go_wp2
  go_loop [2] (fun i => i = .int .i64 0) (fun _ => 0)
  case atStart => rfl
  case round =>
    obtain rfl := hrel
    go_wp2
    go_end0
    exact ⟨rfl, rfl⟩
theorem growSpan_none (K cnt : Nat) (f : Nat → Value) (w : World) (h : BookAt w K cnt f) (hf : f 7 = .slice none 0 0) : Calls Tryd.prog 39 #[.pointer (some ⟨K, 0, none⟩)] w fun e w' => e = .returned (.tuple #[]) ∧ w = w' := by
  have hc : w.cell? ⟨K, 7, none⟩ = some (.slice none 0 0) := by rw [← hf]; exact blk_cell h 7 rfl
  clear hf
  go_enter Tryd.func39, Tryd.ntmps39
  go_wp2
  go_loop [2] (fun i => i = .int .i64 0) (fun _ => 0)
  case atStart => rfl
  case round =>
    obtain rfl := hrel
    go_wp2
    go_end0
    exact ⟨rfl, rfl⟩
theorem lookSpan_none (K cnt : Nat) (f : Nat → Value) (w : World) (h : BookAt w K cnt f) (hf : f 7 = .slice none 0 0) : Calls Tryd.prog 51 #[.pointer (some ⟨K, 0, none⟩)] w fun e w' => e = .returned (.bool true) ∧ w = w' := by
  have hc : w.cell? ⟨K, 7, none⟩ = some (.slice none 0 0) := by rw [← hf]; exact blk_cell h 7 rfl
  clear hf
  go_enter Tryd.func51, Tryd.ntmps51
  go_wp2
  go_loop [3] (fun i => i = .int .i64 0) (fun _ => 0)
  case atStart => rfl
  case round =>
    obtain rfl := hrel
    go_wp2
    go_ret
    exact ⟨rfl, rfl⟩
theorem fillChange_none (K cnt : Nat) (f : Nat → Value) (w : World) (h : BookAt w K cnt f) (hf : f 8 = .slice none 0 0) : Calls Tryd.prog 28 #[.pointer (some ⟨K, 0, none⟩)] w fun e w' => e = .returned (.tuple #[]) ∧ w = w' := by
  have hc : w.cell? ⟨K, 8, none⟩ = some (.slice none 0 0) := by rw [← hf]; exact blk_cell h 8 rfl
  clear hf
  go_enter Tryd.func28, Tryd.ntmps28
  go_wp2
  go_loop [2] (fun i => i = .int .i64 0) (fun _ => 0)
  case atStart => rfl
  case round =>
    obtain rfl := hrel
    go_wp2
    go_end0
    exact ⟨rfl, rfl⟩
theorem growChange_none (K cnt : Nat) (f : Nat → Value) (w : World) (h : BookAt w K cnt f) (hf : f 8 = .slice none 0 0) : Calls Tryd.prog 40 #[.pointer (some ⟨K, 0, none⟩)] w fun e w' => e = .returned (.tuple #[]) ∧ w = w' := by
  have hc : w.cell? ⟨K, 8, none⟩ = some (.slice none 0 0) := by rw [← hf]; exact blk_cell h 8 rfl
  clear hf
  go_enter Tryd.func40, Tryd.ntmps40
  go_wp2
  go_loop [2] (fun i => i = .int .i64 0) (fun _ => 0)
  case atStart => rfl
  case round =>
    obtain rfl := hrel
    go_wp2
    go_end0
    exact ⟨rfl, rfl⟩
theorem lookChange_none (K cnt : Nat) (f : Nat → Value) (w : World) (h : BookAt w K cnt f) (hf : f 8 = .slice none 0 0) : Calls Tryd.prog 52 #[.pointer (some ⟨K, 0, none⟩)] w fun e w' => e = .returned (.bool true) ∧ w = w' := by
  have hc : w.cell? ⟨K, 8, none⟩ = some (.slice none 0 0) := by rw [← hf]; exact blk_cell h 8 rfl
  clear hf
  go_enter Tryd.func52, Tryd.ntmps52
  go_wp2
  go_loop [3] (fun i => i = .int .i64 0) (fun _ => 0)
  case atStart => rfl
  case round =>
    obtain rfl := hrel
    go_wp2
    go_ret
    exact ⟨rfl, rfl⟩
theorem fillResult_none (K cnt : Nat) (f : Nat → Value) (w : World) (h : BookAt w K cnt f) (hf : f 9 = .slice none 0 0) : Calls Tryd.prog 29 #[.pointer (some ⟨K, 0, none⟩)] w fun e w' => e = .returned (.tuple #[]) ∧ w = w' := by
  have hc : w.cell? ⟨K, 9, none⟩ = some (.slice none 0 0) := by rw [← hf]; exact blk_cell h 9 rfl
  clear hf
  go_enter Tryd.func29, Tryd.ntmps29
  go_wp2
  go_loop [2] (fun i => i = .int .i64 0) (fun _ => 0)
  case atStart => rfl
  case round =>
    obtain rfl := hrel
    go_wp2
    go_end0
    exact ⟨rfl, rfl⟩
theorem growResult_none (K cnt : Nat) (f : Nat → Value) (w : World) (h : BookAt w K cnt f) (hf : f 9 = .slice none 0 0) : Calls Tryd.prog 41 #[.pointer (some ⟨K, 0, none⟩)] w fun e w' => e = .returned (.tuple #[]) ∧ w = w' := by
  have hc : w.cell? ⟨K, 9, none⟩ = some (.slice none 0 0) := by rw [← hf]; exact blk_cell h 9 rfl
  clear hf
  go_enter Tryd.func41, Tryd.ntmps41
  go_wp2
  go_loop [2] (fun i => i = .int .i64 0) (fun _ => 0)
  case atStart => rfl
  case round =>
    obtain rfl := hrel
    go_wp2
    go_end0
    exact ⟨rfl, rfl⟩
theorem lookResult_none (K cnt : Nat) (f : Nat → Value) (w : World) (h : BookAt w K cnt f) (hf : f 9 = .slice none 0 0) : Calls Tryd.prog 53 #[.pointer (some ⟨K, 0, none⟩)] w fun e w' => e = .returned (.bool true) ∧ w = w' := by
  have hc : w.cell? ⟨K, 9, none⟩ = some (.slice none 0 0) := by rw [← hf]; exact blk_cell h 9 rfl
  clear hf
  go_enter Tryd.func53, Tryd.ntmps53
  go_wp2
  go_loop [3] (fun i => i = .int .i64 0) (fun _ => 0)
  case atStart => rfl
  case round =>
    obtain rfl := hrel
    go_wp2
    go_ret
    exact ⟨rfl, rfl⟩
theorem fillMsg_none (K cnt : Nat) (f : Nat → Value) (w : World) (h : BookAt w K cnt f) (hf : f 10 = .slice none 0 0) : Calls Tryd.prog 30 #[.pointer (some ⟨K, 0, none⟩)] w fun e w' => e = .returned (.tuple #[]) ∧ w = w' := by
  have hc : w.cell? ⟨K, 10, none⟩ = some (.slice none 0 0) := by rw [← hf]; exact blk_cell h 10 rfl
  clear hf
  go_enter Tryd.func30, Tryd.ntmps30
  go_wp2
  go_loop [2] (fun i => i = .int .i64 0) (fun _ => 0)
  case atStart => rfl
  case round =>
    obtain rfl := hrel
    go_wp2
    go_end0
    exact ⟨rfl, rfl⟩
theorem growMsg_none (K cnt : Nat) (f : Nat → Value) (w : World) (h : BookAt w K cnt f) (hf : f 10 = .slice none 0 0) : Calls Tryd.prog 42 #[.pointer (some ⟨K, 0, none⟩)] w fun e w' => e = .returned (.tuple #[]) ∧ w = w' := by
  have hc : w.cell? ⟨K, 10, none⟩ = some (.slice none 0 0) := by rw [← hf]; exact blk_cell h 10 rfl
  clear hf
  go_enter Tryd.func42, Tryd.ntmps42
  go_wp2
  go_loop [2] (fun i => i = .int .i64 0) (fun _ => 0)
  case atStart => rfl
  case round =>
    obtain rfl := hrel
    go_wp2
    go_end0
    exact ⟨rfl, rfl⟩
theorem lookMsg_none (K cnt : Nat) (f : Nat → Value) (w : World) (h : BookAt w K cnt f) (hf : f 10 = .slice none 0 0) : Calls Tryd.prog 54 #[.pointer (some ⟨K, 0, none⟩)] w fun e w' => e = .returned (.bool true) ∧ w = w' := by
  have hc : w.cell? ⟨K, 10, none⟩ = some (.slice none 0 0) := by rw [← hf]; exact blk_cell h 10 rfl
  clear hf
  go_enter Tryd.func54, Tryd.ntmps54
  go_wp2
  go_loop [3] (fun i => i = .int .i64 0) (fun _ => 0)
  case atStart => rfl
  case round =>
    obtain rfl := hrel
    go_wp2
    go_ret
    exact ⟨rfl, rfl⟩
theorem fillPart_none (K cnt : Nat) (f : Nat → Value) (w : World) (h : BookAt w K cnt f) (hf : f 11 = .slice none 0 0) : Calls Tryd.prog 31 #[.pointer (some ⟨K, 0, none⟩)] w fun e w' => e = .returned (.tuple #[]) ∧ w = w' := by
  have hc : w.cell? ⟨K, 11, none⟩ = some (.slice none 0 0) := by rw [← hf]; exact blk_cell h 11 rfl
  clear hf
  go_enter Tryd.func31, Tryd.ntmps31
  go_wp2
  go_loop [2] (fun i => i = .int .i64 0) (fun _ => 0)
  case atStart => rfl
  case round =>
    obtain rfl := hrel
    go_wp2
    go_end0
    exact ⟨rfl, rfl⟩
theorem growPart_none (K cnt : Nat) (f : Nat → Value) (w : World) (h : BookAt w K cnt f) (hf : f 11 = .slice none 0 0) : Calls Tryd.prog 43 #[.pointer (some ⟨K, 0, none⟩)] w fun e w' => e = .returned (.tuple #[]) ∧ w = w' := by
  have hc : w.cell? ⟨K, 11, none⟩ = some (.slice none 0 0) := by rw [← hf]; exact blk_cell h 11 rfl
  clear hf
  go_enter Tryd.func43, Tryd.ntmps43
  go_wp2
  go_loop [2] (fun i => i = .int .i64 0) (fun _ => 0)
  case atStart => rfl
  case round =>
    obtain rfl := hrel
    go_wp2
    go_end0
    exact ⟨rfl, rfl⟩
theorem lookPart_none (K cnt : Nat) (f : Nat → Value) (w : World) (h : BookAt w K cnt f) (hf : f 11 = .slice none 0 0) : Calls Tryd.prog 55 #[.pointer (some ⟨K, 0, none⟩)] w fun e w' => e = .returned (.bool true) ∧ w = w' := by
  have hc : w.cell? ⟨K, 11, none⟩ = some (.slice none 0 0) := by rw [← hf]; exact blk_cell h 11 rfl
  clear hf
  go_enter Tryd.func55, Tryd.ntmps55
  go_wp2
  go_loop [3] (fun i => i = .int .i64 0) (fun _ => 0)
  case atStart => rfl
  case round =>
    obtain rfl := hrel
    go_wp2
    go_ret
    exact ⟨rfl, rfl⟩
theorem fillDeed_none (K cnt : Nat) (f : Nat → Value) (w : World) (h : BookAt w K cnt f) (hf : f 12 = .slice none 0 0) : Calls Tryd.prog 32 #[.pointer (some ⟨K, 0, none⟩)] w fun e w' => e = .returned (.tuple #[]) ∧ w = w' := by
  have hc : w.cell? ⟨K, 12, none⟩ = some (.slice none 0 0) := by rw [← hf]; exact blk_cell h 12 rfl
  clear hf
  go_enter Tryd.func32, Tryd.ntmps32
  go_wp2
  go_loop [2] (fun i => i = .int .i64 0) (fun _ => 0)
  case atStart => rfl
  case round =>
    obtain rfl := hrel
    go_wp2
    go_end0
    exact ⟨rfl, rfl⟩
theorem growDeed_none (K cnt : Nat) (f : Nat → Value) (w : World) (h : BookAt w K cnt f) (hf : f 12 = .slice none 0 0) : Calls Tryd.prog 44 #[.pointer (some ⟨K, 0, none⟩)] w fun e w' => e = .returned (.tuple #[]) ∧ w = w' := by
  have hc : w.cell? ⟨K, 12, none⟩ = some (.slice none 0 0) := by rw [← hf]; exact blk_cell h 12 rfl
  clear hf
  go_enter Tryd.func44, Tryd.ntmps44
  go_wp2
  go_loop [2] (fun i => i = .int .i64 0) (fun _ => 0)
  case atStart => rfl
  case round =>
    obtain rfl := hrel
    go_wp2
    go_end0
    exact ⟨rfl, rfl⟩
theorem lookDeed_none (K cnt : Nat) (f : Nat → Value) (w : World) (h : BookAt w K cnt f) (hf : f 12 = .slice none 0 0) : Calls Tryd.prog 56 #[.pointer (some ⟨K, 0, none⟩)] w fun e w' => e = .returned (.bool true) ∧ w = w' := by
  have hc : w.cell? ⟨K, 12, none⟩ = some (.slice none 0 0) := by rw [← hf]; exact blk_cell h 12 rfl
  clear hf
  go_enter Tryd.func56, Tryd.ntmps56
  go_wp2
  go_loop [3] (fun i => i = .int .i64 0) (fun _ => 0)
  case atStart => rfl
  case round =>
    obtain rfl := hrel
    go_wp2
    go_ret
    exact ⟨rfl, rfl⟩
end Go.Proofs.YtanlgidliflepaaDoor
