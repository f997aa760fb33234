/- Contracts of a log that is not there, or that no call made. Conditions: none. -/
import Derived.Test.YtanlgidliflepaaChecked
import Derived.WalkKit
import Derived.ProofKit
import Derived.Below
import Derived.Outline
import Derived.Laws.Rows
namespace Go.Proofs.Ytanlgidliflepaa
open Go.RowKit

/-- A log that is nil, or that no call made. -/
def NoLog (w : World) (p : Option Addr) : Prop := p = none ∨ ∃ b, p = some ⟨b, 0, none⟩ ∧ w.cell? ⟨b, 0, none⟩ = some (.pointer none)

theorem there_no (p : Option Addr) (w : World) (h : NoLog w p) : Calls Try.prog 17 #[.pointer p] w fun e w' => e = .returned (.bool false) ∧ w = w' := by
  rcases h with rfl | ⟨b, rfl, hc⟩
  · go_enter Try.func17, Try.ntmps17
    go_wp2
    go_ret
    exact ⟨rfl, rfl⟩
  · go_enter Try.func17, Try.ntmps17
    go_wp2
    go_ret
    exact ⟨rfl, rfl⟩

theorem add_no (p : Option Addr) (a : Option Addr) (len cap : Nat) (w : World) (h : NoLog w p) : Calls Try.prog 6 #[.pointer p, .slice a len cap] w fun e w' => e = .returned (.int .i64 2) ∧ w = w' := by
  go_enter Try.func6, Try.ntmps6
  go_wp2_with (go_at_call 17; refine (there_no p w h).mono ?_; rintro e w' ⟨rfl, rfl⟩)
  go_ret
  exact ⟨rfl, rfl⟩

theorem force_no (p : Option Addr) (w : World) (h : NoLog w p) : Calls Try.prog 7 #[.pointer p] w fun e w' => e = .returned (.int .i64 2) ∧ w = w' := by
  go_enter Try.func7, Try.ntmps7
  go_wp2_with (go_at_call 17; refine (there_no p w h).mono ?_; rintro e w' ⟨rfl, rfl⟩)
  go_ret
  exact ⟨rfl, rfl⟩

theorem room_no (p : Option Addr) (n : Int) (w : World) (h : NoLog w p) : Calls Try.prog 8 #[.pointer p, .int .i64 n] w fun e w' => e = .returned (.bool false) ∧ w = w' := by
  go_enter Try.func8, Try.ntmps8
  go_wp2_with (go_at_call 17; refine (there_no p w h).mono ?_; rintro e w' ⟨rfl, rfl⟩)
  go_ret
  exact ⟨rfl, rfl⟩

/-- A disk that is nil, or that no call made. -/
def NoDisk (w : World) (p : Option Addr) : Prop := p = none ∨ ∃ b, p = some ⟨b, 0, none⟩ ∧ w.cell? ⟨b, 0, none⟩ = some (.slice none 0 0)

theorem size_no (p : Option Addr) (w : World) (h : NoDisk w p) : Calls Try.prog 22 #[.pointer p] w fun e w' => e = .returned (.int .i64 0) ∧ w = w' := by
  rcases h with rfl | ⟨b, rfl, hc⟩
  · go_enter Try.func22, Try.ntmps22
    go_wp2
    go_ret
    exact ⟨rfl, rfl⟩
  · go_enter Try.func22, Try.ntmps22
    go_wp2
    go_ret
    exact ⟨rfl, rfl⟩

theorem NoDisk.kept {w w' : World} {p : Option Addr} (h : NoDisk w p) (hb : Below w.heap.size w w') : NoDisk w' p := by
  rcases h with rfl | ⟨b, rfl, hc⟩
  · exact .inl rfl
  · exact .inr ⟨b, rfl, (hb.cell (p := ⟨b, 0, none⟩) (block_lt_of_cell hc)).trans hc⟩
theorem NoLog.kept {w w' : World} {p : Option Addr} (h : NoLog w p) (hb : Below w.heap.size w w') : NoLog w' p := by
  rcases h with rfl | ⟨b, rfl, hc⟩
  · exact .inl rfl
  · exact .inr ⟨b, rfl, (hb.cell (p := ⟨b, 0, none⟩) (block_lt_of_cell hc)).trans hc⟩

theorem open_no (p : Option Addr) (w : World) (h : NoDisk w p) : Calls Try.prog 9 #[.pointer p] w fun e w' => e = .returned (.tuple #[.pointer none, .slice none 0 0, .int .i64 2]) ∧ Below w.heap.size w w' := by
  have hz : ∀ w, (zeroValue 23).run Try.prog w = .ok (.pointer none) w := fun _ => by kernel_rfl
  have hz2 : ∀ w, (zeroValue 34).run Try.prog w = .ok (.slice none 0 0) w := fun _ => by kernel_rfl
  have hb2 : Below w.heap.size w ((w.alloc (Obj.cells #[Value.pointer none] 23)).alloc (Obj.cells #[Value.slice none 0 0] 34)) := ((Below.refl _ w).alloc (Nat.le_refl _) _).alloc (by simp) _
  have hd := h.kept hb2
  go_enter Try.func9, Try.ntmps9
  go_wp2_with (go_at_call 22; refine (size_no p _ hd).mono ?_; rintro e w' ⟨rfl, rfl⟩)
  exact bodyPost_ret (v := .tuple #[.pointer none, .slice none 0 0, .int .i64 2]) (by simp [results, Try.results9, go_sem]) rfl ⟨rfl, hb2⟩

theorem noLog_new (w : World) (t : TypeId) (n : Int) : NoLog (w.alloc (.cells #[.pointer none, .int .i64 n] t)) (some ⟨w.heap.size, 0, none⟩) := .inr ⟨_, rfl, by simp⟩

theorem wallsNone_any (a : Option Addr) (len cap : Nat) (n : Int) (w : World) : Calls Try.prog 3 #[.slice a len cap, .int .i64 n] w fun e w' => e = .returned (.bool true) ∧ Below w.heap.size w w' := by
  go_enter Try.func3, Try.ntmps3
  go_wp2
  have hB : Below w.heap.size w ((w.alloc (Obj.cells #[Value.pointer none, Value.int IntKind.i64 0] 28)).alloc (Obj.cells #[Value.pointer none, Value.pointer (some { block := w.heap.size, off := 0 })] 23)) := ((Below.refl _ w).alloc (Nat.le_refl _) _).alloc (by simp) _
  have hL : NoLog ((w.alloc (Obj.cells #[Value.pointer none, Value.int IntKind.i64 0] 28)).alloc (Obj.cells #[Value.pointer none, Value.pointer (some { block := w.heap.size, off := 0 })] 23)) (some ⟨w.heap.size, 0, none⟩) := .inr ⟨_, rfl, by rw [World.cell?_alloc_past _ _ _ (by simp)]; simp⟩
  have c0 : ((w.alloc (Obj.cells #[Value.pointer none, Value.int IntKind.i64 0] 28)).alloc (Obj.cells #[Value.pointer none, Value.pointer (some { block := w.heap.size, off := 0 })] 23)).cell? ⟨w.heap.size + 1, 0, none⟩ = some (.pointer none) := by rw [World.cell?_alloc_at _ _ _ _ (by simp)]; rfl
  have c1 : ((w.alloc (Obj.cells #[Value.pointer none, Value.int IntKind.i64 0] 28)).alloc (Obj.cells #[Value.pointer none, Value.pointer (some { block := w.heap.size, off := 0 })] 23)).cell? ⟨w.heap.size + 1, 1, none⟩ = some (.pointer (some ⟨w.heap.size, 0, none⟩)) := by rw [World.cell?_alloc_at _ _ _ _ (by simp)]; rfl
  generalize ((w.alloc (Obj.cells #[Value.pointer none, Value.int IntKind.i64 0] 28)).alloc (Obj.cells #[Value.pointer none, Value.pointer (some { block := w.heap.size, off := 0 })] 23)) = W at *
  go_loop [6] (fun i => ∃ k : Nat, k ≤ 2 ∧ i = .int .i64 k) (fun i => 2 - (intOf i).toNat)
  case atStart => exact ⟨0, by omega, rfl⟩
  case round =>
    obtain ⟨k, hk, rfl⟩ := hrel
    by_cases h0 : k = 0
    · subst h0
      go_wp2_with (first | (go_at_call 6; refine (add_no none a len cap W (.inl rfl)).mono ?_; rintro e w' ⟨rfl, rfl⟩) | (go_at_call 7; refine (force_no none W (.inl rfl)).mono ?_; rintro e w' ⟨rfl, rfl⟩) | (go_at_call 8; refine (room_no none n W (.inl rfl)).mono ?_; rintro e w' ⟨rfl, rfl⟩))
      go_round
      case rel => exact ⟨1, by omega, rfl⟩
      case measure => simp [intOf]
    by_cases h1 : k = 1
    · subst h1
      go_wp2_with (first | (go_at_call 6; refine (add_no _ a len cap W hL).mono ?_; rintro e w' ⟨rfl, rfl⟩) | (go_at_call 7; refine (force_no _ W hL).mono ?_; rintro e w' ⟨rfl, rfl⟩) | (go_at_call 8; refine (room_no _ n W hL).mono ?_; rintro e w' ⟨rfl, rfl⟩))
      go_round
      case rel => exact ⟨2, by omega, rfl⟩
      case measure => simp [intOf]
    obtain rfl : k = 2 := by omega
    go_wp2_with fail
    refine (open_no none W (.inl rfl)).mono ?_
    rintro e w1 ⟨rfl, hb1⟩
    go_wp2_with fail
    refine (open_no _ _ ?_).mono ?_
    · exact .inr ⟨_, rfl, by simp⟩
    rintro e w2 ⟨rfl, hb2⟩
    go_wp2
    go_ret
    exact ⟨rfl, hB.trans ((hb1.mono hB.size).trans ((Below.refl _ _).alloc (by have := hB.size; have := hb1.size; omega) _ |>.trans (hb2.mono (by have := hB.size; have := hb1.size; simp; omega))))⟩
end Go.Proofs.Ytanlgidliflepaa
