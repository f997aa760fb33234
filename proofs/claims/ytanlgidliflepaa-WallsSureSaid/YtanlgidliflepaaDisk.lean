/- The disk (package sectors): what its memory holds, and the contracts of its methods. Conditions: counts that fit. -/
import Derived.Test.YtanlgidliflepaaClone
namespace Go.Proofs.Ytanlgidliflepaa
open Go.RowKit

/-- A disk, as numbers and lists. -/
structure Dk where
  n : Nat
  sure : List UInt8
  seen : List UInt8
  waits : List (Nat × List UInt8)

structure Dk.ok (S : Dk) : Prop where
  pos : 1 ≤ S.n
  most : S.n ≤ 4096
  sure : S.sure.length = S.n * 64
  seen : S.seen.length = S.n * 64
  waits : ∀ x ∈ S.waits, x.1 < S.n ∧ x.2.length = 64

def wcells (ws : List (Nat × List UInt8)) : List Value := ws.flatMap fun x => Value.int .i64 x.1 :: bvals x.2
theorem wcells_snoc (ws : List (Nat × List UInt8)) (x : Nat × List UInt8) : wcells (ws ++ [x]) = wcells ws ++ (Value.int .i64 x.1 :: bvals x.2) := by simp [wcells]

/-- The disk S lies at block D; fp: its blocks. -/
structure Dsk (w : World) (D : Nat) (S : Dk) (fp : Nat → Prop) (g1 c1 g2 c2 : Nat) (v3 : Value) : Prop where
  ok : S.ok
  blk : w.heap[D]? = some (.cells #[.slice (some ⟨g1, 0, none⟩) S.n c1, .slice (some ⟨g2, 0, none⟩) S.n c2, v3] 40 (0, 0))
  r1 : w.ownsRow 0 64 64 (.slice (some ⟨g1, 0, none⟩) S.n c1) S.n (bvals S.sure)
  r2 : w.ownsRow 0 64 64 (.slice (some ⟨g2, 0, none⟩) S.n c2) S.n (bvals S.seen)
  r3 : w.ownsRow 0 66 65 v3 S.waits.length (wcells S.waits)
  ne : g1 ≠ g2
  fD : fp D
  f1 : fp g1
  f2 : fp g2
  f3 : ∀ g, v3.ownBlock = some g → fp g
  lt : ∀ k, fp k → k < w.heap.size

def IsDsk (w : World) (D : Nat) (S : Dk) (fp : Nat → Prop) : Prop := ∃ g1 c1 g2 c2 v3, Dsk w D S fp g1 c1 g2 c2 v3

theorem IsDsk.fr {w w' : World} {D : Nat} {S : Dk} {fp fq : Nat → Prop} (h : IsDsk w D S fp) (hf : Fr fq w w') (hn : ∀ k, fp k → ¬ fq k) : IsDsk w' D S fp := by
  obtain ⟨g1, c1, g2, c2, v3, h⟩ := h
  exact ⟨g1, c1, g2, c2, v3, h.ok, hf.blk h.blk (hn _ h.fD), hf.row h.r1 (fun g e => by simp [Value.ownBlock] at e; subst e; exact hn _ h.f1), hf.row h.r2 (fun g e => by simp [Value.ownBlock] at e; subst e; exact hn _ h.f2), hf.row h.r3 (fun g e => hn _ (h.f3 g e)), h.ne, h.fD, h.f1, h.f2, h.f3, fun k hk => Nat.lt_of_lt_of_le (h.lt k hk) hf.size⟩

theorem size_any (D : Nat) (S : Dk) (fp : Nat → Prop) (w : World) (h : IsDsk w D S fp) : Calls Try.prog 22 #[.pointer (some ⟨D, 0, none⟩)] w fun e w' => e = .returned (.int .i64 S.n) ∧ w = w' := by
  obtain ⟨g1, c1, g2, c2, v3, h⟩ := h
  have hc := blk_cell h.blk 0 rfl
  go_enter Try.func22, Try.ntmps22
  go_wp2
  go_ret
  exact ⟨rfl, rfl⟩

theorem waits_any (D : Nat) (S : Dk) (fp : Nat → Prop) (w : World) (h : IsDsk w D S fp) : Calls Try.prog 16 #[.pointer (some ⟨D, 0, none⟩)] w fun e w' => e = .returned (.int .i64 S.waits.length) ∧ w = w' := by
  obtain ⟨g1, c1, g2, c2, v3, h⟩ := h
  have hc := blk_cell h.blk 2 rfl
  have h3 := h.r3
  rcases h3.2 with ⟨rfl, e⟩ | ⟨g, cap, cur, rfl, _⟩
  · have e' : S.waits.length = 0 := e
    rw [e']
    go_enter Try.func16, Try.ntmps16
    go_wp2
    go_ret
    exact ⟨rfl, rfl⟩
  · go_enter Try.func16, Try.ntmps16
    go_wp2
    go_ret
    exact ⟨rfl, rfl⟩

/-- may: is the sector one of them? -/
theorem may_any (D : Nat) (S : Dk) (fp : Nat → Prop) (at_ : Int) (w : World) (h : IsDsk w D S fp) : Calls Try.prog 32 #[.pointer (some ⟨D, 0, none⟩), .int .i64 at_] w fun e w' => e = .returned (.int .i64 (if 0 ≤ at_ ∧ at_ < S.n then 0 else 1)) ∧ w = w' := by
  have hok : S.ok := by obtain ⟨g1, c1, g2, c2, v3, h⟩ := h; exact h.ok
  have hp := hok.pos
  have hm := hok.most
  have hne : ((S.n : Int) == 0) = false := by rw [beq_eq_false_iff_ne]; omega
  by_cases h0 : at_ < 0
  · rw [if_neg (by omega)]
    go_enter Try.func32, Try.ntmps32
    go_wp2_with (go_at_call 22; refine (size_any D S fp w h).mono ?_; rintro e w' ⟨rfl, rfl⟩)
    go_ret
    exact ⟨rfl, rfl⟩
  · by_cases h1 : at_ < S.n
    · rw [if_pos (by omega)]
      go_enter Try.func32, Try.ntmps32
      go_wp2_with (go_at_call 22; refine (size_any D S fp w h).mono ?_; rintro e w' ⟨rfl, rfl⟩)
      go_ret
      exact ⟨rfl, rfl⟩
    · rw [if_neg (by omega)]
      go_enter Try.func32, Try.ntmps32
      go_wp2_with (go_at_call 22; refine (size_any D S fp w h).mono ?_; rintro e w' ⟨rfl, rfl⟩)
      go_ret
      exact ⟨rfl, rfl⟩
end Go.Proofs.Ytanlgidliflepaa
