/- Contracts of the sums (On, Of): they compute 'crc'. Conditions: lengths that a Go slice has. -/
import Derived.Test.YtanlgidliflepaaDoorChecked
import Derived.Test.YtanlgidliflepaaDoorCrc
import Derived.Test.YtanlgidliflepaaDoorHeap
import Derived.WalkKit
import Derived.ProofKit
import Derived.Below
import Derived.Lib.Hide
import Derived.Outline
import Derived.Laws.Rows
import Derived.Laws.Tables
import Derived.Laws.CopyRow
namespace Go.Proofs.YtanlgidliflepaaDoor
open Go.RowKit



theorem step_bits (m : Nat) (hm : m < 4294967296) : bits BinOp.xor IntKind.u32 ((m : Int) / 2) (bits BinOp.and IntKind.u32 3988292384 (-bits BinOp.and IntKind.u32 (m : Int) 1 % 4294967296)) = ((Crc.step m : Nat) : Int) := by
  have h1 : bits BinOp.and IntKind.u32 (m : Int) 1 = ((m % 2 : Nat) : Int) := by
    have := u32_and_nat m 1 hm (by decide)
    rw [Nat.and_one_is_mod] at this; exact this
  rw [h1]
  unfold Crc.step
  rcases Nat.mod_two_eq_zero_or_one m with h | h
  · rw [h]
    have h2 : bits BinOp.and IntKind.u32 3988292384 (-((0 : Nat) : Int) % 4294967296) = ((0 : Nat) : Int) := u32_and_nat 3988292384 0 (by decide) (by decide)
    rw [h2]
    exact u32_xor_nat (m / 2) 0 (by omega) (by decide)
  · rw [h]
    have h2 : bits BinOp.and IntKind.u32 3988292384 (-((1 : Nat) : Int) % 4294967296) = ((Crc.D : Nat) : Int) := u32_and_nat 3988292384 4294967295 (by decide) (by decide)
    rw [h2]
    exact u32_xor_nat (m / 2) Crc.D (by omega) (by decide)

theorem on1_any (n : Nat) (hn : n < 4294967296) (w : World) :
    Calls Tryd.prog 61 #[.int .u32 n] w fun e w' => e = .returned (.int .u32 (Crc.stepN 8 n : Nat)) ∧ w = w' := by
  go_enter Tryd.func61, Tryd.ntmps61
  go_wp2
  go_loop [0, 3] (fun m i => ∃ k : Nat, k ≤ 8 ∧ i = .int .i64 k ∧ m = .int .u32 (Crc.stepN k n : Nat)) (fun _ i => 8 - (intOf i).toNat)
  case atStart => exact ⟨0, by omega, rfl, rfl⟩
  case round =>
    obtain ⟨k, hk, rfl, rfl⟩ := hrel
    have hb := Crc.stepN_lt k hn
    go_wp2
    · go_round
      case rel => exact ⟨k + 1, by omega, by go_num, by rw [step_bits _ hb]; rfl⟩
      case measure => simp [intOf]; omega
    · obtain rfl : k = 8 := by omega
      go_ret
      exact ⟨rfl, rfl⟩


def tabF (i : Nat) : Value := .int .u32 (Crc.stepN 8 i : Nat)
def tabK (k : Nat) : Array Value := ((List.range k).map tabF ++ List.replicate (256 - k) (Value.int .u32 0)).toArray
theorem tabK_set (k : Nat) (h : k < 256) : (tabK k).setIfInBounds k (.int .u32 (Crc.stepN 8 k : Nat)) = tabK (k + 1) := by
  unfold tabK
  rw [List.setIfInBounds_toArray]
  congr 1
  apply List.ext_getElem?
  intro i
  rw [List.getElem?_set]
  simp only [List.length_append, List.length_map, List.length_range, List.length_replicate]
  by_cases h1 : k = i
  · subst h1
    simp [List.range_succ, tabF]; omega
  · rw [if_neg h1]
    by_cases h2 : i < k
    · rw [List.getElem?_append_left (by simpa using h2), List.getElem?_append_left (by simp; omega)]
      simp [List.range_succ, List.getElem?_append, h2]
    · rw [List.getElem?_append_right (by simp; omega), List.getElem?_append_right (by simp; omega)]
      simp only [List.length_map, List.length_range, List.getElem?_replicate]
      congr 1
      simp; omega
theorem tabK_size (k : Nat) (h : k ≤ 256) : (tabK k).size = 256 := by simp [tabK]; omega

theorem zeroTab : ∀ w, (zeroValue 55).run Tryd.prog w = .ok (.agg (tabK 0)) w := fun _ => by kernel_rfl
theorem sizeTab : (Tryd.prog.info? 55).map (·.size) = some (tabK 256).size := by kernel_rfl
theorem oneTab : (tabK 256).all (·.oneCell') = true := by decide +kernel
set_option maxRecDepth 100000 in
theorem table_any (w : World) :
    Calls Tryd.prog 60 #[.func (.func 61) #[] #[]] w fun e w' => e = .returned (.agg (tabK 256)) ∧ Below w.heap.size w w' := by
  have hz := zeroTab
  go_enter Tryd.func60, Tryd.ntmps60
  go_wp2
  go_loopw [3, 4] (fun _ i wr => ∃ k : Nat, k ≤ 256 ∧ i = .int .i64 k ∧ wr.heap[w.heap.size]? = some (.cells (tabK k) 55 (0, 0)) ∧ Below w.heap.size w wr) (fun _ i _ => 256 - (intOf i).toNat)
  case atStart => exact ⟨0, by omega, rfl, heap_alloc_new _ _, (Below.refl _ _).alloc (Nat.le_refl _) _⟩
  case round =>
    obtain ⟨k, hk, rfl, hB, hbel⟩ := hrel
    have hf := frozen_of_row wr w.heap.size k (tabK k) 55 hB
    have hc : k < 256 → ∃ v, wr.cell? ⟨w.heap.size, k, none⟩ = some v := fun h => by
      rw [cell_of_row wr _ _ _ _ _ hB]; exact ⟨_, Array.getElem?_eq_getElem (by rw [tabK_size k hk]; exact h)⟩
    by_cases hlt : k < 256
    · obtain ⟨v, hc⟩ := hc hlt
      go_wp2_with (go_at_call 61; refine (on1_any k (by omega) wr).mono ?_; rintro e w' ⟨rfl, rfl⟩)
      go_roundw
      case rel => exact ⟨k + 1, by omega, by go_num, by rw [← tabK_set k hlt]; exact heap_setCell_same _ _ _ _ _ _ hB, hbel.setCell (p := ⟨w.heap.size, k, none⟩) (Nat.le_refl _) _⟩
      case measure => simp [intOf]; omega
    · obtain rfl : k = 256 := by omega
      go_wp2_with (first | (refine wpList_load_row rfl 55 _ rfl w.heap.size rfl 55 _ (0, 0) _ hB Tryd.underlying55 rfl sizeTab ?_) | (refine wpList_store_row rfl 55 _ _ rfl w.heap.size (tabK 256) rfl rfl 55 (tabK 256) hB sizeTab rfl oneTab ?_))
      rw [setRow_self wr _ _ _ _ hB]
      exact bodyPost_ret (results_cell_row rfl _ _ w.heap.size 55 (tabK 256) (0, 0) _ rfl hB Tryd.underlying55 rfl sizeTab) rfl ⟨rfl, hbel⟩


def crcN (n : Nat) (l : List UInt8) : Nat := l.foldl (fun n c => Crc.step8 (n ^^^ c.toNat)) n
def crc (s : Nat) (l : List UInt8) : Nat := 4294967295 - crcN (4294967295 - s) l

theorem step8_lt {n : Nat} (h : n < 4294967296) : Crc.step8 n < 4294967296 := Crc.stepN_lt 8 h
theorem xor_byte_lt {n : Nat} (h : n < 4294967296) (c : UInt8) : n ^^^ c.toNat < 4294967296 :=
  Nat.xor_lt_two_pow (n := 32) h (by have := c.toNat_lt; omega)
theorem crcN_lt {n : Nat} (h : n < 4294967296) (l : List UInt8) : crcN n l < 4294967296 := by
  induction l generalizing n with
  | nil => exact h
  | cons c l ih => exact ih (step8_lt (xor_byte_lt h c))
theorem crcN_snoc (n : Nat) (l : List UInt8) (k : Nat) (h : k < l.length) : crcN n (l.take (k + 1)) = Crc.step8 (crcN n (l.take k) ^^^ l[k].toNat) := by
  unfold crcN; rw [List.take_succ_eq_append_getElem h, List.foldl_append]; rfl


theorem xor_ones (s : Nat) (hs : s < 4294967296) : 4294967295 ^^^ s = 4294967295 - s := by
  apply Nat.eq_of_testBit_eq; intro i
  have h := Nat.testBit_two_pow_sub_succ (x := s) (n := 32) (by omega) i
  have e : 2 ^ 32 - (s + 1) = 4294967295 - s := by omega
  rw [e] at h
  rw [h, Nat.testBit_xor]
  have h2 : Nat.testBit 4294967295 i = decide (i < 32) := by
    have := Nat.testBit_two_pow_sub_one 32 i
    simpa using this
  rw [h2]
  by_cases hi : i < 32
  · simp [hi]
  · have : s.testBit i = false := Nat.testBit_lt_two_pow (Nat.lt_of_lt_of_le hs (by have := Nat.pow_le_pow_right (n := 2) (by omega) (show 32 ≤ i by omega); simpa using this))
    simp [hi, this]
theorem not_u32 (s : Nat) (hs : s < 4294967296) : bits BinOp.xor IntKind.u32 IntKind.u32.max (s : Int) = ((4294967295 - s : Nat) : Int) := by
  rw [← xor_ones s hs]; exact u32_xor_nat 4294967295 s (by decide) hs

theorem round_bits (n : Nat) (hn : n < 4294967296) (c : UInt8) :
    ∃ i : Nat, i < 256 ∧ bits BinOp.xor IntKind.u8 ((n : Int) % 256) (c.toNat : Int) = (i : Int) ∧ bits BinOp.xor IntKind.u32 ((n : Int) / 256) ((Crc.stepN 8 i : Nat) : Int) = ((Crc.step8 (n ^^^ c.toNat) : Nat) : Int) := by
  have hc := c.toNat_lt
  have hx : (n % 256) ^^^ c.toNat < 256 := Nat.xor_lt_two_pow (n := 8) (by omega) (by omega)
  refine ⟨(n % 256) ^^^ c.toNat, hx, u8_xor_nat (n % 256) c.toNat (by omega) (by omega), ?_⟩
  rw [Crc.byte_step]
  exact u32_xor_nat (n / 256) _ (by omega) (Crc.stepN_lt 8 (by omega))

set_option maxRecDepth 100000 in
theorem on_any (s : Nat) (hs : s < 4294967296) (a : Option Addr) (l : List UInt8) (cap : Nat) (w : World) (hl : l.length ≤ 9223372036854775807) (hb : IsB w a l) :
    Calls Tryd.prog 16 #[.int .u32 s, .slice a l.length cap] w fun e w' => e = .returned (.int .u32 (crc s l : Nat)) ∧ Below w.heap.size w w' := by
  have hz := zeroTab
  by_cases h0 : l.length = 0
  · have : l = [] := List.eq_nil_of_length_eq_zero h0
    subst this
    go_enter Tryd.func16, Tryd.ntmps16
    go_wp2
    go_ret
    exact ⟨by simp [crc, crcN]; rw [show 4294967295 - (4294967295 - s) = s from by omega], Below.refl _ _⟩
  · have hne : ((l.length : Int) == 0) = false := by rw [beq_eq_false_iff_ne]; omega
    go_enter Tryd.func16, Tryd.ntmps16
    go_wp2_with (first | (go_at_call 60; refine (table_any w).mono ?_; rintro e w1 ⟨rfl, hb1⟩) | (refine wpList_store_row rfl 55 _ _ rfl _ (tabK 256) rfl rfl 55 (tabK 0) (heap_alloc_new _ _) sizeTab rfl oneTab ?_))
    rw [not_u32 s hs]
    have hT : ((w1.alloc (Obj.cells (tabK 0) 55)).setRow w1.heap.size (tabK 256)).heap[w1.heap.size]? = some (.cells (tabK 256) 55 (0, 0)) := setRow_heap _ _ _ _ _ _ (heap_alloc_new _ _)
    have hBel : Below w.heap.size w ((w1.alloc (Obj.cells (tabK 0) 55)).setRow w1.heap.size (tabK 256)) := (hb1.alloc hb1.size _).trans ⟨rfl, rfl, rfl, by simp, fun k hk => setRow_other _ _ _ _ (by have := hb1.size; omega)⟩
    generalize hW : (w1.alloc (Obj.cells (tabK 0) 55)).setRow w1.heap.size (tabK 256) = W at *
    clear hW
    generalize hg : w1.heap.size = g at *
    clear hg
    go_loop [6, 8, 18] (fun m _ i => ∃ k : Nat, k ≤ l.length ∧ i = .int .i64 k ∧ m = .int .u32 (crcN (4294967295 - s) (l.take k) : Nat)) (fun _ _ i => l.length - (intOf i).toNat)
    case atStart => exact ⟨0, by omega, rfl, by simp [crcN]⟩
    case round =>
      obtain ⟨k, hk, rfl, rfl⟩ := hrel
      have hn : crcN (4294967295 - s) (l.take k) < 4294967296 := crcN_lt (by omega) _
      by_cases hlt2 : k < l.length
      · rcases hb with hb | ⟨b, off, rfl, hb⟩
        · simp [hb] at hlt2
        have hbl : b < w.heap.size := World.block_lt_of_cell? w ⟨b, off + k, none⟩ (hb k hlt2)
        have hcell : W.cell? ⟨b, off + k, none⟩ = some (.int .u8 (l[k].toNat : Int)) := (hBel.cell (p := ⟨b, off + k, none⟩) hbl).trans (hb k hlt2)
        obtain ⟨i, hi, e1, e2⟩ := round_bits _ hn l[k]
        have hti : W.cell? ⟨g, i, none⟩ = some (.int .u32 (Crc.stepN 8 i : Nat)) := by
          rw [cell_of_row W g i _ 55 _ hT]
          simp [tabK, tabF, hi]
        clear hb
        go_wp2
        go_round
        case rel => exact ⟨k + 1, by omega, by go_num, by rw [crcN_snoc _ _ _ hlt2]⟩
        case measure => simp [intOf]; omega
      · obtain rfl : k = l.length := by omega
        go_wp2
        rw [List.take_length] at hn
        rw [not_u32 _ hn]
        go_ret
        exact ⟨rfl, hBel⟩

theorem of_any (a : Option Addr) (l : List UInt8) (cap : Nat) (w : World) (hl : l.length ≤ 9223372036854775807) (hb : IsB w a l) :
    Calls Tryd.prog 17 #[.slice a l.length cap] w fun e w' => e = .returned (.int .u32 (crc 0 l : Nat)) ∧ Below w.heap.size w w' := by
  go_enter Tryd.func17, Tryd.ntmps17
  go_wp2_with (go_at_call 16; refine (on_any 0 (by omega) a l cap w hl hb).mono ?_; rintro e w' ⟨rfl, hbw⟩)
  go_ret
  exact ⟨rfl, hbw⟩
end Go.Proofs.YtanlgidliflepaaDoor
