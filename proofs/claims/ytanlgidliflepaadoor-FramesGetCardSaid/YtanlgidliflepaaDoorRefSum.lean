/- The reference's sums (concordatref03): they compute 'crc' too. Conditions: lengths that a Go slice has. -/
import Derived.Test.YtanlgidliflepaaDoorSums
namespace Go.Proofs.YtanlgidliflepaaDoor
open Go.RowKit

theorem ref_round (n : Nat) (hn : n < 4294967296) (c : UInt8) : bits BinOp.xor IntKind.u32 (n : Int) (c.toNat : Int) = ((n ^^^ c.toNat : Nat) : Int) := by
  have hc := c.toNat_lt
  exact u32_xor_nat n c.toNat hn (by omega)
theorem ref_step1 (m : Nat) (hm : m < 4294967296) (h : m % 2 = 1) : bits BinOp.xor IntKind.u32 ((m : Int) / 2) 3988292384 = ((Crc.step m : Nat) : Int) := by
  unfold Crc.step
  rw [if_pos h]
  exact u32_xor_nat (m / 2) Crc.D (by omega) (by decide)
theorem ref_step0 (m : Nat) (h : ¬ m % 2 = 1) : ((m : Int) / 2) = ((Crc.step m : Nat) : Int) := by
  unfold Crc.step
  rw [if_neg h]; simp

theorem stepN_succ (q m : Nat) : Crc.stepN (q + 1) m = Crc.step (Crc.stepN q m) := rfl
theorem step8_N (m : Nat) : Crc.step8 m = Crc.stepN 8 m := by simp only [Crc.step8, Crc.stepN]
set_option maxRecDepth 20000 in
set_option maxHeartbeats 1000000 in
theorem refOn_any (s : Nat) (hs : s < 4294967296) (a : Option Addr) (l : List UInt8) (cap : Nat) (w : World) (hl : l.length ≤ 9223372036854775807) (hb : IsB w a l) :
    Calls Tryd.prog 62 #[.int .u32 s, .slice a l.length cap] w fun e w' => e = .returned (.int .u32 (crc s l : Nat)) ∧ w = w' := by
  have hs0 : (0 : Int) ≤ 4294967295 - (s : Int) := by omega
  go_enter Tryd.func62, Tryd.ntmps62
  go_wp2
  go_loop [5, 6] (fun m i => ∃ k : Nat, k ≤ l.length ∧ i = .int .i64 k ∧ m = .int .u32 (crcN (4294967295 - s) (l.take k) : Nat)) (fun _ i => l.length - (intOf i).toNat)
  case atStart => exact ⟨0, by omega, rfl, by simp [crcN]; omega⟩
  case round =>
    obtain ⟨k, hk, rfl, rfl⟩ := hrel
    have hn : crcN (4294967295 - s) (l.take k) < 4294967296 := crcN_lt (by omega) _
    by_cases hlt : k < l.length
    · obtain ⟨b, off, rfl, hcell⟩ : ∃ b off, a = some ⟨b, off, none⟩ ∧ ∀ j (h : j < l.length), w.cell? ⟨b, off + j, none⟩ = some (.int .u8 (l[j].toNat : Int)) := hb.resolve_left (by rintro rfl; simp at hlt)
      have hc := hcell k hlt
      have hcb : (l[k].toNat : Int) < 4294967296 := by have := l[k].toNat_lt; omega
      have hr := ref_round _ hn l[k]
      have hx := xor_byte_lt hn l[k]
      have HS := Lib.hid (crcN_snoc (4294967295 - s) l k hlt)
      clear hcell hb
      go_wp2
      obtain ⟨m0, hm0⟩ : ∃ x, crcN (4294967295 - s) (l.take k) ^^^ l[k].toNat = x := ⟨_, rfl⟩
      rw [hm0] at HS hx ⊢
      clear hm0 hr hn
      go_loop [5, 7] (fun m i => ∃ q : Nat, q ≤ 8 ∧ i = .int .i64 q ∧ m = .int .u32 (Crc.stepN q m0 : Nat)) (fun _ i => 8 - (intOf i).toNat)
      case atStart => exact ⟨0, by omega, rfl, rfl⟩
      case round =>
        obtain ⟨q, hq, rfl, rfl⟩ := hrel
        have hm := Crc.stepN_lt q hx
        have HX := Lib.hid hx
        have HQ := Lib.hid hq
        by_cases hq8 : q < 8
        · have i8 : (q : Int) < 8 := by omega
          have d8 : decide ((q : Int) < 8) = true := decide_eq_true i8
          have hsu := stepN_succ q m0
          obtain ⟨mm, hmm⟩ : ∃ mm, Crc.stepN q m0 = mm := ⟨_, rfl⟩
          rw [hmm] at hm hsu ⊢
          have HSU := Lib.hid hsu
          clear hmm hsu hx hq
          by_cases hodd : mm % 2 = 1
          · have HST := Lib.hid (ref_step1 mm hm hodd)
            have hb1 : (((mm : Nat) : Int) % 2 == 1) = true := by rw [beq_iff_eq]; omega
            have h32 : (mm : Int) < 4294967296 := by omega
            clear hodd hm
            go_wp2_with fail
            refine ⟨⟨q + 1, by omega, by go_num, ?_⟩, ?_⟩
            · rw [HSU.out]; exact congrArg _ HST.out
            · simp [intOf]; omega
          · have HST := Lib.hid (ref_step0 mm hodd)
            have hb1 : (((mm : Nat) : Int) % 2 == 1) = false := by rw [beq_eq_false_iff_ne]; omega
            have h32 : (mm : Int) < 4294967296 := by omega
            clear hodd hm
            go_wp2_with fail
            refine ⟨⟨q + 1, by omega, by go_num, ?_⟩, ?_⟩
            · rw [HSU.out]; exact congrArg _ HST.out
            · simp [intOf]; omega
        · obtain rfl : q = 8 := by omega
          have d8 : decide (((8 : Nat) : Int) < 8) = false := rfl
          go_wp2_with fail
          refine ⟨⟨k + 1, by omega, by go_num, by rw [HS.out, step8_N]⟩, ?_⟩
          simp [intOf]; omega
    · obtain rfl : k = l.length := by omega
      rw [List.take_length] at hn
      have hsub : (4294967295 : Int) - ((crcN (4294967295 - s) l : Nat) : Int) = ((crc s l : Nat) : Int) := by unfold crc; omega
      have HS := Lib.hid hsub
      clear hsub
      have h0 : (0 : Int) ≤ 4294967295 - ((crcN (4294967295 - s) l : Nat) : Int) := by omega
      rw [List.take_length]
      go_wp2
      go_ret
      refine ⟨?_, rfl⟩
      first | rfl | (rw [HS.out]; rfl)
theorem refOf_any (a : Option Addr) (l : List UInt8) (cap : Nat) (w : World) (hl : l.length ≤ 9223372036854775807) (hb : IsB w a l) :
    Calls Tryd.prog 19 #[.slice a l.length cap] w fun e w' => e = .returned (.int .u32 (crc 0 l : Nat)) ∧ w = w' := by
  go_enter Tryd.func19, Tryd.ntmps19
  go_wp2_with (go_at_call 62; refine (refOn_any 0 (by omega) a l cap w hl hb).mono ?_; rintro e w' ⟨rfl, rfl⟩)
  go_ret
  exact ⟨rfl, rfl⟩
end Go.Proofs.YtanlgidliflepaaDoor
