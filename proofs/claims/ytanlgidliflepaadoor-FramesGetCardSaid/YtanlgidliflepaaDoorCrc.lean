/- Plain law: the table-driven sum and the bitwise sum agree. Conditions: none. -/
import Derived.WalkKit
namespace Go.Proofs.YtanlgidliflepaaDoor.Crc
def D : Nat := 0xedb88320
def step (n : Nat) : Nat := n / 2 ^^^ (if n % 2 = 1 then D else 0)
def step8 (n : Nat) : Nat := step (step (step (step (step (step (step (step n)))))))
def stepN : Nat → Nat → Nat
  | 0, n => n
  | k + 1, n => step (stepN k n)

theorem xor_div2 (a b : Nat) : (a ^^^ b) / 2 = a / 2 ^^^ b / 2 := by
  apply Nat.eq_of_testBit_eq; intro i
  simp [← Nat.testBit_succ, Nat.testBit_xor]
theorem xor_mod2 (a b : Nat) : (a ^^^ b) % 2 = (a % 2 + b % 2) % 2 := by
  have h := Nat.testBit_xor a b 0
  simp only [Nat.testBit_zero] at h
  rcases Nat.mod_two_eq_zero_or_one a with ha | ha <;> rcases Nat.mod_two_eq_zero_or_one b with hb | hb <;> rcases Nat.mod_two_eq_zero_or_one (a ^^^ b) with hc | hc <;> simp_all
theorem step_xor (a b : Nat) : step (a ^^^ b) = step a ^^^ step b := by
  unfold step
  rw [xor_div2, xor_mod2]
  rcases Nat.mod_two_eq_zero_or_one a with ha | ha <;> rcases Nat.mod_two_eq_zero_or_one b with hb | hb <;> simp only [ha, hb] <;> simp
  · ac_rfl
  · ac_rfl
  · have : a / 2 ^^^ D ^^^ (b / 2 ^^^ D) = (a / 2 ^^^ b / 2) ^^^ (D ^^^ D) := by ac_rfl
    rw [this]; simp
theorem step8_xor (a b : Nat) : step8 (a ^^^ b) = step8 a ^^^ step8 b := by
  unfold step8; simp only [step_xor]
theorem step_even (m : Nat) : step (2 * m) = m := by
  unfold step; rw [if_neg (by omega)]; simp
theorem step8_256 (m : Nat) : step8 (256 * m) = m := by
  unfold step8
  have h : 256 * m = 2 * (2 * (2 * (2 * (2 * (2 * (2 * (2 * m))))))) := by omega
  rw [h]; simp only [step_even]
theorem split256 (n : Nat) : n = 256 * (n / 256) ^^^ (n % 256) := by
  apply Nat.eq_of_testBit_eq; intro i
  have e : 256 * (n / 256) = 2 ^ 8 * (n / 2 ^ 8) := by rfl
  rw [Nat.testBit_xor, e, Nat.testBit_two_pow_mul, show (256:Nat) = 2^8 from rfl, Nat.testBit_mod_two_pow, Nat.testBit_div_two_pow]
  by_cases h : i < 8
  · simp [h]; simp [show ¬ 8 ≤ i from by omega]
  · have : 8 ≤ i := by omega
    simp [h, this, show i - 8 + 8 = i from by omega]
theorem byte_step (n c : Nat) : step8 (n ^^^ c) = (n / 256) ^^^ step8 ((n % 256) ^^^ c) := by
  conv => lhs; rw [split256 n]
  rw [Nat.xor_assoc, step8_xor, step8_256]
theorem step_lt {n : Nat} (h : n < 4294967296) : step n < 4294967296 := by
  unfold step
  have hd : D < 2 ^ 32 := by decide
  refine Nat.xor_lt_two_pow (n := 32) (by omega) (by split <;> omega)
theorem stepN_lt (k : Nat) {n : Nat} (h : n < 4294967296) : stepN k n < 4294967296 := by
  induction k with
  | zero => exact h
  | succ k ih => exact step_lt ih
end Go.Proofs.YtanlgidliflepaaDoor.Crc
