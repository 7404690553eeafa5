/- CRC-32 by the table of bytes and bit by bit: plain numbers. -/
namespace Go.Proofs.Ytlmpmfgheacplaa

def crcStep (x : Nat) : Nat := (x >>> 1) ^^^ (if x % 2 = 1 then 3988292384 else 0)
def crcSteps : Nat → Nat → Nat
  | 0, x => x
  | k + 1, x => crcStep (crcSteps k x)
def crcByte (x : Nat) (c : UInt8) : Nat := crcSteps 8 ((x % 256) ^^^ c.toNat) ^^^ (x >>> 8)
def crcFold (x : Nat) (l : List UInt8) : Nat := l.foldl crcByte x
/-- More, of a sum and bytes. -/
def crcMore (sum : Nat) (l : List UInt8) : Nat := 4294967295 - crcFold (4294967295 - sum) l
def crcOf (l : List UInt8) : Nat := crcMore 0 l

theorem crcStep_lt {x : Nat} (h : x < 4294967296) : crcStep x < 4294967296 := by
  unfold crcStep
  have h1 : x >>> 1 < 2 ^ 32 := by rw [Nat.shiftRight_eq_div_pow]; omega
  have h2 : (if x % 2 = 1 then 3988292384 else 0) < 2 ^ 32 := by split <;> decide
  exact Nat.xor_lt_two_pow h1 h2
theorem crcSteps_lt (k : Nat) {x : Nat} (h : x < 4294967296) : crcSteps k x < 4294967296 := by
  induction k with
  | zero => exact h
  | succ k ih => exact crcStep_lt ih
theorem crcByte_lt {x : Nat} (h : x < 4294967296) (c : UInt8) : crcByte x c < 4294967296 := by
  unfold crcByte
  have hc : c.toNat < 256 := c.toNat_lt
  have h1 : (x % 256) ^^^ c.toNat < 2 ^ 8 := Nat.xor_lt_two_pow (by omega) (by omega)
  have h2 : crcSteps 8 ((x % 256) ^^^ c.toNat) < 2 ^ 32 := crcSteps_lt 8 (by omega)
  have h3 : x >>> 8 < 2 ^ 32 := by rw [Nat.shiftRight_eq_div_pow]; omega
  exact Nat.xor_lt_two_pow h2 h3
theorem crcFold_lt (l : List UInt8) : ∀ {x : Nat}, x < 4294967296 → crcFold x l < 4294967296 := by
  induction l with
  | nil => exact fun h => h
  | cons c l ih => exact fun h => ih (crcByte_lt h c)

theorem xor_mod2 (a b : Nat) : (a ^^^ b) % 2 = (a + b) % 2 := by
  have h : ∀ n : Nat, n % 2 = if n.testBit 0 then 1 else 0 := fun n => by
    rw [Nat.testBit_zero]
    split <;> simp_all
  rw [h (a ^^^ b), Nat.testBit_xor]
  have ha := h a
  have hb := h b
  cases hA : a.testBit 0 <;> cases hB : b.testBit 0 <;> simp [hA, hB] at ha hb ⊢ <;> omega

theorem crcStep_xor (a b : Nat) : crcStep (a ^^^ b) = crcStep a ^^^ crcStep b := by
  unfold crcStep
  rw [Nat.shiftRight_xor_distrib, xor_mod2]
  rcases Nat.mod_two_eq_zero_or_one a with ha | ha <;> rcases Nat.mod_two_eq_zero_or_one b with hb | hb
  · simp [show (a + b) % 2 = 0 by omega, ha, hb]
  · simp [show (a + b) % 2 = 1 by omega, ha, hb, Nat.xor_assoc]
  · simp [show (a + b) % 2 = 1 by omega, ha, hb]
    rw [Nat.xor_assoc, Nat.xor_assoc, Nat.xor_comm (b >>> 1)]
  · simp only [show (a + b) % 2 = 0 by omega, ha, hb]
    simp only [show ¬ (0 : Nat) = 1 from by decide, if_false, if_true, Nat.xor_zero]
    rw [Nat.xor_comm (b >>> 1), Nat.xor_assoc, ← Nat.xor_assoc 3988292384, Nat.xor_self, Nat.zero_xor]
theorem crcSteps_xor (k a b : Nat) : crcSteps k (a ^^^ b) = crcSteps k a ^^^ crcSteps k b := by
  induction k with
  | zero => rfl
  | succ k ih => simp only [crcSteps]; rw [ih, crcStep_xor]
theorem crcSteps_inner (k x : Nat) : crcSteps (k + 1) x = crcSteps k (crcStep x) := by
  induction k with
  | zero => rfl
  | succ k ih => simp only [crcSteps] at *; rw [ih]
theorem crcStep_double (y : Nat) : crcStep (2 * y) = y := by
  unfold crcStep
  rw [Nat.shiftRight_eq_div_pow, if_neg (by omega), Nat.xor_zero]
  omega
theorem crcSteps_shift (k y : Nat) : crcSteps k (2 ^ k * y) = y := by
  induction k generalizing y with
  | zero => simp [crcSteps]
  | succ k ih =>
    rw [crcSteps_inner, show 2 ^ (k + 1) * y = 2 * (2 ^ k * y) by rw [Nat.pow_succ, Nat.mul_comm (2 ^ k), Nat.mul_assoc], crcStep_double, ih]
theorem split_low (x : Nat) : (x % 256) ^^^ (2 ^ 8 * (x >>> 8)) = x := by
  apply Nat.eq_of_testBit_eq
  intro i
  rw [Nat.testBit_xor, show (256 : Nat) = 2 ^ 8 by rfl, Nat.testBit_mod_two_pow, Nat.testBit_two_pow_mul, Nat.testBit_shiftRight]
  by_cases h : i < 8
  · simp [h, show ¬ 8 ≤ i by omega]
  · simp [h, show 8 ≤ i by omega, show 8 + (i - 8) = i by omega]
/-- A byte by the table is a byte bit by bit. -/
theorem crcByte_bits (x : Nat) (c : UInt8) : crcByte x c = crcSteps 8 (x ^^^ c.toNat) := by
  have h : x ^^^ c.toNat = ((x % 256) ^^^ c.toNat) ^^^ (2 ^ 8 * (x >>> 8)) := by
    rw [Nat.xor_assoc, Nat.xor_comm c.toNat, ← Nat.xor_assoc, split_low]
  unfold crcByte
  rw [h, crcSteps_xor 8 ((x % 256) ^^^ c.toNat), crcSteps_shift]
end Go.Proofs.Ytlmpmfgheacplaa
