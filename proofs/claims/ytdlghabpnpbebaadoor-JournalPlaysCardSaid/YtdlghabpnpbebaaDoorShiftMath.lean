/- Plain arithmetic for layer 1 (shift): turning a 64-bit number round, bytes of a number, folding. No program in sight. -/
namespace Go.Proofs.YtdlghabpnpbebaaDoor.Shift

def rot1 (v : Nat) : Nat := v * 2 % 18446744073709551616 + v / 9223372036854775808
def rotN : Nat → Nat → Nat
  | 0, v => v
  | k + 1, v => rot1 (rotN k v)
def rotl (v k : Nat) : Nat := v * 2 ^ k % 18446744073709551616 + v / 2 ^ (64 - k)

theorem rot1_lt {v : Nat} (h : v < 18446744073709551616) : rot1 v < 18446744073709551616 := by unfold rot1; omega
theorem rotN_lt (k : Nat) {v : Nat} (h : v < 18446744073709551616) : rotN k v < 18446744073709551616 := by
  induction k with
  | zero => exact h
  | succ k ih => exact rot1_lt ih
theorem rotN_add (a b v : Nat) : rotN (a + b) v = rotN a (rotN b v) := by
  induction a with
  | zero => simp [rotN]
  | succ a ih => rw [Nat.succ_add]; simp [rotN, ih]
theorem rotN_comm (a b v : Nat) : rotN a (rotN b v) = rotN b (rotN a v) := by rw [← rotN_add, ← rotN_add, Nat.add_comm]

theorem rotl_zero {v : Nat} (h : v < 18446744073709551616) : rotl v 0 = v := by unfold rotl; simp; omega
theorem rotl_succ {v k : Nat} (h : v < 18446744073709551616) (hk : k < 64) : rotl v (k + 1) = rot1 (rotl v k) := by
  unfold rotl rot1
  obtain ⟨j, hj⟩ : ∃ j, 64 = k + 1 + j := ⟨63 - k, by omega⟩
  have e1 : 64 - k = j + 1 := by omega
  have e2 : 64 - (k + 1) = j := by omega
  rw [e1, e2]
  have hp : 18446744073709551616 = 2 ^ k * 2 * 2 ^ j := by
    rw [← Nat.pow_succ, ← Nat.pow_add, ← hj]
  have hp2 : 9223372036854775808 = 2 ^ k * 2 ^ j := by
    rw [← Nat.pow_add, show k + j = 63 from by omega]
  have hA : 0 < 2 ^ k := Nat.two_pow_pos k
  have hB : 0 < 2 ^ j := Nat.two_pow_pos j
  rw [hp] at h
  rw [hp, hp2, Nat.pow_succ, Nat.pow_succ]
  generalize 2 ^ k = A at *
  generalize 2 ^ j = B at *
  clear hp hp2 e1 e2 hj hk
  -- v = q * (2B) + c * B + d
  obtain ⟨q, r, hr, rfl⟩ : ∃ q r, r < B * 2 ∧ v = q * (B * 2) + r := ⟨v / (B * 2), v % (B * 2), Nat.mod_lt _ (by omega), by rw [Nat.mul_comm]; exact (Nat.div_add_mod v (B * 2)).symm⟩
  obtain ⟨c, d, hd, rfl⟩ : ∃ c d, d < B ∧ r = c * B + d := ⟨r / B, r % B, Nat.mod_lt _ hB, by rw [Nat.mul_comm]; exact (Nat.div_add_mod r B).symm⟩
  have hc : c < 2 := by
    rcases Nat.lt_or_ge c 2 with h2 | h2
    · exact h2
    · have := Nat.mul_le_mul_right B h2; omega
  have hq : q < A := by
    rcases Nat.lt_or_ge q A with h2 | h2
    · exact h2
    · have := Nat.mul_le_mul_right (B * 2) h2
      have e : A * 2 * B = A * (B * 2) := by rw [Nat.mul_assoc, Nat.mul_comm 2 B]
      omega
  have m1 : (q * (B * 2) + (c * B + d)) * A % (A * 2 * B) = (c * B + d) * A := by
    have e : (q * (B * 2) + (c * B + d)) * A = (c * B + d) * A + (A * 2 * B) * q := by
      rw [Nat.add_mul]
      have : q * (B * 2) * A = A * 2 * B * q := by
        ac_rfl
      omega
    rw [e, Nat.add_mul_mod_self_left]
    apply Nat.mod_eq_of_lt
    have : (c * B + d) * A < (B * 2) * A := Nat.mul_lt_mul_of_pos_right hr hA
    have e2 : A * 2 * B = (B * 2) * A := by ac_rfl
    omega
  have d1 : (q * (B * 2) + (c * B + d)) / (B * 2) = q := by
    rw [Nat.mul_comm q, Nat.mul_add_div (by omega), Nat.div_eq_of_lt hr]; rfl
  have d2 : (q * (B * 2) + (c * B + d)) / B = q * 2 + c := by
    have e : q * (B * 2) + (c * B + d) = B * (q * 2 + c) + d := by
      rw [Nat.mul_add, Nat.mul_comm c B]
      have : q * (B * 2) = B * (q * 2) := by ac_rfl
      omega
    rw [e, Nat.mul_add_div hB, Nat.div_eq_of_lt hd]; rfl
  rw [m1, d1, d2]
  have m2 : (q * (B * 2) + (c * B + d)) * (A * 2) % (A * 2 * B) = d * (A * 2) := by
    have e : (q * (B * 2) + (c * B + d)) * (A * 2) = d * (A * 2) + (A * 2 * B) * (q * 2 + c) := by
      rw [Nat.mul_add (A * 2 * B), Nat.add_mul, Nat.add_mul]
      have e1 : q * (B * 2) * (A * 2) = A * 2 * B * (q * 2) := by ac_rfl
      have e2 : c * B * (A * 2) = A * 2 * B * c := by ac_rfl
      omega
    rw [e, Nat.add_mul_mod_self_left]
    apply Nat.mod_eq_of_lt
    have : d * (A * 2) < B * (A * 2) := Nat.mul_lt_mul_of_pos_right hd (by omega)
    rw [Nat.mul_comm (A * 2) B]; exact this
  rw [m2]

  have s1 : (c * B + d) * A = A * B * c + d * A := by rw [Nat.add_mul]; ac_rfl
  have lt1 : d * A + q < A * B := by
    have : (d + 1) * A ≤ B * A := Nat.mul_le_mul_right A hd
    rw [Nat.add_mul, Nat.mul_comm B A] at this
    omega
  have d3 : ((c * B + d) * A + q) / (A * B) = c := by
    rw [s1, Nat.add_assoc, Nat.mul_add_div (Nat.mul_pos hA hB), Nat.div_eq_of_lt lt1]; rfl
  have m3 : ((c * B + d) * A + q) * 2 % (A * 2 * B) = d * (A * 2) + q * 2 := by
    have e : ((c * B + d) * A + q) * 2 = (d * (A * 2) + q * 2) + (A * 2 * B) * c := by
      rw [s1]
      have e1 : A * 2 * B * c = A * B * c * 2 := by ac_rfl
      have e2 : d * (A * 2) = d * A * 2 := by rw [Nat.mul_assoc]
      omega
    rw [e, Nat.add_mul_mod_self_left]
    apply Nat.mod_eq_of_lt
    have e1 : A * 2 * B = A * B * 2 := by ac_rfl
    have e2 : d * (A * 2) = d * A * 2 := by rw [Nat.mul_assoc]
    omega
  rw [d3, m3]
  omega

theorem rotl_eq {v : Nat} (h : v < 18446744073709551616) (k : Nat) (hk : k ≤ 64) : rotl v k = rotN k v := by
  induction k with
  | zero => exact rotl_zero h
  | succ k ih => rw [rotl_succ h (by omega), ih (by omega)]; rfl
theorem rotN_64 {v : Nat} (h : v < 18446744073709551616) : rotN 64 v = v := by
  rw [← rotl_eq h 64 (Nat.le_refl _)]
  unfold rotl
  simp
theorem rotN_64mul (a : Nat) {v : Nat} (h : v < 18446744073709551616) : rotN (64 * a) v = v := by
  induction a with
  | zero => rfl
  | succ a ih => rw [Nat.mul_succ, rotN_add, rotN_64 h, ih]
theorem rotN_mul (a n v : Nat) : Nat.repeat (rotN a) n v = rotN (n * a) v := by
  induction n with
  | zero => simp [Nat.repeat, rotN]
  | succ n ih => rw [Nat.repeat, ih, Nat.succ_mul, ← rotN_add, Nat.add_comm]
theorem rot1_not {v : Nat} (h : v < 18446744073709551616) : rot1 (18446744073709551615 - v) = 18446744073709551615 - rot1 v := by unfold rot1; omega
theorem rotN_not (k : Nat) {v : Nat} (h : v < 18446744073709551616) : rotN k (18446744073709551615 - v) = 18446744073709551615 - rotN k v := by
  induction k with
  | zero => rfl
  | succ k ih => simp only [rotN]; rw [ih, rot1_not (rotN_lt k h)]
theorem xor_not {v : Nat} (h : v < 18446744073709551616) : v ^^^ (18446744073709551615 - v) = 18446744073709551615 := by
  apply Nat.eq_of_testBit_eq
  intro i
  rw [Nat.testBit_xor, show 18446744073709551615 - v = 2 ^ 64 - (v + 1) from by omega, Nat.testBit_two_pow_sub_succ (by omega), show 18446744073709551615 = 2 ^ 64 - 1 from rfl, Nat.testBit_two_pow_sub_one]
  by_cases hi : i < 64
  · simp [hi]
  · have : v.testBit i = false := Nat.testBit_lt_two_pow (Nat.lt_of_lt_of_le (show v < 2 ^ 64 from h) (Nat.pow_le_pow_right (by decide) (by omega)))
    simp [hi, this]

end Go.Proofs.YtdlghabpnpbebaaDoor.Shift
