import Derived.WalkKit
import Derived.Laws.BitsAllLaws
import Derived.PlainAid
/- Plain arithmetic for layer 1 (shift): turning a 64-bit number round, bytes of a number, folding. No program in sight. -/
namespace Go.Proofs.YtfkfpanhbanljaaGreat.Shift

def rot1 (v : Nat) : Nat := v * 2 % 18446744073709551616 + v / 9223372036854775808
def rotN : Nat → Nat → Nat
  | 0, v => v
  | k + 1, v => rot1 (rotN k v)
def rotl (v k : Nat) : Nat := v * 2 ^ k % 18446744073709551616 + v / 2 ^ (64 - k)

theorem rot1_lt {v : Nat} (h : v < 18446744073709551616) : rot1 v < 18446744073709551616 := by unfold rot1; omega
theorem rotN_lt (k : Nat) {v : Nat} (h : v < 18446744073709551616) : rotN k v < 18446744073709551616 := by
  induction k with
  | zero => exact h
  | succ k ih => exact rot1_lt ih
theorem rotN_add (a b v : Nat) : rotN (a + b) v = rotN a (rotN b v) := by
  induction a with
  | zero => simp [rotN]
  | succ a ih => rw [Nat.succ_add]; simp [rotN, ih]
theorem rotN_comm (a b v : Nat) : rotN a (rotN b v) = rotN b (rotN a v) := by rw [← rotN_add, ← rotN_add, Nat.add_comm]

theorem rotl_zero {v : Nat} (h : v < 18446744073709551616) : rotl v 0 = v := by unfold rotl; simp; omega
theorem rotl_succ {v k : Nat} (h : v < 18446744073709551616) (hk : k < 64) : rotl v (k + 1) = rot1 (rotl v k) := by
  unfold rotl rot1
  obtain ⟨j, hj⟩ : ∃ j, 64 = k + 1 + j := ⟨63 - k, by omega⟩
  have e1 : 64 - k = j + 1 := by omega
  have e2 : 64 - (k + 1) = j := by omega
  rw [e1, e2]
  have hp : 18446744073709551616 = 2 ^ k * 2 * 2 ^ j := by
    rw [← Nat.pow_succ, ← Nat.pow_add, ← hj]
  have hp2 : 9223372036854775808 = 2 ^ k * 2 ^ j := by
    rw [← Nat.pow_add, show k + j = 63 from by omega]
  have hA : 0 < 2 ^ k := Nat.two_pow_pos k
  have hB : 0 < 2 ^ j := Nat.two_pow_pos j
  rw [hp] at h
  rw [hp, hp2, Nat.pow_succ, Nat.pow_succ]
  generalize 2 ^ k = A at *
  generalize 2 ^ j = B at *
  clear hp hp2 e1 e2 hj hk
  -- v = q * (2B) + c * B + d
  obtain ⟨q, r, hr, rfl⟩ : ∃ q r, r < B * 2 ∧ v = q * (B * 2) + r := ⟨v / (B * 2), v % (B * 2), Nat.mod_lt _ (by omega), by rw [Nat.mul_comm]; exact (Nat.div_add_mod v (B * 2)).symm⟩
  obtain ⟨c, d, hd, rfl⟩ : ∃ c d, d < B ∧ r = c * B + d := ⟨r / B, r % B, Nat.mod_lt _ hB, by rw [Nat.mul_comm]; exact (Nat.div_add_mod r B).symm⟩
  have hc : c < 2 := by
    rcases Nat.lt_or_ge c 2 with h2 | h2
    · exact h2
    · have := Nat.mul_le_mul_right B h2; omega
  have hq : q < A := by
    rcases Nat.lt_or_ge q A with h2 | h2
    · exact h2
    · have := Nat.mul_le_mul_right (B * 2) h2
      have e : A * 2 * B = A * (B * 2) := by rw [Nat.mul_assoc, Nat.mul_comm 2 B]
      omega
  have m1 : (q * (B * 2) + (c * B + d)) * A % (A * 2 * B) = (c * B + d) * A := by
    have e : (q * (B * 2) + (c * B + d)) * A = (c * B + d) * A + (A * 2 * B) * q := by
      rw [Nat.add_mul]
      have : q * (B * 2) * A = A * 2 * B * q := by
        ac_rfl
      omega
    rw [e, Nat.add_mul_mod_self_left]
    apply Nat.mod_eq_of_lt
    have : (c * B + d) * A < (B * 2) * A := Nat.mul_lt_mul_of_pos_right hr hA
    have e2 : A * 2 * B = (B * 2) * A := by ac_rfl
    omega
  have d1 : (q * (B * 2) + (c * B + d)) / (B * 2) = q := by
    rw [Nat.mul_comm q, Nat.mul_add_div (by omega), Nat.div_eq_of_lt hr]; rfl
  have d2 : (q * (B * 2) + (c * B + d)) / B = q * 2 + c := by
    have e : q * (B * 2) + (c * B + d) = B * (q * 2 + c) + d := by
      rw [Nat.mul_add, Nat.mul_comm c B]
      have : q * (B * 2) = B * (q * 2) := by ac_rfl
      omega
    rw [e, Nat.mul_add_div hB, Nat.div_eq_of_lt hd]; rfl
  rw [m1, d1, d2]
  have m2 : (q * (B * 2) + (c * B + d)) * (A * 2) % (A * 2 * B) = d * (A * 2) := by
    have e : (q * (B * 2) + (c * B + d)) * (A * 2) = d * (A * 2) + (A * 2 * B) * (q * 2 + c) := by
      rw [Nat.mul_add (A * 2 * B), Nat.add_mul, Nat.add_mul]
      have e1 : q * (B * 2) * (A * 2) = A * 2 * B * (q * 2) := by ac_rfl
      have e2 : c * B * (A * 2) = A * 2 * B * c := by ac_rfl
      omega
    rw [e, Nat.add_mul_mod_self_left]
    apply Nat.mod_eq_of_lt
    have : d * (A * 2) < B * (A * 2) := Nat.mul_lt_mul_of_pos_right hd (by omega)
    rw [Nat.mul_comm (A * 2) B]; exact this
  rw [m2]

  have s1 : (c * B + d) * A = A * B * c + d * A := by rw [Nat.add_mul]; ac_rfl
  have lt1 : d * A + q < A * B := by
    have : (d + 1) * A ≤ B * A := Nat.mul_le_mul_right A hd
    rw [Nat.add_mul, Nat.mul_comm B A] at this
    omega
  have d3 : ((c * B + d) * A + q) / (A * B) = c := by
    rw [s1, Nat.add_assoc, Nat.mul_add_div (Nat.mul_pos hA hB), Nat.div_eq_of_lt lt1]; rfl
  have m3 : ((c * B + d) * A + q) * 2 % (A * 2 * B) = d * (A * 2) + q * 2 := by
    have e : ((c * B + d) * A + q) * 2 = (d * (A * 2) + q * 2) + (A * 2 * B) * c := by
      rw [s1]
      have e1 : A * 2 * B * c = A * B * c * 2 := by ac_rfl
      have e2 : d * (A * 2) = d * A * 2 := by rw [Nat.mul_assoc]
      omega
    rw [e, Nat.add_mul_mod_self_left]
    apply Nat.mod_eq_of_lt
    have e1 : A * 2 * B = A * B * 2 := by ac_rfl
    have e2 : d * (A * 2) = d * A * 2 := by rw [Nat.mul_assoc]
    omega
  rw [d3, m3]
  omega

theorem rotl_eq {v : Nat} (h : v < 18446744073709551616) (k : Nat) (hk : k ≤ 64) : rotl v k = rotN k v := by
  induction k with
  | zero => exact rotl_zero h
  | succ k ih => rw [rotl_succ h (by omega), ih (by omega)]; rfl
theorem rotN_64 {v : Nat} (h : v < 18446744073709551616) : rotN 64 v = v := by
  rw [← rotl_eq h 64 (Nat.le_refl _)]
  unfold rotl
  simp
theorem rotN_64mul (a : Nat) {v : Nat} (h : v < 18446744073709551616) : rotN (64 * a) v = v := by
  induction a with
  | zero => rfl
  | succ a ih => rw [Nat.mul_succ, rotN_add, rotN_64 h, ih]
theorem rotN_mul (a n v : Nat) : Nat.repeat (rotN a) n v = rotN (n * a) v := by
  induction n with
  | zero => simp [Nat.repeat, rotN]
  | succ n ih => rw [Nat.repeat, ih, Nat.succ_mul, ← rotN_add, Nat.add_comm]
theorem rot1_not {v : Nat} (h : v < 18446744073709551616) : rot1 (18446744073709551615 - v) = 18446744073709551615 - rot1 v := by unfold rot1; omega
theorem rotN_not (k : Nat) {v : Nat} (h : v < 18446744073709551616) : rotN k (18446744073709551615 - v) = 18446744073709551615 - rotN k v := by
  induction k with
  | zero => rfl
  | succ k ih => simp only [rotN]; rw [ih, rot1_not (rotN_lt k h)]
theorem xor_not {v : Nat} (h : v < 18446744073709551616) : v ^^^ (18446744073709551615 - v) = 18446744073709551615 := by
  apply Nat.eq_of_testBit_eq
  intro i
  rw [Nat.testBit_xor, show 18446744073709551615 - v = 2 ^ 64 - (v + 1) from by omega, Nat.testBit_two_pow_sub_succ (by omega), show 18446744073709551615 = 2 ^ 64 - 1 from rfl, Nat.testBit_two_pow_sub_one]
  by_cases hi : i < 64
  · simp [hi]
  · have : v.testBit i = false := Nat.testBit_lt_two_pow (Nat.lt_of_lt_of_le (show v < 2 ^ 64 from h) (Nat.pow_le_pow_right (by decide) (by omega)))
    simp [hi, this]

end Go.Proofs.YtfkfpanhbanljaaGreat.Shift

/- Plain arithmetic: the bytes of a number, how many there are, a number with another byte. No program in sight. -/
namespace Go.Proofs.YtfkfpanhbanljaaGreat.Shift

def lenF : Nat → Nat → Nat
  | 0, _ => 0
  | f + 1, v => if v = 0 then 0 else lenF f (v / 256) + 1
/-- how many bytes a number below 2^64 needs -/
def lenB (v : Nat) : Nat := lenF 8 v
def byteN (v i : Nat) : Nat := v / 256 ^ i % 256
def withN (v i b : Nat) : Nat := v / 256 ^ (i + 1) * 256 ^ (i + 1) + b * 256 ^ i + v % 256 ^ i

theorem lenF_zero (f : Nat) : lenF f 0 = 0 := by cases f <;> simp [lenF]
theorem lenF_more (f : Nat) : ∀ v, v < 256 ^ f → lenF (f + 1) v = lenF f v := by
  induction f with
  | zero => intro v h; simp at h; subst h; rfl
  | succ f ih =>
    intro v h
    show (if v = 0 then 0 else lenF (f + 1) (v / 256) + 1) = (if v = 0 then 0 else lenF f (v / 256) + 1)
    by_cases h0 : v = 0
    · rw [if_pos h0, if_pos h0]
    · rw [if_neg h0, if_neg h0, ih]
      rw [Nat.pow_succ, Nat.mul_comm] at h
      exact Nat.div_lt_of_lt_mul h
theorem lenB_zero : lenB 0 = 0 := rfl
theorem lenB_step {v : Nat} (h : v < 18446744073709551616) (h0 : 0 < v) : lenB v = lenB (v / 256) + 1 := by
  unfold lenB
  rw [lenF, if_neg (by omega), lenF_more 7]
  have e : 256 ^ 7 = 72057594037927936 := rfl
  rw [e]; omega
theorem lenF_le (f : Nat) : ∀ v, lenF f v ≤ f := by
  induction f with
  | zero => intro v; simp [lenF]
  | succ f ih =>
    intro v
    rw [lenF]
    by_cases h0 : v = 0
    · simp [h0]
    · rw [if_neg h0]; have := ih (v / 256); omega
theorem lenB_le (v : Nat) : lenB v ≤ 8 := lenF_le 8 v
theorem lenB_pos {v : Nat} (h : v < 18446744073709551616) (h0 : 0 < v) : 0 < lenB v := by rw [lenB_step h h0]; omega
theorem lt_pow_lenF (f : Nat) : ∀ v, v < 256 ^ f → v < 256 ^ lenF f v := by
  induction f with
  | zero => intro v h; exact h
  | succ f ih =>
    intro v h
    rw [lenF]
    by_cases h0 : v = 0
    · simp [h0]
    · rw [if_neg h0, Nat.pow_succ]
      have h1 : v / 256 < 256 ^ f := by rw [Nat.pow_succ, Nat.mul_comm] at h; exact Nat.div_lt_of_lt_mul h
      have := ih _ h1
      omega
theorem lt_pow_lenB {v : Nat} (h : v < 18446744073709551616) : v < 256 ^ lenB v := lt_pow_lenF 8 v (by simpa using h)
theorem pow_lenF_le (f : Nat) : ∀ v, 0 < v → 256 ^ (lenF f v - 1) ≤ v := by
  induction f with
  | zero => intro v h; simp [lenF]; omega
  | succ f ih =>
    intro v h
    rw [lenF, if_neg (by omega), Nat.add_sub_cancel]
    by_cases h1 : v / 256 = 0
    · rw [h1, lenF_zero]; simp; omega
    · have := ih (v / 256) (by omega)
      by_cases h2 : lenF f (v / 256) = 0
      · rw [h2]; simp; omega
      · obtain ⟨k, hk⟩ : ∃ k, lenF f (v / 256) = k + 1 := ⟨lenF f (v / 256) - 1, by omega⟩
        rw [hk] at this ⊢
        rw [Nat.pow_succ]
        simp only [Nat.add_sub_cancel] at this
        omega
theorem pow_lenB_le {v : Nat} (h0 : 0 < v) : 256 ^ (lenB v - 1) ≤ v := pow_lenF_le 8 v h0
theorem byteN_lt (v i : Nat) : byteN v i < 256 := Nat.mod_lt _ (by omega)
/-- the highest byte of a number is none that is 0 -/
theorem byteN_top {v : Nat} (h : v < 18446744073709551616) (h0 : 0 < v) : 0 < byteN v (lenB v - 1) := by
  unfold byteN
  have h1 := lt_pow_lenB h
  have h2 := pow_lenB_le h0
  have h3 := lenB_pos h h0
  obtain ⟨k, hk⟩ : ∃ k, lenB v = k + 1 := ⟨lenB v - 1, by omega⟩
  rw [hk] at h1 h2 ⊢
  simp only [Nat.add_sub_cancel] at h2 ⊢
  rw [Nat.pow_succ] at h1
  have hp : 0 < 256 ^ k := Nat.pow_pos (by omega)
  have : v / 256 ^ k < 256 := Nat.div_lt_of_lt_mul h1
  rw [Nat.mod_eq_of_lt this]
  exact Nat.div_pos h2 hp
theorem byteN_zero (v : Nat) : byteN v 0 = v % 256 := by simp [byteN]
theorem byteN_succ (v i : Nat) : byteN v (i + 1) = byteN (v / 256) i := by
  unfold byteN; rw [Nat.pow_succ, Nat.mul_comm (256 ^ i) 256, Nat.div_div_eq_div_mul]
/-- the lowest k + 1 bytes: the byte at k, and the lowest k -/
theorem mod_pow_succ (v k : Nat) : v % 256 ^ (k + 1) = byteN v k * 256 ^ k + v % 256 ^ k := by
  unfold byteN
  rw [Nat.pow_succ, Nat.mod_mul]
  rw [Nat.mul_comm (v / 256 ^ k % 256)]; omega
theorem withN_mod (v i : Nat) : withN (v % 256 ^ i) i (byteN v i) = v % 256 ^ (i + 1) := by
  unfold withN
  rw [mod_pow_succ]
  have hp : 0 < 256 ^ i := Nat.pow_pos (by omega)
  have h1 : v % 256 ^ i < 256 ^ i := Nat.mod_lt _ hp
  have h2 : v % 256 ^ i < 256 ^ (i + 1) := by rw [Nat.pow_succ]; omega
  rw [Nat.div_eq_of_lt h2, Nat.mod_mod]; omega
theorem withN_lt {v i b : Nat} (h : v < 18446744073709551616) (hi : i ≤ 7) (hb : b < 256) : withN v i b < 18446744073709551616 := by
  unfold withN
  have hp : 0 < 256 ^ i := Nat.pow_pos (by omega)
  have h1 : v % 256 ^ i < 256 ^ i := Nat.mod_lt _ hp
  obtain ⟨j, hj⟩ : ∃ j, 8 = i + 1 + j := ⟨7 - i, by omega⟩
  have e : 18446744073709551616 = 256 ^ (i + 1) * 256 ^ j := by rw [← Nat.pow_add, ← hj]
  rw [e] at h ⊢
  have h2 : v / 256 ^ (i + 1) < 256 ^ j := Nat.div_lt_of_lt_mul h
  have h3 : (v / 256 ^ (i + 1) + 1) * 256 ^ (i + 1) ≤ 256 ^ j * 256 ^ (i + 1) := Nat.mul_le_mul_right _ h2
  rw [Nat.add_mul, Nat.mul_comm (256 ^ j)] at h3
  have h4 : (b + 1) * 256 ^ i ≤ 256 * 256 ^ i := Nat.mul_le_mul_right _ hb
  rw [Nat.add_mul, Nat.mul_comm 256, ← Nat.pow_succ] at h4
  omega

theorem byteN_mod {v i k : Nat} (h : k < i) : byteN (v % 256 ^ i) k = byteN v k := by
  unfold byteN
  rw [← Nat.mod_mul_right_div_self, ← Nat.mod_mul_right_div_self v, ← Nat.pow_succ, Nat.mod_mod_of_dvd _ (Nat.pow_dvd_pow 256 h)]
theorem div_pow_byte (x k : Nat) : x / 256 ^ k = x / 256 ^ (k + 1) * 256 + byteN x k := by
  unfold byteN
  rw [Nat.pow_succ, ← Nat.div_div_eq_div_mul]
  omega
theorem byteN_withN {v i b : Nat} (hb : b < 256) (k : Nat) : byteN (withN v i b) k = if k = i then b else byteN v k := by
  have hp : 0 < 256 ^ i := Nat.pow_pos (by decide)
  have h1 : v % 256 ^ i < 256 ^ i := Nat.mod_lt _ hp
  have e : withN v i b = 256 ^ i * (v / 256 ^ (i + 1) * 256 + b) + v % 256 ^ i := by
    unfold withN
    rw [Nat.mul_add, Nat.pow_succ, Nat.mul_comm (256 ^ i) b]
    congr 2
    rw [Nat.mul_comm (256 ^ i) (v / _ * 256), Nat.mul_assoc, Nat.mul_comm 256]
  have hd : withN v i b / 256 ^ i = v / 256 ^ (i + 1) * 256 + b := by rw [e, Nat.mul_add_div hp, Nat.div_eq_of_lt h1, Nat.add_zero]
  have hm : withN v i b % 256 ^ i = v % 256 ^ i := by rw [e, Nat.mul_add_mod, Nat.mod_mod]
  rcases Nat.lt_trichotomy k i with h | h | h
  · rw [if_neg (by omega), ← byteN_mod h, hm, byteN_mod h]
  · subst h
    rw [if_pos rfl]
    show withN v k b / 256 ^ k % 256 = b
    rw [hd]; omega
  · rw [if_neg (by omega)]
    obtain ⟨j, rfl⟩ : ∃ j, k = i + 1 + j := ⟨k - i - 1, by omega⟩
    show withN v i b / 256 ^ (i + 1 + j) % 256 = v / 256 ^ (i + 1 + j) % 256
    have h2 : withN v i b / 256 ^ (i + 1) = v / 256 ^ (i + 1) := by
      have e1 : withN v i b / 256 ^ (i + 1) = withN v i b / 256 ^ i / 256 := by rw [Nat.pow_succ, Nat.div_div_eq_div_mul]
      rw [e1, hd]; omega
    rw [Nat.pow_add, ← Nat.div_div_eq_div_mul, h2, Nat.div_div_eq_div_mul]
end Go.Proofs.YtfkfpanhbanljaaGreat.Shift

/- Raw terms of the walks of layer 1, as plain numbers: and, or, xor, shifts at 64 bits. No program in sight. -/
namespace Go.Proofs.YtfkfpanhbanljaaGreat.Shift

theorem and_low48 (n : Nat) (hn : n < 18446744073709551616) : bits .and .u64 (n : Int) 281474976710655 = ((n % 281474976710656 : Nat) : Int) := by
  have h := u64_and_nat n 281474976710655 hn (by decide)
  rw [Nat.and_two_pow_sub_one_eq_mod n 48] at h
  exact h
theorem nat_or_add (i a b : Nat) (h : b < 2 ^ i) : 2 ^ i * a ||| b = 2 ^ i * a + b := by
  rw [nat_join i _ _ (Nat.mul_mod_right _ _) h]
theorem pack_raw (d n : Nat) (hd : d < 65536) (hn : n < 18446744073709551616) :
    bits .or .u64 ((d : Int) * 281474976710656) (bits .and .u64 (n : Int) 281474976710655) = ((d * 281474976710656 + n % 281474976710656 : Nat) : Int) := by
  rw [and_low48 n hn, show ((d : Int) * 281474976710656) = ((d * 281474976710656 : Nat) : Int) from by omega, u64_or_nat _ _ (by omega) (by omega)]
  have := nat_or_add 48 d (n % 281474976710656) (Nat.mod_lt _ (by decide))
  rw [Nat.mul_comm] at this
  exact congrArg _ this
theorem and_63 (n : Int) : bits .and .u64 (IntKind.u64.wrap n) 63 = (((n % 64).toNat : Nat) : Int) := by
  rw [IntKind.wrap_u64]
  obtain ⟨m, hm⟩ : ∃ m : Nat, n % 18446744073709551616 = (m : Int) := ⟨(n % 18446744073709551616).toNat, by omega⟩
  rw [hm]
  have h := u64_and_nat m 63 (by omega) (by decide)
  rw [Nat.and_two_pow_sub_one_eq_mod m 6] at h
  refine h.trans ?_
  omega
theorem shl_raw (v k : Nat) : IntKind.u64.wrap ((v : Int) * 2 ^ k) = ((v * 2 ^ k % 18446744073709551616 : Nat) : Int) := by
  rw [IntKind.wrap_u64]
  have : (v : Int) * 2 ^ k = ((v * 2 ^ k : Nat) : Int) := by simp
  rw [this]; omega
theorem shr_raw (v k : Nat) : (v : Int) / 2 ^ k = ((v / 2 ^ k : Nat) : Int) := by simp
theorem or_rot (v k : Nat) (hv : v < 18446744073709551616) (hk : k < 64) : v * 2 ^ k % 18446744073709551616 ||| v / 2 ^ (64 - k) = rotl v k := by
  unfold rotl
  obtain ⟨j, hj⟩ : ∃ j, 64 = k + j := ⟨64 - k, by omega⟩
  have e1 : 64 - k = j := by omega
  rw [e1]
  have hp : 18446744073709551616 = 2 ^ j * 2 ^ k := by rw [← Nat.pow_add, Nat.add_comm, ← hj]
  rw [hp, Nat.mul_mod_mul_right, Nat.mul_comm (v % 2 ^ j)]
  apply nat_or_add
  rw [hp] at hv
  exact Nat.div_lt_of_lt_mul hv
theorem rotl_lt {v k : Nat} (hv : v < 18446744073709551616) (hk : k ≤ 64) : rotl v k < 18446744073709551616 := by rw [rotl_eq hv k hk]; exact rotN_lt k hv
theorem turn_raw (v k : Nat) (hv : v < 18446744073709551616) (hk : k < 64) :
    bits .or .u64 (IntKind.u64.wrap ((v : Int) * 2 ^ k)) ((v : Int) / 2 ^ (64 - k)) = (rotN k v : Int) := by
  have h1 : v / 2 ^ (64 - k) < 18446744073709551616 := Nat.lt_of_le_of_lt (Nat.div_le_self _ _) hv
  rw [shl_raw, shr_raw, u64_or_nat _ _ (Nat.mod_lt _ (by decide)) h1, or_rot v k hv hk, rotl_eq hv k (by omega)]
/-- two parts put together; the upper part, the lower part -/
def packN (d n : Nat) : Nat := d * 281474976710656 + n % 281474976710656
def devN (v : Nat) : Nat := v / 281474976710656
def lowN (v : Nat) : Nat := v % 281474976710656
theorem packN_lt {d n : Nat} (hd : d < 65536) : packN d n < 18446744073709551616 := by unfold packN; omega
theorem devN_lt {v : Nat} (hv : v < 18446744073709551616) : devN v < 65536 := by unfold devN; omega
theorem lowN_lt (v : Nat) : lowN v < 18446744073709551616 := by unfold lowN; omega
theorem devN_pack (d n : Nat) : devN (packN d n) = d := by unfold devN packN; omega
theorem lowN_pack (d n : Nat) : lowN (packN d n) = lowN n := by unfold lowN packN; omega
theorem packN_parts (v : Nat) : packN (devN v) (lowN v) = v := by unfold devN lowN packN; omega
/-- the mask of a byte -/
theorem mask_bit (k j : Nat) : (2 ^ k * 255).testBit j = (decide (k ≤ j) && decide (j < k + 8)) := by
  rw [Nat.testBit_two_pow_mul, show 255 = 2 ^ 8 - 1 from rfl, Nat.testBit_two_pow_sub_one]
  by_cases h : k ≤ j
  · have : (j - k < 8) = (j < k + 8) := by apply propext; omega
    simp [h, this]
  · simp [h]
theorem with_or (v k b : Nat) (hv : v < 18446744073709551616) (hk : k + 8 ≤ 64) (hb : b < 256) :
    (v &&& (18446744073709551615 - 2 ^ k * 255)) ||| 2 ^ k * b = v / 2 ^ (k + 8) * 2 ^ (k + 8) + b * 2 ^ k + v % 2 ^ k := by
  have hm : 2 ^ k * 255 < 2 ^ 64 := by
    obtain ⟨j, hj⟩ : ∃ j, 64 = k + 8 + j := ⟨56 - k, by omega⟩
    have e : (2 : Nat) ^ 64 = 2 ^ k * 256 * 2 ^ j := by
      have h256 : (256 : Nat) = 2 ^ 8 := rfl
      rw [h256, ← Nat.pow_add, ← Nat.pow_add, ← hj]
    have h1 : 0 < 2 ^ j := Nat.two_pow_pos j
    have h2 : 0 < 2 ^ k := Nat.two_pow_pos k
    have h3 : 2 ^ k * 256 * 1 ≤ 2 ^ k * 256 * 2 ^ j := Nat.mul_le_mul_left _ h1
    omega
  have e : v / 2 ^ (k + 8) * 2 ^ (k + 8) + b * 2 ^ k + v % 2 ^ k = 2 ^ k * (2 ^ 8 * (v / 2 ^ (k + 8)) + b) + v % 2 ^ k := by
    rw [Nat.mul_add, ← Nat.mul_assoc, ← Nat.pow_add, Nat.mul_comm (2 ^ (k + 8)), Nat.mul_comm (2 ^ k) b]
  rw [e]
  apply Nat.eq_of_testBit_eq
  intro j
  rw [Nat.testBit_two_pow_mul_add _ (Nat.mod_lt _ (Nat.two_pow_pos k)), Nat.testBit_two_pow_mul_add _ (show b < 2 ^ 8 from hb), Nat.testBit_or, Nat.testBit_and,
    show 18446744073709551615 - 2 ^ k * 255 = 2 ^ 64 - (2 ^ k * 255 + 1) from by omega, Nat.testBit_two_pow_sub_succ hm, mask_bit, Nat.testBit_two_pow_mul, Nat.testBit_mod_two_pow, Nat.testBit_div_two_pow]
  by_cases h1 : j < k
  · have h2 : ¬ k ≤ j := by omega
    have h3 : j < 64 := by omega
    simp [h1, h2, h3]
  · have h2 : k ≤ j := by omega
    rw [if_neg h1]
    by_cases h3 : j < k + 8
    · have h4 : j - k < 8 := by omega
      simp [h2, h3, h4]
    · have h4 : ¬ j - k < 8 := by omega
      have e2 : j - k - 8 + (k + 8) = j := by omega
      have hb0 : b.testBit (j - k) = false := Nat.testBit_lt_two_pow (Nat.lt_of_lt_of_le (show b < 2 ^ 8 from hb) (Nat.pow_le_pow_right (by decide) (by omega)))
      rw [if_neg h4, e2, hb0]
      by_cases h5 : j < 64
      · simp [h2, h3, h5]
      · have : v.testBit j = false := Nat.testBit_lt_two_pow (Nat.lt_of_lt_of_le (show v < 2 ^ 64 from hv) (Nat.pow_le_pow_right (by decide) (by omega)))
        simp [this]
theorem pow256 (i : Nat) : 256 ^ i = 2 ^ (8 * i) := by rw [Nat.pow_mul]
theorem withN_or (v i b : Nat) (hv : v < 18446744073709551616) (hi : i ≤ 7) (hb : b < 256) :
    (v &&& (18446744073709551615 - 2 ^ (8 * i) * 255)) ||| 2 ^ (8 * i) * b = withN v i b := by
  rw [with_or v (8 * i) b hv (by omega) hb]
  unfold withN
  rw [pow256, pow256, Nat.mul_add]
theorem bits_xor_ones_u64 (x : Nat) (hx : x < 18446744073709551616) : bits .xor .u64 (x : Int) 18446744073709551615 = ((18446744073709551615 - x : Nat) : Int) := by
  have h := u64_xor_nat x 18446744073709551615 hx (by decide)
  refine h.trans (congrArg _ ?_)
  have h1 := xor_not (v := x) hx
  have h2 : x ^^^ (x ^^^ (18446744073709551615 - x)) = x ^^^ 18446744073709551615 := by rw [h1]
  rw [← Nat.xor_assoc, Nat.xor_self, Nat.zero_xor] at h2
  exact h2.symm
theorem bits_xor_zero_u64 (x : Nat) (hx : x < 18446744073709551616) : bits .xor .u64 (x : Int) 0 = (x : Int) := by
  have h := u64_xor_nat x 0 hx (by decide)
  rw [Nat.xor_zero] at h
  exact h
theorem bits_xor_zero_i64 (x : Nat) (hx : x < 9223372036854775808) : bits .xor .i64 (x : Int) 0 = (x : Int) := by
  show IntKind.i64.wrap ((BitVec.ofInt 64 (x : Int) ^^^ BitVec.ofInt 64 0).toNat : Int) = _
  rw [BitVec.toNat_xor, ofInt_u64 x (by omega)]
  rw [show (BitVec.ofInt 64 0).toNat = 0 from rfl, Nat.xor_zero, IntKind.wrap_i64]
  omega
theorem bits_xor_ones_i64 (x : Nat) (hx : x < 9223372036854775808) : bits .xor .i64 (x : Int) (-1) = -(x : Int) - 1 := by
  show IntKind.i64.wrap ((BitVec.ofInt 64 (x : Int) ^^^ BitVec.ofInt 64 (-1)).toNat : Int) = _
  rw [BitVec.toNat_xor, ofInt_u64 x (by omega)]
  have h := u64_xor_nat x 18446744073709551615 (by omega) (by decide)
  have h2 := bits_xor_ones_u64 x (by omega)
  have h3 : (x ^^^ 18446744073709551615) = 18446744073709551615 - x := by
    have : ((x ^^^ 18446744073709551615 : Nat) : Int) = ((18446744073709551615 - x : Nat) : Int) := h.symm.trans h2
    omega
  rw [show (BitVec.ofInt 64 (-1)).toNat = 18446744073709551615 from rfl, h3, IntKind.wrap_i64]
  omega
/-- a number below 0 or not, as one that is not -/
def foldI (n : Int) : Nat := if 0 ≤ n then 2 * n.toNat else 2 * (-n - 1).toNat + 1
def unfoldN (v : Nat) : Int := if v % 2 = 0 then (v / 2 : Nat) else -((v / 2 : Nat) : Int) - 1
theorem foldI_lt {n : Int} (h1 : -9223372036854775808 ≤ n) (h2 : n ≤ 9223372036854775807) : foldI n < 18446744073709551616 := by unfold foldI; split <;> omega
theorem unfoldN_bd {v : Nat} (h : v < 18446744073709551616) : -9223372036854775808 ≤ unfoldN v ∧ unfoldN v ≤ 9223372036854775807 := by unfold unfoldN; split <;> omega
theorem unfold_fold (n : Int) : unfoldN (foldI n) = n := by
  unfold foldI
  split
  · unfold unfoldN; rw [if_pos (by omega)]; omega
  · unfold unfoldN; rw [if_neg (by omega)]; omega
theorem fold_unfold (v : Nat) : foldI (unfoldN v) = v := by
  unfold unfoldN
  split
  · unfold foldI; rw [if_pos (by omega)]; omega
  · unfold foldI; rw [if_neg (by omega)]; omega
theorem fold_raw (n : Int) (h1 : -9223372036854775808 ≤ n) (h2 : n ≤ 9223372036854775807) :
    bits .xor .u64 (IntKind.u64.wrap (IntKind.u64.wrap n * 2)) (IntKind.u64.wrap (n / 9223372036854775808)) = (foldI n : Int) := by
  unfold foldI
  by_cases h0 : 0 ≤ n
  · rw [if_pos h0, show n / 9223372036854775808 = 0 from by omega, IntKind.wrap_u64, IntKind.wrap_u64, show n % 18446744073709551616 * 2 % 18446744073709551616 = ((2 * n.toNat : Nat) : Int) from by omega]
    exact bits_xor_zero_u64 _ (by omega)
  · rw [if_neg h0, show n / 9223372036854775808 = -1 from by omega, IntKind.wrap_u64, IntKind.wrap_u64, show n % 18446744073709551616 * 2 % 18446744073709551616 = ((2 * n + 18446744073709551616).toNat : Int) from by omega,
      show IntKind.u64.wrap (-1) = 18446744073709551615 from rfl, bits_xor_ones_u64 _ (by omega)]
    omega
theorem unfold_raw (v : Nat) (hv : v < 18446744073709551616) :
    bits .xor .i64 ((v : Int) / 2) (RowKit.wrap64 (-RowKit.wrap64 (bits .and .u64 (v : Int) 1))) = unfoldN v := by
  have hb := u64_and_nat v 1 hv (by decide)
  rw [nat_mask1] at hb
  have e : bits .and .u64 (v : Int) 1 = ((v % 2 : Nat) : Int) := hb
  rw [e]
  unfold unfoldN
  by_cases h : v % 2 = 0
  · rw [if_pos h, h, show RowKit.wrap64 (-RowKit.wrap64 ((0 : Nat) : Int)) = 0 from by unfold RowKit.wrap64; decide, show (v : Int) / 2 = ((v / 2 : Nat) : Int) from by omega]
    exact bits_xor_zero_i64 (v / 2) (by omega)
  · rw [if_neg h, show v % 2 = 1 from by omega, show RowKit.wrap64 (-RowKit.wrap64 ((1 : Nat) : Int)) = -1 from by unfold RowKit.wrap64; decide, show (v : Int) / 2 = ((v / 2 : Nat) : Int) from by omega]
    exact bits_xor_ones_i64 (v / 2) (by omega)
theorem byte_raw (v k : Nat) : (v : Int) / 2 ^ (8 * k) % 256 = (byteN v k : Int) := by
  unfold byteN
  rw [pow256]
  simp
theorem with_raw (v k b : Nat) (hv : v < 18446744073709551616) (hk : k ≤ 7) (hb : b < 256) :
    bits .or .u64 (bits .andNot .u64 (v : Int) (IntKind.u64.wrap (255 * 2 ^ (8 * k)))) (IntKind.u64.wrap ((b : Int) * 2 ^ (8 * k))) = (withN v k b : Int) := by
  have hp : 2 ^ (8 * k) ≤ 2 ^ 56 := Nat.pow_le_pow_right (by decide) (by omega)
  have hp' : 2 ^ (8 * k) ≤ 72057594037927936 := hp
  have h1 : IntKind.u64.wrap (255 * 2 ^ (8 * k)) = ((2 ^ (8 * k) * 255 : Nat) : Int) := by
    have e : (255 : Int) * 2 ^ (8 * k) = ((2 ^ (8 * k) * 255 : Nat) : Int) := by rw [Int.natCast_mul, Int.mul_comm]; simp
    rw [e, IntKind.wrap_u64]; omega
  have hbm : 2 ^ (8 * k) * b < 18446744073709551616 := by
    have : 2 ^ (8 * k) * b ≤ 72057594037927936 * 255 := Nat.mul_le_mul hp' (by omega)
    omega
  have h2 : IntKind.u64.wrap ((b : Int) * 2 ^ (8 * k)) = ((2 ^ (8 * k) * b : Nat) : Int) := by
    have e : (b : Int) * 2 ^ (8 * k) = ((2 ^ (8 * k) * b : Nat) : Int) := by rw [Int.natCast_mul, Int.mul_comm]; simp
    rw [e, IntKind.wrap_u64]; omega
  rw [h1, h2, u64_andNot_nat _ _ hv (by omega), u64_or_nat _ _ (Nat.lt_of_le_of_lt Nat.and_le_left hv) hbm, withN_or v k b hv hk hb]
end Go.Proofs.YtfkfpanhbanljaaGreat.Shift
