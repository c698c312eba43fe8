/- Plain arithmetic: the bytes of a number, how many there are, a number with another byte. No program in sight. -/
namespace Go.Proofs.YtdlghabpnpbebaaDoor.Shift

def lenF : Nat → Nat → Nat
  | 0, _ => 0
  | f + 1, v => if v = 0 then 0 else lenF f (v / 256) + 1
/-- how many bytes a number below 2^64 needs -/
def lenB (v : Nat) : Nat := lenF 8 v
def byteN (v i : Nat) : Nat := v / 256 ^ i % 256
def withN (v i b : Nat) : Nat := v / 256 ^ (i + 1) * 256 ^ (i + 1) + b * 256 ^ i + v % 256 ^ i

theorem lenF_zero (f : Nat) : lenF f 0 = 0 := by cases f <;> simp [lenF]
theorem lenF_more (f : Nat) : ∀ v, v < 256 ^ f → lenF (f + 1) v = lenF f v := by
  induction f with
  | zero => intro v h; simp at h; subst h; rfl
  | succ f ih =>
    intro v h
    show (if v = 0 then 0 else lenF (f + 1) (v / 256) + 1) = (if v = 0 then 0 else lenF f (v / 256) + 1)
    by_cases h0 : v = 0
    · rw [if_pos h0, if_pos h0]
    · rw [if_neg h0, if_neg h0, ih]
      rw [Nat.pow_succ, Nat.mul_comm] at h
      exact Nat.div_lt_of_lt_mul h
theorem lenB_zero : lenB 0 = 0 := rfl
theorem lenB_step {v : Nat} (h : v < 18446744073709551616) (h0 : 0 < v) : lenB v = lenB (v / 256) + 1 := by
  unfold lenB
  rw [lenF, if_neg (by omega), lenF_more 7]
  have e : 256 ^ 7 = 72057594037927936 := rfl
  rw [e]; omega
theorem lenF_le (f : Nat) : ∀ v, lenF f v ≤ f := by
  induction f with
  | zero => intro v; simp [lenF]
  | succ f ih =>
    intro v
    rw [lenF]
    by_cases h0 : v = 0
    · simp [h0]
    · rw [if_neg h0]; have := ih (v / 256); omega
theorem lenB_le (v : Nat) : lenB v ≤ 8 := lenF_le 8 v
theorem lenB_pos {v : Nat} (h : v < 18446744073709551616) (h0 : 0 < v) : 0 < lenB v := by rw [lenB_step h h0]; omega
theorem lt_pow_lenF (f : Nat) : ∀ v, v < 256 ^ f → v < 256 ^ lenF f v := by
  induction f with
  | zero => intro v h; exact h
  | succ f ih =>
    intro v h
    rw [lenF]
    by_cases h0 : v = 0
    · simp [h0]
    · rw [if_neg h0, Nat.pow_succ]
      have h1 : v / 256 < 256 ^ f := by rw [Nat.pow_succ, Nat.mul_comm] at h; exact Nat.div_lt_of_lt_mul h
      have := ih _ h1
      omega
theorem lt_pow_lenB {v : Nat} (h : v < 18446744073709551616) : v < 256 ^ lenB v := lt_pow_lenF 8 v (by simpa using h)
theorem pow_lenF_le (f : Nat) : ∀ v, 0 < v → 256 ^ (lenF f v - 1) ≤ v := by
  induction f with
  | zero => intro v h; simp [lenF]; omega
  | succ f ih =>
    intro v h
    rw [lenF, if_neg (by omega), Nat.add_sub_cancel]
    by_cases h1 : v / 256 = 0
    · rw [h1, lenF_zero]; simp; omega
    · have := ih (v / 256) (by omega)
      by_cases h2 : lenF f (v / 256) = 0
      · rw [h2]; simp; omega
      · obtain ⟨k, hk⟩ : ∃ k, lenF f (v / 256) = k + 1 := ⟨lenF f (v / 256) - 1, by omega⟩
        rw [hk] at this ⊢
        rw [Nat.pow_succ]
        simp only [Nat.add_sub_cancel] at this
        omega
theorem pow_lenB_le {v : Nat} (h0 : 0 < v) : 256 ^ (lenB v - 1) ≤ v := pow_lenF_le 8 v h0
theorem byteN_lt (v i : Nat) : byteN v i < 256 := Nat.mod_lt _ (by omega)
/-- the highest byte of a number is none that is 0 -/
theorem byteN_top {v : Nat} (h : v < 18446744073709551616) (h0 : 0 < v) : 0 < byteN v (lenB v - 1) := by
  unfold byteN
  have h1 := lt_pow_lenB h
  have h2 := pow_lenB_le h0
  have h3 := lenB_pos h h0
  obtain ⟨k, hk⟩ : ∃ k, lenB v = k + 1 := ⟨lenB v - 1, by omega⟩
  rw [hk] at h1 h2 ⊢
  simp only [Nat.add_sub_cancel] at h2 ⊢
  rw [Nat.pow_succ] at h1
  have hp : 0 < 256 ^ k := Nat.pow_pos (by omega)
  have : v / 256 ^ k < 256 := Nat.div_lt_of_lt_mul h1
  rw [Nat.mod_eq_of_lt this]
  exact Nat.div_pos h2 hp
theorem byteN_zero (v : Nat) : byteN v 0 = v % 256 := by simp [byteN]
theorem byteN_succ (v i : Nat) : byteN v (i + 1) = byteN (v / 256) i := by
  unfold byteN; rw [Nat.pow_succ, Nat.mul_comm (256 ^ i) 256, Nat.div_div_eq_div_mul]
/-- the lowest k + 1 bytes: the byte at k, and the lowest k -/
theorem mod_pow_succ (v k : Nat) : v % 256 ^ (k + 1) = byteN v k * 256 ^ k + v % 256 ^ k := by
  unfold byteN
  rw [Nat.pow_succ, Nat.mod_mul]
  rw [Nat.mul_comm (v / 256 ^ k % 256)]; omega
theorem withN_mod (v i : Nat) : withN (v % 256 ^ i) i (byteN v i) = v % 256 ^ (i + 1) := by
  unfold withN
  rw [mod_pow_succ]
  have hp : 0 < 256 ^ i := Nat.pow_pos (by omega)
  have h1 : v % 256 ^ i < 256 ^ i := Nat.mod_lt _ hp
  have h2 : v % 256 ^ i < 256 ^ (i + 1) := by rw [Nat.pow_succ]; omega
  rw [Nat.div_eq_of_lt h2, Nat.mod_mod]; omega
theorem withN_lt {v i b : Nat} (h : v < 18446744073709551616) (hi : i ≤ 7) (hb : b < 256) : withN v i b < 18446744073709551616 := by
  unfold withN
  have hp : 0 < 256 ^ i := Nat.pow_pos (by omega)
  have h1 : v % 256 ^ i < 256 ^ i := Nat.mod_lt _ hp
  obtain ⟨j, hj⟩ : ∃ j, 8 = i + 1 + j := ⟨7 - i, by omega⟩
  have e : 18446744073709551616 = 256 ^ (i + 1) * 256 ^ j := by rw [← Nat.pow_add, ← hj]
  rw [e] at h ⊢
  have h2 : v / 256 ^ (i + 1) < 256 ^ j := Nat.div_lt_of_lt_mul h
  have h3 : (v / 256 ^ (i + 1) + 1) * 256 ^ (i + 1) ≤ 256 ^ j * 256 ^ (i + 1) := Nat.mul_le_mul_right _ h2
  rw [Nat.add_mul, Nat.mul_comm (256 ^ j)] at h3
  have h4 : (b + 1) * 256 ^ i ≤ 256 * 256 ^ i := Nat.mul_le_mul_right _ hb
  rw [Nat.add_mul, Nat.mul_comm 256, ← Nat.pow_succ] at h4
  omega

theorem byteN_mod {v i k : Nat} (h : k < i) : byteN (v % 256 ^ i) k = byteN v k := by
  unfold byteN
  rw [← Nat.mod_mul_right_div_self, ← Nat.mod_mul_right_div_self v, ← Nat.pow_succ, Nat.mod_mod_of_dvd _ (Nat.pow_dvd_pow 256 h)]
theorem div_pow_byte (x k : Nat) : x / 256 ^ k = x / 256 ^ (k + 1) * 256 + byteN x k := by
  unfold byteN
  rw [Nat.pow_succ, ← Nat.div_div_eq_div_mul]
  omega
theorem byteN_withN {v i b : Nat} (hb : b < 256) (k : Nat) : byteN (withN v i b) k = if k = i then b else byteN v k := by
  have hp : 0 < 256 ^ i := Nat.pow_pos (by decide)
  have h1 : v % 256 ^ i < 256 ^ i := Nat.mod_lt _ hp
  have e : withN v i b = 256 ^ i * (v / 256 ^ (i + 1) * 256 + b) + v % 256 ^ i := by
    unfold withN
    rw [Nat.mul_add, Nat.pow_succ, Nat.mul_comm (256 ^ i) b]
    congr 2
    rw [Nat.mul_comm (256 ^ i) (v / _ * 256), Nat.mul_assoc, Nat.mul_comm 256]
  have hd : withN v i b / 256 ^ i = v / 256 ^ (i + 1) * 256 + b := by rw [e, Nat.mul_add_div hp, Nat.div_eq_of_lt h1, Nat.add_zero]
  have hm : withN v i b % 256 ^ i = v % 256 ^ i := by rw [e, Nat.mul_add_mod, Nat.mod_mod]
  rcases Nat.lt_trichotomy k i with h | h | h
  · rw [if_neg (by omega), ← byteN_mod h, hm, byteN_mod h]
  · subst h
    rw [if_pos rfl]
    show withN v k b / 256 ^ k % 256 = b
    rw [hd]; omega
  · rw [if_neg (by omega)]
    obtain ⟨j, rfl⟩ : ∃ j, k = i + 1 + j := ⟨k - i - 1, by omega⟩
    show withN v i b / 256 ^ (i + 1 + j) % 256 = v / 256 ^ (i + 1 + j) % 256
    have h2 : withN v i b / 256 ^ (i + 1) = v / 256 ^ (i + 1) := by
      have e1 : withN v i b / 256 ^ (i + 1) = withN v i b / 256 ^ i / 256 := by rw [Nat.pow_succ, Nat.div_div_eq_div_mul]
      rw [e1, hd]; omega
    rw [Nat.pow_add, ← Nat.div_div_eq_div_mul, h2, Nat.div_div_eq_div_mul]
end Go.Proofs.YtdlghabpnpbebaaDoor.Shift
