/- Plain mathematics of layer 2: bytes of which some bits are turned. No program in sight. -/
import Derived.Test.YtdlghabpnpbebaaDoorCrcMath
namespace Go.Proofs.YtdlghabpnpbebaaDoor.Crc

theorem mul_xor (i a b : Nat) : 2 ^ i * (a ^^^ b) = 2 ^ i * a ^^^ 2 ^ i * b := by
  have := @Nat.shiftLeft_xor_distrib i a b
  rw [Nat.shiftLeft_eq, Nat.shiftLeft_eq, Nat.shiftLeft_eq] at this
  rw [Nat.mul_comm, this, Nat.mul_comm a, Nat.mul_comm b]
/-- the lowest i bits of a mask, as far as there are M -/
def maskTo (m i M : Nat) : Nat := m % 2 ^ i % 2 ^ M
theorem mod_pow_succ2 (m i : Nat) : m % 2 ^ (i + 1) = 2 ^ i * (m / 2 ^ i % 2) + m % 2 ^ i := by
  rw [Nat.pow_succ, Nat.mod_mul]; omega
theorem maskTo_zero (m M : Nat) : maskTo m 0 M = 0 := by unfold maskTo; simp [Nat.mod_one]
theorem maskTo_lt {m i M : Nat} (h : i ≤ M) : maskTo m i M = m % 2 ^ i := by
  unfold maskTo
  exact Nat.mod_eq_of_lt (Nat.lt_of_lt_of_le (Nat.mod_lt _ (Nat.two_pow_pos i)) (Nat.pow_le_pow_right (by decide) h))
theorem maskTo_in {m i M : Nat} (h : i < M) : maskTo m (i + 1) M = maskTo m i M ^^^ 2 ^ i * (m / 2 ^ i % 2) := by
  rw [maskTo_lt h, maskTo_lt (Nat.le_of_lt h), mod_pow_succ2, add_xor i _ _ (Nat.mod_lt _ (Nat.two_pow_pos i)), Nat.xor_comm]
theorem maskTo_out {m i M : Nat} (h : M ≤ i) : maskTo m (i + 1) M = maskTo m i M := by
  unfold maskTo
  rw [Nat.mod_mod_of_dvd _ (Nat.pow_dvd_pow 2 (by omega)), Nat.mod_mod_of_dvd _ (Nat.pow_dvd_pow 2 h)]
theorem maskTo_bit {m i M : Nat} (h : i < M) (hb : m / 2 ^ i % 2 = 1) : maskTo m (i + 1) M = maskTo m i M ^^^ 2 ^ i ∧ maskTo m (i + 1) M ≠ 0 := by
  have e : maskTo m (i + 1) M = maskTo m i M ^^^ 2 ^ i := by rw [maskTo_in h, hb, Nat.mul_one]
  refine ⟨e, ?_⟩
  rw [maskTo_lt h, mod_pow_succ2, hb]
  have := Nat.two_pow_pos i
  omega
theorem maskTo_nobit {m i M : Nat} (h : ¬ (m / 2 ^ i % 2 = 1 ∧ i < M)) : maskTo m (i + 1) M = maskTo m i M := by
  by_cases hM : i < M
  · have : m / 2 ^ i % 2 = 0 := by
      rcases Nat.mod_two_eq_zero_or_one (m / 2 ^ i) with h0 | h1
      · exact h0
      · exact absurd ⟨h1, hM⟩ h
    rw [maskTo_in hM, this, Nat.mul_zero, Nat.xor_zero]
  · exact maskTo_out (by omega)
theorem maskTo_32 {m M : Nat} (h : m < 4294967296) : maskTo m 32 M = m % 2 ^ M := by
  unfold maskTo
  rw [Nat.mod_eq_of_lt (show m < 2 ^ 32 from h)]
theorem maskTo_top {m i M : Nat} (h : m < 2 ^ i) : maskTo m i M = m % 2 ^ M := by
  unfold maskTo
  rw [Nat.mod_eq_of_lt h]
/-- a number as so many bytes, the lowest first -/
def leB : Nat → Nat → List Nat
  | 0, _ => []
  | n + 1, e => e % 256 :: leB n (e / 256)
theorem leB_length (n e : Nat) : (leB n e).length = n := by
  induction n generalizing e with
  | zero => rfl
  | succ n ih => simp [leB, ih]
theorem leB_all (n e : Nat) : ∀ x ∈ leB n e, x < 256 := by
  induction n generalizing e with
  | zero => intro x hx; cases hx
  | succ n ih =>
    intro x hx
    rcases List.mem_cons.1 hx with rfl | h
    · omega
    · exact ih _ x h
theorem leB_leN (l : List Nat) (hl : ∀ x ∈ l, x < 256) : leB l.length (leN l) = l := by
  induction l with
  | nil => rfl
  | cons x l ih =>
    have hx := hl x List.mem_cons_self
    rw [List.length_cons, leB, leN_cons, show (x + 256 * leN l) % 256 = x from by omega, show (x + 256 * leN l) / 256 = leN l from by omega, ih (fun y hy => hl y (List.mem_cons_of_mem _ hy))]
theorem leN_leB (n e : Nat) (h : e < 2 ^ (8 * n)) : leN (leB n e) = e := by
  induction n generalizing e with
  | zero => simp [leB, leN]; simp at h; omega
  | succ n ih =>
    rw [leB, leN_cons, ih]
    · omega
    · rw [Nat.mul_succ, Nat.pow_add] at h
      exact Nat.div_lt_of_lt_mul (by rw [Nat.mul_comm]; exact h)
/-- bytes of which the bits of a mask are turned, from a bit on, as far as there are -/
def spoilt (l : List Nat) (k m : Nat) : List Nat := leB l.length (leN l ^^^ 2 ^ k * (m % 2 ^ (8 * l.length - k)))
theorem spoilt_length (l : List Nat) (k m : Nat) : (spoilt l k m).length = l.length := leB_length _ _
theorem spoilt_all (l : List Nat) (k m : Nat) : ∀ x ∈ spoilt l k m, x < 256 := leB_all _ _
theorem spoilt_of {l x : List Nat} {k m : Nat} (hx : ∀ y ∈ x, y < 256) (hlen : x.length = l.length) (h : leN x = leN l ^^^ 2 ^ k * (m % 2 ^ (8 * l.length - k))) : x = spoilt l k m := by
  unfold spoilt
  rw [← h, ← hlen, leB_leN x hx]
theorem leN_spoilt {l : List Nat} (hl : ∀ x ∈ l, x < 256) {k : Nat} (hk : k ≤ 8 * l.length) (m : Nat) : leN (spoilt l k m) = leN l ^^^ 2 ^ k * (m % 2 ^ (8 * l.length - k)) := by
  unfold spoilt
  apply leN_leB
  apply Nat.xor_lt_two_pow (leN_lt l hl)
  have h1 : m % 2 ^ (8 * l.length - k) < 2 ^ (8 * l.length - k) := Nat.mod_lt _ (Nat.two_pow_pos _)
  have h2 : 2 ^ k * (m % 2 ^ (8 * l.length - k)) < 2 ^ k * 2 ^ (8 * l.length - k) := Nat.mul_lt_mul_of_pos_left h1 (Nat.two_pow_pos k)
  rw [← Nat.pow_add, show k + (8 * l.length - k) = 8 * l.length from by omega] at h2
  exact h2
/-- NO BURST GETS THROUGH -/
theorem burst {l : List Nat} (hl : ∀ x ∈ l, x < 256) {k m : Nat} (hk : k ≤ 8 * l.length) (hm : m < 4294967296) (c : Nat) : more c (spoilt l k m) = more c l ↔ m % 2 ^ (8 * l.length - k) = 0 := by
  unfold more
  have h := run_burst (spoilt_length l k m) (spoilt_all l k m) hl (m := m % 2 ^ (8 * l.length - k)) (Nat.lt_of_le_of_lt (Nat.mod_le _ _) hm) hk (leN_spoilt hl hk m) (c ^^^ full)
  constructor
  · intro e; exact h.1 (xor_right_inj e)
  · intro e; rw [h.2 e]
/-- one bit turned in bytes: the step of the loops -/
theorem turn_step {l x : List Nat} {at_ m i : Nat} (hx : ∀ y ∈ x, y < 256) (hlen : x.length = l.length) (he : leN x = leN l ^^^ 2 ^ at_ * maskTo m i (8 * l.length - at_)) (hk : at_ + i < 8 * l.length) (hb : m / 2 ^ i % 2 = 1) :
    leN (x.set ((at_ + i) / 8) (x.getD ((at_ + i) / 8) 0 ^^^ 2 ^ ((at_ + i) % 8))) = leN l ^^^ 2 ^ at_ * maskTo m (i + 1) (8 * l.length - at_) := by
  rw [leN_set x hx _ (by omega), he, (maskTo_bit (by omega) hb).1, mul_xor, ← Nat.pow_add, Nat.xor_assoc]
theorem set_all {x : List Nat} (hx : ∀ y ∈ x, y < 256) {k : Nat} (hk : k / 8 < x.length) : ∀ y ∈ x.set (k / 8) (x.getD (k / 8) 0 ^^^ 2 ^ (k % 8)), y < 256 := by
  intro y hy
  rcases List.mem_or_eq_of_mem_set hy with h | rfl
  · exact hx y h
  · have h1 : x.getD (k / 8) 0 < 2 ^ 8 := hx _ (by simp [List.getD, hk])
    exact Nat.xor_lt_two_pow h1 (Nat.pow_lt_pow_right (by decide) (Nat.mod_lt _ (by decide)))
end Go.Proofs.YtdlghabpnpbebaaDoor.Crc
