/- Plain mathematics of layer 2 (crc): one bit of the sum's register as a linear step on numbers; bytes; bursts. No program in sight. -/
namespace Go.Proofs.YtdlghabpnpbebaaDoor.Crc

def poly : Nat := 3988292384
def full : Nat := 4294967295
/-- one bit -/
def S (c : Nat) : Nat := if c % 2 = 1 then c / 2 ^^^ poly else c / 2
def Sn : Nat → Nat → Nat
  | 0, c => c
  | n + 1, c => Sn n (S c)
def tab (i : Nat) : Nat := [0, 498536548, 997073096, 651767980, 1994146192, 1802195444, 1303535960, 1342533948, 3988292384, 4027552580, 3604390888, 3412177804, 2607071920, 2262029012, 2685067896, 3183342108].getD i 0
/-- one byte -/
def stepB (c x : Nat) : Nat := Sn 8 (c ^^^ x)
/-- the register behind some bytes -/
def run (c : Nat) (l : List Nat) : Nat := l.foldl stepB c
/-- the sum with some bytes more -/
def more (c : Nat) (l : List Nat) : Nat := run (c ^^^ full) l ^^^ full
/-- bytes as a number, the first the lowest -/
def leN : List Nat → Nat
  | [] => 0
  | x :: l => x + 256 * leN l

theorem leN_cons (x : Nat) (l : List Nat) : leN (x :: l) = x + 256 * leN l := rfl
theorem Sn_succ (n c : Nat) : Sn (n + 1) c = Sn n (S c) := rfl
theorem Sn_add (a b c : Nat) : Sn (a + b) c = Sn b (Sn a c) := by
  induction a generalizing c with
  | zero => rw [Nat.zero_add]; rfl
  | succ a ih => rw [Nat.succ_add]; exact ih (S c)
theorem S_xor (a b : Nat) : S (a ^^^ b) = S a ^^^ S b := by
  unfold S
  have h1 : (a ^^^ b) % 2 = (a + b) % 2 := by
    have := @Nat.xor_mod_two_eq_one a b
    omega
  have h2 : (a ^^^ b) / 2 = a / 2 ^^^ b / 2 := Nat.xor_div_two
  rw [h1, h2]
  rcases Nat.mod_two_eq_zero_or_one a with ha | ha <;> rcases Nat.mod_two_eq_zero_or_one b with hb | hb
  · rw [if_neg (by omega), if_neg (by omega), if_neg (by omega)]
  · rw [if_pos (by omega), if_neg (by omega), if_pos (by omega), Nat.xor_assoc]
  · rw [if_pos (by omega), if_pos (by omega), if_neg (by omega), Nat.xor_assoc, Nat.xor_assoc, Nat.xor_comm poly]
  · rw [if_neg (by omega), if_pos (by omega), if_pos (by omega), Nat.xor_assoc, ← Nat.xor_assoc poly, Nat.xor_comm poly (b / 2), Nat.xor_assoc (b / 2), Nat.xor_self, Nat.xor_zero]
theorem Sn_xor (n a b : Nat) : Sn n (a ^^^ b) = Sn n a ^^^ Sn n b := by
  induction n generalizing a b with
  | zero => rfl
  | succ n ih => rw [Sn_succ, S_xor, ih]; rfl
theorem S_zero : S 0 = 0 := rfl
theorem Sn_zero (n : Nat) : Sn n 0 = 0 := by
  induction n with
  | zero => rfl
  | succ n ih => rw [Sn_succ, S_zero, ih]
theorem xor_lt {a b : Nat} (ha : a < 4294967296) (hb : b < 4294967296) : a ^^^ b < 4294967296 := Nat.xor_lt_two_pow (n := 32) ha hb
theorem S_lt {c : Nat} (h : c < 4294967296) : S c < 4294967296 := by
  unfold S
  split
  · exact xor_lt (by omega) (by decide)
  · omega
theorem Sn_lt (n : Nat) {c : Nat} (h : c < 4294967296) : Sn n c < 4294967296 := by
  induction n generalizing c with
  | zero => exact h
  | succ n ih => exact ih (S_lt h)
theorem xor_eq_zero {a b : Nat} : a ^^^ b = 0 ↔ a = b := by
  constructor
  · intro h
    have : (a ^^^ b) ^^^ b = 0 ^^^ b := by rw [h]
    rwa [Nat.xor_assoc, Nat.xor_self, Nat.xor_zero, Nat.zero_xor] at this
  · rintro rfl; exact Nat.xor_self _
theorem S_eq_zero {c : Nat} (h : c < 4294967296) (h0 : S c = 0) : c = 0 := by
  unfold S at h0
  split at h0
  · have := xor_eq_zero.1 h0
    unfold poly at this
    omega
  · omega
theorem Sn_eq_zero (n : Nat) {c : Nat} (h : c < 4294967296) (h0 : Sn n c = 0) : c = 0 := by
  induction n generalizing c with
  | zero => exact h0
  | succ n ih => exact S_eq_zero h (ih (S_lt h) h0)
theorem Sn_inj (n : Nat) {a b : Nat} (ha : a < 4294967296) (hb : b < 4294967296) (h : Sn n a = Sn n b) : a = b := by
  apply xor_eq_zero.1
  apply Sn_eq_zero n (xor_lt ha hb)
  rw [Sn_xor, h, Nat.xor_self]
theorem S_double (m : Nat) : S (2 * m) = m := by unfold S; rw [if_neg (by omega)]; omega
theorem Sn_pow (n m : Nat) : Sn n (2 ^ n * m) = m := by
  induction n generalizing m with
  | zero => simp [Sn]
  | succ n ih => rw [Sn_succ, Nat.pow_succ, Nat.mul_comm (2 ^ n) 2, Nat.mul_assoc, S_double, ih]
/-- numbers that have no bit in common -/
theorem add_xor (i a b : Nat) (h : b < 2 ^ i) : 2 ^ i * a + b = 2 ^ i * a ^^^ b := by
  apply Nat.eq_of_testBit_eq
  intro j
  rw [Nat.testBit_two_pow_mul_add _ h, Nat.testBit_xor, Nat.testBit_two_pow_mul]
  by_cases hj : j < i
  · rw [if_pos hj]; have : ¬ i ≤ j := by omega
    simp [this]
  · rw [if_neg hj]
    have h1 : b.testBit j = false := Nat.testBit_lt_two_pow (Nat.lt_of_lt_of_le h (Nat.pow_le_pow_right (by decide) (by omega)))
    have : i ≤ j := by omega
    simp [h1, this]
theorem tab_S : ∀ i, i < 16 → Sn 4 i = tab i := by decide
theorem tab_lt : ∀ i, i < 16 → tab i < 4294967296 := by decide
theorem Sn4 (c : Nat) : Sn 4 c = tab (c % 16) ^^^ c / 16 := by
  have e : c = 2 ^ 4 * (c / 16) ^^^ c % 16 := by rw [← add_xor 4 _ _ (Nat.mod_lt _ (by decide))]; omega
  rw [show Sn 4 c = Sn 4 (2 ^ 4 * (c / 16) ^^^ c % 16) from by rw [← e], Sn_xor, Sn_pow, tab_S _ (Nat.mod_lt _ (by decide)), Nat.xor_comm]
theorem xor_div16 (a b : Nat) : (a ^^^ b) / 16 = a / 16 ^^^ b / 16 := by
  have h2 : ∀ a b : Nat, (a ^^^ b) / 2 = a / 2 ^^^ b / 2 := fun _ _ => Nat.xor_div_two
  have h : ∀ x : Nat, x / 16 = x / 2 / 2 / 2 / 2 := fun x => by omega
  rw [h, h a, h b, h2, h2, h2, h2]
/-- the table's way: two half bytes, each by the table -/
theorem stepB_tab (c x : Nat) (hx : x < 256) :
    stepB c x = tab (((tab ((c ^^^ x) % 16) ^^^ c / 16) ^^^ x / 16) % 16) ^^^ (tab ((c ^^^ x) % 16) ^^^ c / 16) / 16 := by
  have e : stepB c x = Sn 4 (Sn 4 (c ^^^ x)) := by unfold stepB; rw [← Sn_add]
  rw [e, Sn4 (c ^^^ x), xor_div16, ← Nat.xor_assoc, Sn4]
  congr 1
  rw [xor_div16]
  have : x / 16 / 16 = 0 := by omega
  rw [this, Nat.xor_zero]
theorem stepB_lt {c x : Nat} (hc : c < 4294967296) (hx : x < 256) : stepB c x < 4294967296 := Sn_lt _ (xor_lt hc (by omega))
theorem run_nil (c : Nat) : run c [] = c := rfl
theorem run_cons (c x : Nat) (l : List Nat) : run c (x :: l) = run (stepB c x) l := rfl
theorem run_append (c : Nat) (a b : List Nat) : run c (a ++ b) = run (run c a) b := List.foldl_append ..
theorem run_lt {l : List Nat} (hl : ∀ x ∈ l, x < 256) {c : Nat} (hc : c < 4294967296) : run c l < 4294967296 := by
  induction l generalizing c with
  | nil => exact hc
  | cons x l ih => exact ih (fun y hy => hl y (List.mem_cons_of_mem _ hy)) (stepB_lt hc (hl x List.mem_cons_self))
theorem full_lt : full < 4294967296 := by decide
theorem more_lt {l : List Nat} (hl : ∀ x ∈ l, x < 256) {c : Nat} (hc : c < 4294967296) : more c l < 4294967296 := xor_lt (run_lt hl (xor_lt hc full_lt)) full_lt
theorem xor_full (a : Nat) : (a ^^^ full) ^^^ full = a := by rw [Nat.xor_assoc, Nat.xor_self, Nat.xor_zero]
theorem more_append (c : Nat) (a b : List Nat) : more (more c a) b = more c (a ++ b) := by unfold more; rw [xor_full, run_append]
theorem more_nil (c : Nat) : more c [] = c := by unfold more; rw [run_nil, xor_full]
/-- the register behind bytes is the number that they are, stepped through -/
theorem run_leN (l : List Nat) (hl : ∀ x ∈ l, x < 256) (c : Nat) : run c l = Sn (8 * l.length) (c ^^^ leN l) := by
  induction l generalizing c with
  | nil => simp [run, leN, Sn]
  | cons x l ih =>
    rw [run_cons, ih (fun y hy => hl y (List.mem_cons_of_mem _ hy)), List.length_cons, Nat.mul_succ, Nat.add_comm, Sn_add]
    congr 1
    unfold stepB
    rw [leN_cons]
    have : x + 256 * leN l = 2 ^ 8 * leN l ^^^ x := by rw [← add_xor 8 _ _ (hl x List.mem_cons_self)]; omega
    rw [this, Nat.xor_comm (2 ^ 8 * leN l), ← Nat.xor_assoc, Sn_xor 8 (c ^^^ x), Sn_pow]
theorem Sn_inj_any (n : Nat) {a b : Nat} {hi : Nat} (h : Sn n (a ^^^ hi) = Sn n (b ^^^ hi)) (ha : a < 4294967296) (hb : b < 4294967296) : a = b := by
  rw [Sn_xor, Sn_xor] at h
  apply Sn_inj n ha hb
  have : (Sn n a ^^^ Sn n hi) ^^^ Sn n hi = (Sn n b ^^^ Sn n hi) ^^^ Sn n hi := by rw [h]
  rwa [Nat.xor_assoc, Nat.xor_self, Nat.xor_zero, Nat.xor_assoc, Nat.xor_self, Nat.xor_zero] at this
theorem run_inj {l : List Nat} (hl : ∀ x ∈ l, x < 256) {a b : Nat} (ha : a < 4294967296) (hb : b < 4294967296) (h : run a l = run b l) : a = b := by
  rw [run_leN l hl, run_leN l hl] at h
  exact Sn_inj_any _ h ha hb
theorem xor_right_inj {a b c : Nat} (h : a ^^^ c = b ^^^ c) : a = b := by
  have : (a ^^^ c) ^^^ c = (b ^^^ c) ^^^ c := by rw [h]
  rwa [Nat.xor_assoc, Nat.xor_self, Nat.xor_zero, Nat.xor_assoc, Nat.xor_self, Nat.xor_zero] at this
/-- two sums that are unlike stay unlike behind the same bytes -/
theorem more_inj {l : List Nat} (hl : ∀ x ∈ l, x < 256) {a b : Nat} (ha : a < 4294967296) (hb : b < 4294967296) (h : more a l = more b l) : a = b := by
  have := run_inj hl (xor_lt ha full_lt) (xor_lt hb full_lt) (xor_right_inj h)
  exact xor_right_inj this
theorem leN_lt (l : List Nat) (hl : ∀ x ∈ l, x < 256) : leN l < 2 ^ (8 * l.length) := by
  induction l with
  | nil => simp [leN]
  | cons x l ih =>
    have h1 := ih (fun y hy => hl y (List.mem_cons_of_mem _ hy))
    have h2 := hl x List.mem_cons_self
    rw [List.length_cons, Nat.mul_succ, Nat.pow_add]
    unfold leN
    omega
theorem leN_inj : ∀ (a b : List Nat), a.length = b.length → (∀ x ∈ a, x < 256) → (∀ x ∈ b, x < 256) → leN a = leN b → a = b
  | [], [], _, _, _, _ => rfl
  | x :: a, y :: b, hl, ha, hb, h => by
    have h1 := ha x List.mem_cons_self
    have h2 := hb y List.mem_cons_self
    unfold leN at h
    have hx : x = y := by omega
    have ht : leN a = leN b := by omega
    rw [hx, leN_inj a b (by simpa using hl) (fun z hz => ha z (List.mem_cons_of_mem _ hz)) (fun z hz => hb z (List.mem_cons_of_mem _ hz)) ht]
theorem leN_append (a b : List Nat) : leN (a ++ b) = leN a + 2 ^ (8 * a.length) * leN b := by
  induction a with
  | nil => simp [leN]
  | cons x a ih =>
    rw [List.cons_append, leN_cons, leN_cons, ih, List.length_cons, Nat.mul_succ, Nat.pow_add, Nat.mul_add, Nat.mul_comm (2 ^ (8 * a.length)) (2 ^ 8), Nat.mul_assoc]
    omega
/-- a bit of a byte of bytes is a bit of their number -/
theorem leN_set (l : List Nat) (hl : ∀ x ∈ l, x < 256) (k : Nat) (hk : k < 8 * l.length) :
    leN (l.set (k / 8) (l.getD (k / 8) 0 ^^^ 2 ^ (k % 8))) = leN l ^^^ 2 ^ k := by
  induction l generalizing k with
  | nil => simp at hk
  | cons x l ih =>
    have hx := hl x List.mem_cons_self
    have cut : leN (x :: l) = 2 ^ 8 * leN l ^^^ x := by
      show x + 256 * leN l = _
      rw [← add_xor 8 _ _ hx]; omega
    by_cases h8 : k < 8
    · have e : k / 8 = 0 := by omega
      have e2 : k % 8 = k := by omega
      rw [e, e2, cut]
      have hb : x ^^^ 2 ^ k < 2 ^ 8 := Nat.xor_lt_two_pow hx (Nat.pow_lt_pow_right (by decide) h8)
      show leN ((x ^^^ 2 ^ k) :: l) = _
      rw [show leN ((x ^^^ 2 ^ k) :: l) = 2 ^ 8 * leN l ^^^ (x ^^^ 2 ^ k) from by
        show (x ^^^ 2 ^ k) + 256 * leN l = _
        rw [← add_xor 8 _ _ hb]; omega]
      rw [Nat.xor_assoc]
    · obtain ⟨j, rfl⟩ : ∃ j, k = j + 8 := ⟨k - 8, by omega⟩
      have e : (j + 8) / 8 = j / 8 + 1 := by omega
      have e2 : (j + 8) % 8 = j % 8 := by omega
      rw [e, e2]
      have := ih (fun y hy => hl y (List.mem_cons_of_mem _ hy)) j (by rw [List.length_cons] at hk; omega)
      show leN (x :: l.set (j / 8) (l.getD (j / 8) 0 ^^^ 2 ^ (j % 8))) = _
      rw [show leN (x :: l.set (j / 8) (l.getD (j / 8) 0 ^^^ 2 ^ (j % 8))) = 2 ^ 8 * leN (l.set (j / 8) (l.getD (j / 8) 0 ^^^ 2 ^ (j % 8))) ^^^ x from by
        show x + 256 * leN _ = _
        rw [← add_xor 8 _ _ hx]; omega]
      rw [this, cut, Nat.pow_add, Nat.mul_comm (2 ^ j) (2 ^ 8)]
      have hmul : ∀ a b : Nat, 2 ^ 8 * (a ^^^ b) = 2 ^ 8 * a ^^^ 2 ^ 8 * b := by
        intro a b
        have := @Nat.shiftLeft_xor_distrib 8 a b
        rw [Nat.shiftLeft_eq, Nat.shiftLeft_eq, Nat.shiftLeft_eq] at this
        rw [Nat.mul_comm, this, Nat.mul_comm a, Nat.mul_comm b]
      rw [hmul, Nat.xor_assoc, Nat.xor_comm (2 ^ 8 * 2 ^ j), ← Nat.xor_assoc]
/-- A BURST: bits turned that lie within 32 in a row turn the register -/
theorem run_burst {a b : List Nat} (hlen : a.length = b.length) (ha : ∀ x ∈ a, x < 256) (hb : ∀ x ∈ b, x < 256) {m at_ : Nat} (hm : m < 4294967296) (hat : at_ ≤ 8 * b.length)
    (h : leN a = leN b ^^^ 2 ^ at_ * m) (c : Nat) : run c a = run c b ↔ m = 0 := by
  rw [run_leN a ha, run_leN b hb, hlen, h, ← Nat.xor_assoc, Sn_xor _ (c ^^^ leN b)]
  have e : Sn (8 * b.length) (2 ^ at_ * m) = Sn (8 * b.length - at_) m := by
    rw [show 8 * b.length = at_ + (8 * b.length - at_) from by omega, Sn_add, Sn_pow]
    congr 1
    omega
  rw [e]
  constructor
  · intro h2
    apply Sn_eq_zero (8 * b.length - at_) hm
    have : (Sn (8 * b.length) (c ^^^ leN b) ^^^ Sn (8 * b.length - at_) m) ^^^ Sn (8 * b.length) (c ^^^ leN b) = Sn (8 * b.length) (c ^^^ leN b) ^^^ Sn (8 * b.length) (c ^^^ leN b) := by rw [h2]
    rwa [Nat.xor_self, Nat.xor_comm, ← Nat.xor_assoc, Nat.xor_self, Nat.zero_xor] at this
  · rintro rfl
    rw [Sn_zero, Nat.xor_zero]
end Go.Proofs.YtdlghabpnpbebaaDoor.Crc
