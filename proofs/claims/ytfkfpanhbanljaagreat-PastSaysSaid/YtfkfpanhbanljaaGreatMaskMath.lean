/- Plain mathematics of layer 40 (mask): words of 64 bits as a set of numbers. No program in sight. -/
namespace Go.Proofs.YtfkfpanhbanljaaGreat.Mask

def wordN (m : List Nat) (i : Nat) : Nat := m.getD i 0
def hasN (m : List Nat) (n : Nat) : Bool := (wordN m (n / 64)).testBit (n % 64)
def hasI (m : List Nat) (n : Int) : Bool := decide (0 ≤ n) && hasN m n.toNat
/-- words below 2^64 -/
def AllW (m : List Nat) : Prop := ∀ x ∈ m, x < 18446744073709551616
/-- without words 0 at the end -/
def trim (m : List Nat) : List Nat := (m.reverse.dropWhile (fun x => decide (x = 0))).reverse
def zipW (f : Nat → Nat → Nat) (a b : List Nat) : List Nat := (List.range (max a.length b.length)).map fun i => f (wordN a i) (wordN b i)
def andNot (x y : Nat) : Nat := x - (x &&& y)
def joinN (a b : List Nat) : List Nat := trim (zipW (· ||| ·) a b)
def meetN (a b : List Nat) : List Nat := trim (zipW (· &&& ·) a b)
def minusN (a b : List Nat) : List Nat := trim (zipW andNot a b)
def oneN (n : Nat) : List Nat := List.replicate (n / 64) 0 ++ [2 ^ (n % 64)]
def putI (m : List Nat) (n : Int) : List Nat := if n < 0 ∨ 1024 ≤ n then trim m else joinN m (oneN n.toNat)
def ofI (ns : List Int) : List Nat := ns.foldl putI []
def allN (m : List Nat) : List Nat := (List.range (64 * m.length)).filter (hasN m)
def sizeN (m : List Nat) : Nat := (allN m).length
def sameN (a b : List Nat) : Bool := decide (minusN a b = []) && decide (minusN b a = [])

theorem wordN_lt {m : List Nat} (h : AllW m) (i : Nat) : wordN m i < 18446744073709551616 := by
  unfold wordN
  by_cases hi : i < m.length
  · have : m.getD i 0 = m[i] := by simp [List.getD, hi]
    rw [this]; exact h _ (List.getElem_mem hi)
  · have : m.getD i 0 = 0 := by simp [List.getD, List.getElem?_eq_none (Nat.not_lt.1 hi)]
    rw [this]; decide
theorem wordN_out {m : List Nat} {i : Nat} (h : m.length ≤ i) : wordN m i = 0 := by
  unfold wordN; simp [List.getD, List.getElem?_eq_none h]
theorem trim_nil : trim [] = [] := rfl
theorem trim_zero (m : List Nat) : trim (m ++ [0]) = trim m := by
  unfold trim; simp
theorem trim_last (m : List Nat) {x : Nat} (h : x ≠ 0) : trim (m ++ [x]) = m ++ [x] := by
  unfold trim; simp [h]
/-- a list is trimmed, or ends in 0 -/
theorem trim_take (m : List Nat) (k : Nat) (hk : k < m.length) (h0 : wordN m k = 0) : trim (m.take (k + 1)) = trim (m.take k) := by
  rw [List.take_succ_eq_append_getElem hk]
  have : m[k] = 0 := by
    have h1 : m.getD k 0 = m[k] := by simp [List.getD, hk]
    unfold wordN at h0; rw [h1] at h0; exact h0
  rw [this, trim_zero]
theorem trim_take_stop (m : List Nat) (k : Nat) (hk : k < m.length) (h0 : wordN m k ≠ 0) : trim (m.take (k + 1)) = m.take (k + 1) := by
  rw [List.take_succ_eq_append_getElem hk]
  refine trim_last _ ?_
  have h1 : m.getD k 0 = m[k] := by simp [List.getD, hk]
  unfold wordN at h0; rw [h1] at h0; exact h0
theorem trim_spec (m : List Nat) : ∃ z, m = trim m ++ List.replicate z 0 ∧ (trim m = [] ∨ ∃ a x, trim m = a ++ [x] ∧ x ≠ 0) := by
  have aux : ∀ r : List Nat, ∃ z, r.reverse = (r.dropWhile (fun x => decide (x = 0))).reverse ++ List.replicate z 0 ∧
      (r.dropWhile (fun x => decide (x = 0)) = [] ∨ ∃ x a, r.dropWhile (fun x => decide (x = 0)) = x :: a ∧ x ≠ 0) := by
    intro r
    induction r with
    | nil => exact ⟨0, by simp, .inl rfl⟩
    | cons y r ih =>
      by_cases hy : y = 0
      · subst hy
        obtain ⟨z, h1, h2⟩ := ih
        refine ⟨z + 1, ?_, by simpa using h2⟩
        rw [List.reverse_cons, h1, List.dropWhile_cons, if_pos (by simp), List.append_assoc]
        congr 1
        rw [List.replicate_succ']
      · refine ⟨0, ?_, .inr ⟨y, r, ?_, hy⟩⟩ <;> rw [List.dropWhile_cons, if_neg (by simpa using hy)]
        simp
  obtain ⟨z, h1, h2⟩ := aux m.reverse
  rw [List.reverse_reverse] at h1
  refine ⟨z, h1, ?_⟩
  unfold trim
  rcases h2 with h2 | ⟨x, a, h2, h3⟩
  · exact .inl (by rw [h2]; rfl)
  · exact .inr ⟨a.reverse, x, by rw [h2, List.reverse_cons], h3⟩
theorem trim_length (m : List Nat) : (trim m).length ≤ m.length := by
  obtain ⟨z, h, _⟩ := trim_spec m
  have := congrArg List.length h
  rw [List.length_append] at this
  omega
theorem wordN_append_zeros (m : List Nat) (z i : Nat) : wordN (m ++ List.replicate z 0) i = wordN m i := by
  unfold wordN
  simp only [List.getD]
  by_cases h : i < m.length
  · rw [List.getElem?_append_left h]
  · rw [List.getElem?_append_right (Nat.not_lt.1 h), List.getElem?_replicate, List.getElem?_eq_none (Nat.not_lt.1 h)]
    split <;> rfl
theorem wordN_trim (m : List Nat) (i : Nat) : wordN (trim m) i = wordN m i := by
  obtain ⟨z, h, _⟩ := trim_spec m
  have := wordN_append_zeros (trim m) z i
  rw [← h] at this
  exact this.symm
theorem hasN_trim (m : List Nat) (n : Nat) : hasN (trim m) n = hasN m n := by unfold hasN; rw [wordN_trim]
theorem trim_all {m : List Nat} (h : AllW m) : AllW (trim m) := by
  intro x hx
  obtain ⟨z, he, _⟩ := trim_spec m
  exact h x (by rw [he]; exact List.mem_append_left _ hx)
/-- two trimmed lists with the same words are the same -/
theorem trim_ext {a b : List Nat} (h : ∀ i, wordN a i = wordN b i) : trim a = trim b := by
  have key : ∀ p q : List Nat, (p = [] ∨ ∃ a x, p = a ++ [x] ∧ x ≠ 0) → (∀ i, wordN p i = wordN q i) → p.length ≤ q.length := by
    intro p q hp hpq
    rcases hp with rfl | ⟨c, x, rfl, hx⟩
    · simp
    · rcases Nat.lt_or_ge q.length (c ++ [x]).length with h1 | h1
      · exfalso
        have h2 := hpq c.length
        have h3 : wordN (c ++ [x]) c.length = x := by unfold wordN; simp [List.getD]
        have h4 : wordN q c.length = 0 := wordN_out (by rw [List.length_append] at h1; simp at h1; omega)
        omega
      · exact h1
  have hw : ∀ i, wordN (trim a) i = wordN (trim b) i := fun i => by rw [wordN_trim, wordN_trim]; exact h i
  obtain ⟨_, _, ha⟩ := trim_spec a
  obtain ⟨_, _, hb⟩ := trim_spec b
  have l1 := key _ _ ha hw
  have l2 := key _ _ hb (fun i => (hw i).symm)
  refine List.ext_getElem (by omega) fun i h1 h2 => ?_
  have := hw i
  unfold wordN at this
  simpa [List.getD, h1, h2] using this
theorem trim_trim (m : List Nat) : trim (trim m) = trim m := trim_ext (wordN_trim m)
theorem zipW_length (f : Nat → Nat → Nat) (a b : List Nat) : (zipW f a b).length = max a.length b.length := by unfold zipW; simp
theorem wordN_zip {f : Nat → Nat → Nat} (h0 : f 0 0 = 0) (a b : List Nat) (i : Nat) : wordN (zipW f a b) i = f (wordN a i) (wordN b i) := by
  by_cases h : i < max a.length b.length
  · unfold zipW
    show ((List.range (max a.length b.length)).map _).getD i 0 = _
    simp only [List.getD, List.getElem?_map, List.getElem?_range h, Option.map_some, Option.getD_some]
  · rw [wordN_out (by rw [zipW_length]; omega), wordN_out (by omega), wordN_out (by omega), h0]
theorem andNot_bit (x y i : Nat) : (andNot x y).testBit i = (x.testBit i && !y.testBit i) := by
  unfold andNot
  have e : x - (x &&& y) = x ^^^ (x &&& y) := by
    have h : x = (x ^^^ (x &&& y)) + (x &&& y) := by
      have hd : (x ^^^ (x &&& y)) &&& (x &&& y) = 0 := by
        apply Nat.eq_of_testBit_eq
        intro j
        simp only [Nat.testBit_and, Nat.testBit_xor, Nat.zero_testBit]
        cases x.testBit j <;> cases y.testBit j <;> rfl
      have ho : (x ^^^ (x &&& y)) ||| (x &&& y) = x := by
        apply Nat.eq_of_testBit_eq
        intro j
        simp only [Nat.testBit_and, Nat.testBit_xor, Nat.testBit_or]
        cases x.testBit j <;> cases y.testBit j <;> rfl
      exact (ho.symm.trans (add_or _ _ hd).symm)
    omega
  rw [e]
  simp only [Nat.testBit_and, Nat.testBit_xor]
  cases x.testBit i <;> cases y.testBit i <;> rfl
where
  add_or (a b : Nat) (h : a &&& b = 0) : a + b = a ||| b := by
    let w := max a b + 1
    have ha : a < 2 ^ w := Nat.lt_of_lt_of_le (Nat.lt_two_pow_self) (Nat.pow_le_pow_right (by decide) (by omega))
    have hb : b < 2 ^ w := Nat.lt_of_lt_of_le (Nat.lt_two_pow_self) (Nat.pow_le_pow_right (by decide) (by omega))
    have hx : BitVec.ofNat (w + 1) a &&& BitVec.ofNat (w + 1) b = 0#(w + 1) := by
      rw [← BitVec.ofNat_and, h]
    have := congrArg BitVec.toNat (BitVec.add_eq_or_of_and_eq_zero _ _ hx)
    rw [← BitVec.ofNat_add, ← BitVec.ofNat_or, BitVec.toNat_ofNat, BitVec.toNat_ofNat] at this
    have hab : a + b < 2 ^ (w + 1) := by rw [Nat.pow_succ]; omega
    have ho : a ||| b < 2 ^ (w + 1) := Nat.lt_of_lt_of_le (Nat.or_lt_two_pow ha hb) (Nat.pow_le_pow_right (by decide) (by omega))
    rwa [Nat.mod_eq_of_lt hab, Nat.mod_eq_of_lt ho] at this
theorem hasN_join (a b : List Nat) (n : Nat) : hasN (joinN a b) n = (hasN a n || hasN b n) := by
  unfold joinN; rw [hasN_trim]; unfold hasN; rw [wordN_zip rfl, Nat.testBit_or]
theorem hasN_meet (a b : List Nat) (n : Nat) : hasN (meetN a b) n = (hasN a n && hasN b n) := by
  unfold meetN; rw [hasN_trim]; unfold hasN; rw [wordN_zip rfl, Nat.testBit_and]
theorem hasN_minus (a b : List Nat) (n : Nat) : hasN (minusN a b) n = (hasN a n && !hasN b n) := by
  unfold minusN; rw [hasN_trim]; unfold hasN; rw [wordN_zip rfl, andNot_bit]
theorem zip_all {f : Nat → Nat → Nat} {a b : List Nat} (hf : ∀ x y, x < 18446744073709551616 → y < 18446744073709551616 → f x y < 18446744073709551616) (ha : AllW a) (hb : AllW b) : AllW (zipW f a b) := by
  intro x hx
  unfold zipW at hx
  simp only [List.mem_map, List.mem_range] at hx
  obtain ⟨i, _, rfl⟩ := hx
  exact hf _ _ (wordN_lt ha i) (wordN_lt hb i)
theorem or_lt {x y : Nat} (hx : x < 18446744073709551616) (hy : y < 18446744073709551616) : x ||| y < 18446744073709551616 := Nat.or_lt_two_pow (n := 64) hx hy
theorem and_lt {x : Nat} (y : Nat) (hx : x < 18446744073709551616) : x &&& y < 18446744073709551616 := Nat.lt_of_le_of_lt Nat.and_le_left hx
theorem andNot_lt {x : Nat} (y : Nat) (hx : x < 18446744073709551616) : andNot x y < 18446744073709551616 := by unfold andNot; omega
theorem join_all {a b : List Nat} (ha : AllW a) (hb : AllW b) : AllW (joinN a b) := trim_all (zip_all (fun _ _ => or_lt) ha hb)
theorem meet_all {a b : List Nat} (ha : AllW a) (hb : AllW b) : AllW (meetN a b) := trim_all (zip_all (fun _ y hx _ => and_lt y hx) ha hb)
theorem minus_all {a b : List Nat} (ha : AllW a) (hb : AllW b) : AllW (minusN a b) := trim_all (zip_all (fun _ y hx _ => andNot_lt y hx) ha hb)
/-- words are the same where all bits are -/
theorem word_ext {a b : List Nat} (ha : AllW a) (hb : AllW b) (h : ∀ n, hasN a n = hasN b n) (i : Nat) : wordN a i = wordN b i := by
  apply Nat.eq_of_testBit_eq
  intro j
  by_cases hj : j < 64
  · have := h (64 * i + j)
    unfold hasN at this
    rwa [show (64 * i + j) / 64 = i from by omega, show (64 * i + j) % 64 = j from by omega] at this
  · rw [Nat.testBit_lt_two_pow (Nat.lt_of_lt_of_le (show _ < 2 ^ 64 from wordN_lt ha i) (Nat.pow_le_pow_right (by decide) (by omega))),
      Nat.testBit_lt_two_pow (Nat.lt_of_lt_of_le (show _ < 2 ^ 64 from wordN_lt hb i) (Nat.pow_le_pow_right (by decide) (by omega)))]
theorem set_ext {a b : List Nat} (ha : AllW a) (hb : AllW b) (h : ∀ n, hasN a n = hasN b n) : trim a = trim b := trim_ext (word_ext ha hb h)
theorem trim_nil_iff {m : List Nat} : trim m = [] ↔ ∀ i, wordN m i = 0 := by
  constructor
  · intro h i
    rw [← wordN_trim, h]; rfl
  · intro h
    have : trim m = trim [] := trim_ext (fun i => by rw [h i]; rfl)
    exact this
theorem join_comm (a b : List Nat) : joinN a b = joinN b a := by
  unfold joinN
  refine trim_ext fun i => ?_
  rw [wordN_zip rfl, wordN_zip rfl, Nat.or_comm]
theorem meet_comm (a b : List Nat) : meetN a b = meetN b a := by
  unfold meetN
  refine trim_ext fun i => ?_
  rw [wordN_zip rfl, wordN_zip rfl, Nat.and_comm]
theorem xor_zero_iff (x y : Nat) : x ^^^ y = 0 ↔ x = y := by
  constructor
  · intro h
    have : x ^^^ (x ^^^ y) = x := by rw [h, Nat.xor_zero]
    rw [← Nat.xor_assoc, Nat.xor_self, Nat.zero_xor] at this
    exact this.symm
  · rintro rfl; exact Nat.xor_self _
theorem same_iff {a b : List Nat} : sameN a b = true ↔ ∀ i, wordN a i = wordN b i := by
  unfold sameN minusN
  rw [Bool.and_eq_true, decide_eq_true_iff, decide_eq_true_iff, trim_nil_iff, trim_nil_iff]
  constructor
  · rintro ⟨h1, h2⟩ i
    have e1 := h1 i
    have e2 := h2 i
    rw [wordN_zip rfl] at e1 e2
    apply Nat.eq_of_testBit_eq
    intro j
    have b1 := congrArg (Nat.testBit · j) e1
    have b2 := congrArg (Nat.testBit · j) e2
    simp only [andNot_bit, Nat.zero_testBit] at b1 b2
    revert b1 b2
    cases (wordN a i).testBit j <;> cases (wordN b i).testBit j <;> simp
  · intro h
    constructor <;> intro i <;> rw [wordN_zip rfl, h i] <;> (unfold andNot; rw [Nat.and_self]; omega)
theorem same_xor (a b : List Nat) : decide (trim (zipW (· ^^^ ·) a b) = []) = sameN a b := by
  rw [Bool.eq_iff_iff, decide_eq_true_iff, trim_nil_iff, same_iff]
  constructor
  · intro h i
    have := h i
    rw [wordN_zip rfl] at this
    exact (xor_zero_iff _ _).1 this
  · intro h i
    rw [wordN_zip rfl]
    exact (xor_zero_iff _ _).2 (h i)
theorem and_bit (x i : Nat) : x &&& 2 ^ i = if x.testBit i then 2 ^ i else 0 := by
  apply Nat.eq_of_testBit_eq
  intro j
  rw [Nat.testBit_and, Nat.testBit_two_pow]
  by_cases h : i = j
  · subst h
    cases hx : x.testBit i <;> simp
  · cases hx : x.testBit i <;> simp [h]
/-- how many numbers below N a mask has -/
def cntN (m : List Nat) (N : Nat) : Nat := ((List.range N).filter (hasN m)).length
theorem hasN_out {m : List Nat} {n : Nat} (h : 64 * m.length ≤ n) : hasN m n = false := by
  unfold hasN
  rw [wordN_out (by omega)]
  exact Nat.zero_testBit _
theorem cntN_more (m : List Nat) (N : Nat) (h : 64 * m.length ≤ N) : cntN m N = sizeN m := by
  obtain ⟨d, rfl⟩ : ∃ d, N = 64 * m.length + d := ⟨N - 64 * m.length, by omega⟩
  clear h
  induction d with
  | zero => rfl
  | succ d ih =>
    rw [← ih]
    unfold cntN
    rw [← Nat.add_assoc, List.range_succ, List.filter_append]
    simp [hasN_out (m := m) (n := 64 * m.length + d) (by omega)]
theorem cnt_ext {a b : List Nat} (N : Nat) (h : ∀ n, hasN a n = hasN b n) : cntN a N = cntN b N := by
  unfold cntN
  rw [show hasN a = hasN b from funext h]
theorem cnt_add (a b j m : List Nat) (N : Nat) (hj : ∀ n, hasN j n = (hasN a n || hasN b n)) (hm : ∀ n, hasN m n = (hasN a n && hasN b n)) : cntN j N + cntN m N = cntN a N + cntN b N := by
  induction N with
  | zero => rfl
  | succ N ih =>
    unfold cntN at ih ⊢
    rw [List.range_succ]
    simp only [List.filter_append, List.length_append, List.filter_cons, List.filter_nil, hj, hm]
    cases hasN a N <;> cases hasN b N <;> simp <;> omega
theorem size_add (a b : List Nat) : sizeN (joinN a b) + sizeN (meetN a b) = sizeN a + sizeN b := by
  have l1 := trim_length (zipW (· ||| ·) a b)
  have l2 := trim_length (zipW (· &&& ·) a b)
  rw [zipW_length] at l1 l2
  have := cnt_add a b (joinN a b) (meetN a b) (64 * max a.length b.length) (hasN_join a b) (hasN_meet a b)
  rwa [cntN_more _ _ (by unfold joinN; omega), cntN_more _ _ (by unfold meetN; omega), cntN_more _ _ (by omega), cntN_more _ _ (by omega)] at this
theorem size_zero {m : List Nat} (h : ∀ n, hasN m n = false) : sizeN m = 0 := by
  unfold sizeN allN
  rw [List.filter_eq_nil_iff.2 (by intro n _; simp [h n])]
  rfl
theorem size_apart (a b : List Nat) : sizeN (meetN (minusN a b) b) = 0 := by
  refine size_zero fun n => ?_
  rw [hasN_meet, hasN_minus]
  cases hasN a n <;> cases hasN b n <;> rfl
theorem same_parts {a b : List Nat} (ha : AllW a) (hb : AllW b) : sameN (joinN (minusN a b) (meetN a b)) a = true := by
  rw [same_iff]
  refine word_ext (join_all (minus_all ha hb) (meet_all ha hb)) ha fun n => ?_
  rw [hasN_join, hasN_minus, hasN_meet]
  cases hasN a n <;> cases hasN b n <;> rfl
theorem one_word (n i : Nat) : wordN (oneN n) i = if i = n / 64 then 2 ^ (n % 64) else 0 := by
  unfold oneN wordN
  simp only [List.getD]
  by_cases h : i < n / 64
  · rw [List.getElem?_append_left (by simpa using h), List.getElem?_replicate, if_pos h, if_neg (by omega)]; rfl
  · rw [List.getElem?_append_right (by simp; omega), List.length_replicate]
    by_cases h2 : i = n / 64
    · subst h2; simp
    · rw [if_neg h2]
      have : i - n / 64 ≠ 0 := by omega
      rw [List.getElem?_eq_none (by simp; omega)]; rfl
theorem one_length (n : Nat) : (oneN n).length = n / 64 + 1 := by unfold oneN; simp
theorem one_all (n : Nat) : AllW (oneN n) := by
  intro x hx
  unfold oneN at hx
  rcases List.mem_append.1 hx with h | h
  · rw [(List.mem_replicate.1 h).2]; decide
  · rcases List.mem_singleton.1 h with rfl
    exact Nat.lt_of_le_of_lt (Nat.pow_le_pow_right (by decide) (show n % 64 ≤ 63 by omega)) (by decide)
/-- a mask with zeros behind, its word of a number with the bit -/
theorem put_set (m : List Nat) (n L : Nat) (hL : L = max m.length (n / 64 + 1)) :
    trim ((m ++ List.replicate (L - m.length) 0).set (n / 64) (wordN m (n / 64) ||| 2 ^ (n % 64))) = joinN m (oneN n) := by
  unfold joinN
  refine trim_ext fun i => ?_
  rw [wordN_zip rfl, one_word]
  have hlen : (m ++ List.replicate (L - m.length) 0).length = L := by rw [List.length_append, List.length_replicate]; omega
  by_cases h : i = n / 64
  · subst h
    rw [if_pos rfl]
    have hlt : n / 64 < (m ++ List.replicate (L - m.length) 0).length := by omega
    show List.getD _ _ 0 = _
    simp only [List.getD, List.getElem?_set, if_pos trivial, if_pos hlt]
    rfl
  · rw [if_neg h, Nat.or_zero]
    show List.getD _ _ 0 = _
    rw [List.getD, List.getElem?_set, if_neg (fun e => h e.symm)]
    exact wordN_append_zeros m _ i
theorem put_all {m : List Nat} (h : AllW m) (n : Int) : AllW (putI m n) := by
  unfold putI
  split
  · exact trim_all h
  · exact join_all h (one_all _)
theorem of_all (ns : List Int) : AllW (ofI ns) := by
  unfold ofI
  have : ∀ (l : List Int) (m : List Nat), AllW m → AllW (l.foldl putI m) := by
    intro l
    induction l with
    | nil => exact fun m h => h
    | cons n l ih => exact fun m h => ih _ (put_all h n)
  exact this ns [] (fun x hx => by cases hx)
theorem put_length (m : List Nat) (n : Int) : (putI m n).length ≤ max m.length 16 := by
  unfold putI
  split
  · have := trim_length m; omega
  · have := trim_length (zipW (· ||| ·) m (oneN n.toNat))
    rw [zipW_length, one_length] at this
    unfold joinN
    omega
/-- the first k words of a list, then zeros -/
def upTo (z : List Nat) (k : Nat) : List Nat := z.take k ++ List.replicate (z.length - k) 0
theorem upTo_zero (z : List Nat) : upTo z 0 = List.replicate z.length 0 := by unfold upTo; simp
theorem upTo_all (z : List Nat) : upTo z z.length = z := by unfold upTo; simp
theorem upTo_length (z : List Nat) (k : Nat) (hk : k ≤ z.length) : (upTo z k).length = z.length := by unfold upTo; simp; omega
theorem upTo_set (z : List Nat) (k : Nat) (hk : k < z.length) : (upTo z k).set k (wordN z k) = upTo z (k + 1) := by
  unfold upTo
  have h1 : wordN z k = z[k] := by unfold wordN; simp [List.getD, hk]
  rw [h1, List.take_succ_eq_append_getElem hk, show z.length - k = (z.length - (k + 1)) + 1 from by omega, List.replicate_succ]
  have hl : (z.take k).length = k := by rw [List.length_take]; omega
  rw [List.set_append_right _ _ (by omega), hl, Nat.sub_self, List.set_cons_zero, List.append_assoc]
  rfl
theorem wordN_zip' (f : Nat → Nat → Nat) (a b : List Nat) (k : Nat) (hk : k < max a.length b.length) : wordN (zipW f a b) k = f (wordN a k) (wordN b k) := by
  unfold zipW
  show ((List.range (max a.length b.length)).map _).getD k 0 = _
  simp only [List.getD, List.getElem?_map, List.getElem?_range hk, Option.map_some, Option.getD_some]
theorem zip_take (f : Nat → Nat → Nat) (a b : List Nat) (k : Nat) (hk : k < max a.length b.length) : (zipW f a b).take (k + 1) = (zipW f a b).take k ++ [f (wordN a k) (wordN b k)] := by
  have hl : k < (zipW f a b).length := by rw [zipW_length]; exact hk
  have h := wordN_zip' f a b k hk
  have h1 : wordN (zipW f a b) k = (zipW f a b)[k] := by unfold wordN; simp [List.getD, hl]
  rw [h1] at h
  rw [List.take_succ_eq_append_getElem hl, h]
theorem one_set (k : Nat) : (List.replicate (k / 64 + 1) 0).set (k / 64) (2 ^ (k % 64)) = oneN k := by
  unfold oneN
  rw [List.replicate_succ', List.set_append_right _ _ (by simp), List.length_replicate, Nat.sub_self, List.set_cons_zero]
theorem of_take (l : List Int) (k : Nat) (h : k < l.length) : ofI (l.take (k + 1)) = putI (ofI (l.take k)) (l.getD k 0) := by
  have e : l.take (k + 1) = l.take k ++ [l.getD k 0] := by rw [List.take_succ_eq_append_getElem h]; simp [List.getD, h]
  unfold ofI
  rw [e, List.foldl_append]
  rfl
theorem of_length (l : List Int) : (ofI l).length ≤ 16 := by
  unfold ofI
  have : ∀ (l : List Int) (m : List Nat), m.length ≤ 16 → (l.foldl putI m).length ≤ 16 := by
    intro l
    induction l with
    | nil => exact fun m h => h
    | cons n l ih => exact fun m h => ih _ (by have := put_length m n; omega)
  exact this l [] (by simp)
/-- the numbers below N that a mask has, as integers -/
def allTo (m : List Nat) (N : Nat) : List Int := ((List.range N).filter (hasN m)).map fun n : Nat => (n : Int)
def allI (m : List Nat) : List Int := allTo m (64 * m.length)
theorem allTo_yes {m : List Nat} {N : Nat} (h : hasN m N = true) : allTo m (N + 1) = allTo m N ++ [(N : Int)] := by
  unfold allTo; rw [List.range_succ, List.filter_append]; simp [h]
theorem allTo_no {m : List Nat} {N : Nat} (h : hasN m N = false) : allTo m (N + 1) = allTo m N := by
  unfold allTo; rw [List.range_succ, List.filter_append]; simp [h]
theorem allTo_skip {m : List Nat} {N d : Nat} (h : ∀ i, i < d → hasN m (N + i) = false) : allTo m (N + d) = allTo m N := by
  induction d with
  | zero => rfl
  | succ d ih =>
    rw [← Nat.add_assoc, allTo_no (h d (by omega)), ih (fun i hi => h i (by omega))]
theorem allTo_length (m : List Nat) (N : Nat) : (allTo m N).length ≤ N := by
  unfold allTo
  rw [List.length_map]
  exact Nat.le_trans (List.length_filter_le _ _) (by simp)
theorem allI_length (m : List Nat) : (allI m).length = sizeN m := by unfold allI allTo sizeN allN; simp
theorem hasN_word {m : List Nat} {k j : Nat} (hj : j < 64) : hasN m (64 * k + j) = decide (wordN m k / 2 ^ j % 2 = 1) := by
  unfold hasN
  rw [show (64 * k + j) / 64 = k from by omega, show (64 * k + j) % 64 = j from by omega, Nat.testBit_eq_decide_div_mod_eq]
theorem allTo_rest {m : List Nat} {k j : Nat} (hj : j ≤ 64) (h : wordN m k / 2 ^ j = 0) : allTo m (64 * k + 64) = allTo m (64 * k + j) := by
  rw [show 64 * k + 64 = (64 * k + j) + (64 - j) from by omega]
  refine allTo_skip fun i hi => ?_
  rw [show 64 * k + j + i = 64 * k + (j + i) from by omega, hasN_word (by omega), Nat.pow_add, ← Nat.div_div_eq_div_mul, h]
  simp
end Go.Proofs.YtfkfpanhbanljaaGreat.Mask
