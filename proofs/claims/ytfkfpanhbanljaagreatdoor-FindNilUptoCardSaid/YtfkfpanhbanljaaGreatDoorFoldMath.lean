/- What a text is folded to, in plain words: over lists of bytes, no program in sight. -/
import Derived.Lib.Split
import Derived.Lib.SplitLaws
import Derived.Lib.Join
import Derived.Lib.IndexMore
namespace Go.Proofs.YtfkfpanhbanljaaGreatDoor.Fold
open Go.Lib

/-- what a byte is folded to -/
def let1 (n : Nat) : Nat := if 65 ≤ n ∧ n ≤ 90 then n + 32 else if (97 ≤ n ∧ n ≤ 122) ∨ (48 ≤ n ∧ n ≤ 57) ∨ 126 < n then n else 32
def letter (c : UInt8) : UInt8 := UInt8.ofNat (let1 c.toNat)
theorem let1_lt {n : Nat} (h : n < 256) : let1 n < 256 := by unfold let1; split <;> (try split) <;> omega
theorem let1_idem (n : Nat) : let1 (let1 n) = let1 n := by
  have : ∀ m, let1 m = 32 ∨ let1 (let1 m) = let1 m := by
    intro m
    unfold let1
    by_cases h1 : 65 ≤ m ∧ m ≤ 90
    · rw [if_pos h1]; right; rw [if_neg (by omega), if_pos (by omega)]
    · rw [if_neg h1]
      by_cases h2 : (97 ≤ m ∧ m ≤ 122) ∨ (48 ≤ m ∧ m ≤ 57) ∨ 126 < m
      · rw [if_pos h2]; right; rw [if_neg h1, if_pos h2]
      · left; rw [if_neg h2]
  rcases this n with h | h
  · rw [h]; decide
  · exact h
theorem letter_toNat (c : UInt8) : (letter c).toNat = let1 c.toNat := by
  unfold letter
  have := let1_lt (UInt8.toNat_lt c)
  simp only [UInt8.toNat_ofNat']
  omega
theorem letter_idem (c : UInt8) : letter (letter c) = letter c := by
  apply UInt8.toNat_inj.1
  rw [letter_toNat, letter_toNat, let1_idem]
/-- a text cut at its blanks -/
def splitS : List UInt8 → List (List UInt8)
  | [] => [[]]
  | c :: l => if c = 32 then [] :: splitS l else match splitS l with
    | [] => [[c]]
    | w :: r => (c :: w) :: r
theorem splitS_ne (l : List UInt8) : splitS l ≠ [] := by
  cases l with
  | nil => simp [splitS]
  | cons c l =>
    unfold splitS
    split
    · simp
    · split <;> simp
theorem splitS_form (l : List UInt8) : ∃ w r, splitS l = w :: r := by
  cases h : splitS l with
  | nil => exact absurd h (splitS_ne l)
  | cons w r => exact ⟨w, r, rfl⟩
theorem splitS_blank (l : List UInt8) : splitS (32 :: l) = [] :: splitS l := by simp [splitS]
theorem splitS_other {c : UInt8} (hc : c ≠ 32) {l w : List UInt8} {r : List (List UInt8)} (h : splitS l = w :: r) : splitS (c :: l) = (c :: w) :: r := by
  simp [splitS, hc, h]
def full (w : List UInt8) : Bool := !w.isEmpty
theorem full_iff (w : List UInt8) : full w = true ↔ w ≠ [] := by cases w <;> simp [full]
/-- a text's words, folded -/
def words (l : List UInt8) : List (List UInt8) := (splitS (l.map letter)).filter full
/-- a text, folded -/
def fold (l : List UInt8) : List UInt8 := Lib.join (words l) [32]
/-! the library's Split -/
theorem index_cons_other {c : UInt8} (hc : c ≠ 32) (l : List UInt8) : index (c :: l) [32] = if index l [32] == -1 then -1 else index l [32] + 1 := by
  have : ([32] : List UInt8).isPrefixOf (c :: l) = false := by
    simp [List.isPrefixOf]; exact fun e => hc e.symm
  rw [index, this]
  simp
theorem splitK_splitS : ∀ s : List UInt8, splitK [32] 0 (count s [32]) s = splitS s
  | [] => by rw [count_one]; rfl
  | c :: l => by
    have ih := splitK_splitS l
    by_cases hc : c = 32
    · subst hc
      rw [count_cons_eq, Nat.add_comm, splitS_blank]
      have h0 : index ((32 : UInt8) :: l) [32] = 0 := by
        have : ([32] : List UInt8).isPrefixOf ((32 : UInt8) :: l) = true := by simp [List.isPrefixOf]
        rw [index, this]; rfl
      rw [splitK, h0, if_neg (by decide)]
      simp only [Int.toNat_zero, List.take_zero, List.length_singleton, Nat.add_zero, Nat.zero_add, List.drop_succ_cons, List.drop_zero]
      rw [ih]
    · rw [count_cons_ne c 32 l hc]
      obtain ⟨w, r, hwr⟩ := splitS_form l
      rw [splitS_other hc hwr]
      rw [hwr] at ih
      cases hk : count l [32] with
      | zero =>
        rw [hk] at ih
        rw [splitK] at ih ⊢
        injection ih with h1 h2
        rw [h1, h2]
      | succ k =>
        rw [hk] at ih
        rw [splitK] at ih ⊢
        rw [index_cons_other hc]
        by_cases hi : index l [32] = -1
        · rw [hi] at ih ⊢
          rw [if_pos (by decide)] at ih
          have e : (if ((-1 : Int) == -1) = true then (-1 : Int) else -1 + 1) = -1 := by decide
          rw [e, if_pos (by decide)]
          injection ih with h1 h2
          rw [h1, h2]
        · have hge := index_ge l [32]
          obtain ⟨i, hi2⟩ : ∃ i : Nat, index l [32] = (i : Int) := ⟨(index l [32]).toNat, by omega⟩
          rw [hi2] at ih ⊢
          rw [if_neg (by simp)] at ih
          rw [if_neg (show ¬ (((i : Int) == -1) = true) by simp), if_neg (by simp; omega)]
          have e1 : ((i : Int) + 1).toNat = i + 1 := by omega
          have e0 : ((i : Int)).toNat = i := by omega
          rw [e1]
          rw [e0] at ih
          simp only [Nat.add_zero, List.length_singleton, List.take_succ_cons, List.drop_succ_cons] at ih ⊢
          injection ih with h1 h2
          rw [h1, h2]
/-! the document's Words -/
def stepW (s : List (List UInt8) × List UInt8) (c : UInt8) : List (List UInt8) × List UInt8 :=
  if letter c = 32 then (if full s.2 then s.1 ++ [s.2] else s.1, []) else (s.1, s.2 ++ [letter c])
def endW (s : List (List UInt8) × List UInt8) : List (List UInt8) := if full s.2 then s.1 ++ [s.2] else s.1
def glue (w : List UInt8) : List (List UInt8) → List (List UInt8)
  | [] => [w]
  | h :: r => (w ++ h) :: r
theorem foldW (l : List UInt8) : ∀ (o : List (List UInt8)) (w : List UInt8), endW (l.foldl stepW (o, w)) = o ++ (glue w (splitS (l.map letter))).filter full := by
  induction l with
  | nil =>
    intro o w
    show (if full w = true then o ++ [w] else o) = o ++ (glue w [[]]).filter full
    simp only [glue, List.append_nil]
    by_cases h : full w = true
    · rw [if_pos h]; simp [h]
    · rw [if_neg h]; simp [h]
  | cons c l ih =>
    intro o w
    rw [List.foldl_cons, List.map_cons]
    obtain ⟨x, r, hwr⟩ := splitS_form (l.map letter)
    by_cases hc : letter c = 32
    · rw [hc, splitS_blank, hwr]
      have e : stepW (o, w) c = (if full w then o ++ [w] else o, []) := by simp [stepW, hc]
      rw [e, ih, hwr]
      simp only [glue, List.nil_append, List.append_nil]
      by_cases h : full w = true
      · rw [if_pos h]; simp [h, List.filter_cons]
      · rw [if_neg h]; simp [h, List.filter_cons]
    · rw [splitS_other hc hwr]
      have e : stepW (o, w) c = (o, w ++ [letter c]) := by simp [stepW, hc]
      rw [e, ih, hwr]
      simp [glue]
theorem words_step (l : List UInt8) : words l = endW (l.foldl stepW ([], [])) := by
  rw [foldW]
  obtain ⟨w, r, hwr⟩ := splitS_form (l.map letter)
  simp [words, hwr, glue]
/-! what words are -/
def NoB (w : List UInt8) : Prop := ∀ c ∈ w, c ≠ 32
def Good (w : List UInt8) : Prop := w ≠ [] ∧ ∀ c ∈ w, letter c = c ∧ c ≠ 32
theorem splitS_nob : ∀ l : List UInt8, ∀ w ∈ splitS l, ∀ c ∈ w, c ≠ 32 ∧ c ∈ l
  | [], w, hw, c, hc => by simp [splitS] at hw; subst hw; cases hc
  | d :: l, w, hw, c, hc => by
    have ih := splitS_nob l
    obtain ⟨x, r, hxr⟩ := splitS_form l
    by_cases hd : d = 32
    · subst hd
      rw [splitS_blank] at hw
      rcases List.mem_cons.1 hw with rfl | hw
      · cases hc
      · exact ⟨(ih w hw c hc).1, List.mem_cons_of_mem _ (ih w hw c hc).2⟩
    · rw [splitS_other hd hxr] at hw
      rw [hxr] at ih
      rcases List.mem_cons.1 hw with rfl | hw
      · rcases List.mem_cons.1 hc with rfl | hc
        · exact ⟨hd, List.mem_cons_self⟩
        · have := ih x List.mem_cons_self c hc
          exact ⟨this.1, List.mem_cons_of_mem _ this.2⟩
      · have := ih w (List.mem_cons_of_mem _ hw) c hc
        exact ⟨this.1, List.mem_cons_of_mem _ this.2⟩
theorem words_good (l : List UInt8) : ∀ w ∈ words l, Good w := by
  intro w hw
  obtain ⟨h1, h2⟩ := List.mem_filter.1 hw
  refine ⟨(full_iff w).1 h2, fun c hc => ?_⟩
  obtain ⟨h3, h4⟩ := splitS_nob _ w h1 c hc
  obtain ⟨d, _, rfl⟩ := List.mem_map.1 h4
  exact ⟨letter_idem d, h3⟩
theorem splitS_word (w l : List UInt8) (h : ∀ c ∈ w, c ≠ 32) : splitS (w ++ l) = glue w (splitS l) := by
  induction w with
  | nil =>
    obtain ⟨x, r, hxr⟩ := splitS_form l
    rw [List.nil_append, hxr]; rfl
  | cons c w ih =>
    have ih := ih (fun d hd => h d (List.mem_cons_of_mem _ hd))
    obtain ⟨x, r, hxr⟩ := splitS_form l
    rw [hxr] at ih ⊢
    exact splitS_other (h c List.mem_cons_self) ih
/-- words put behind one another, a blank ahead of each -/
def led (ws : List (List UInt8)) : List UInt8 := ws.flatMap fun w => 32 :: w
theorem joinTail_led (ws : List (List UInt8)) : joinTail [32] ws = led ws := by
  unfold joinTail led
  rw [List.flatMap_def]
  rfl
theorem join_led (w : List UInt8) (ws : List (List UInt8)) : 32 :: Lib.join (w :: ws) [32] = led (w :: ws) := by
  rw [join_cons, joinTail_led]
  rfl
theorem splitS_led (ws : List (List UInt8)) (h : ∀ w ∈ ws, ∀ c ∈ w, c ≠ 32) : splitS (led ws) = [] :: ws := by
  induction ws with
  | nil => rfl
  | cons w ws ih =>
    have e : led (w :: ws) = 32 :: (w ++ led ws) := rfl
    rw [e, splitS_blank, splitS_word w _ (h w List.mem_cons_self), ih (fun x hx => h x (List.mem_cons_of_mem _ hx))]
    simp [glue]
theorem splitS_join (w : List UInt8) (ws : List (List UInt8)) (h : ∀ x ∈ w :: ws, ∀ c ∈ x, c ≠ 32) : splitS (Lib.join (w :: ws) [32]) = w :: ws := by
  have := splitS_led (w :: ws) h
  rw [← join_led, splitS_blank] at this
  injection this
theorem map_same {w : List UInt8} (h : ∀ c ∈ w, letter c = c) : w.map letter = w := by
  induction w with
  | nil => rfl
  | cons c w ih => rw [List.map_cons, h c List.mem_cons_self, ih (fun d hd => h d (List.mem_cons_of_mem _ hd))]
theorem led_letters (ws : List (List UInt8)) (h : ∀ w ∈ ws, ∀ c ∈ w, letter c = c) : ∀ c ∈ led ws, letter c = c := by
  intro c hc
  obtain ⟨w, hw, hc⟩ := List.mem_flatMap.1 hc
  rcases List.mem_cons.1 hc with rfl | hc
  · decide
  · exact h w hw c hc
theorem join_letters (ws : List (List UInt8)) (h : ∀ w ∈ ws, ∀ c ∈ w, letter c = c) : ∀ c ∈ Lib.join ws [32], letter c = c := by
  cases ws with
  | nil => intro c hc; simp [join_nil] at hc
  | cons w ws =>
    intro c hc
    exact led_letters (w :: ws) h c (by rw [← join_led]; exact List.mem_cons_of_mem _ hc)
/-- words of words put together -/
theorem words_join (ws : List (List UInt8)) (h : ∀ w ∈ ws, Good w) : words (Lib.join ws [32]) = ws := by
  cases ws with
  | nil => rfl
  | cons w ws =>
    unfold words
    rw [map_same (join_letters _ fun x hx c hc => ((h x hx).2 c hc).1), splitS_join w ws fun x hx c hc => ((h x hx).2 c hc).2]
    exact List.filter_eq_self.2 fun x hx => (full_iff x).2 (h x hx).1
theorem words_fold (l : List UInt8) : words (fold l) = words l := words_join _ (words_good l)
theorem fold_fold (l : List UInt8) : fold (fold l) = fold l := by
  show Lib.join (words (fold l)) [32] = _
  rw [words_fold]; rfl
theorem words_length_le (l : List UInt8) : (words l).length ≤ l.length + 1 := by
  have : ∀ l : List UInt8, (splitS l).length ≤ l.length + 1 := by
    intro l
    induction l with
    | nil => simp [splitS]
    | cons c l ih =>
      obtain ⟨w, r, hwr⟩ := splitS_form l
      by_cases hc : c = 32
      · subst hc; rw [splitS_blank]; simp; omega
      · rw [splitS_other hc hwr]; rw [hwr] at ih; simp at ih ⊢; omega
  exact Nat.le_trans (List.length_filter_le _ _) (by have := this (l.map letter); simpa using this)
theorem words_lens (l : List UInt8) : lens (words l) + (words l).length ≤ l.length + 1 := by
  have key : ∀ l : List UInt8, lens (splitS l) + (splitS l).length = l.length + 1 := by
    intro l
    induction l with
    | nil => simp [splitS, lens]
    | cons c l ih =>
      obtain ⟨w, r, hwr⟩ := splitS_form l
      by_cases hc : c = 32
      · subst hc; rw [splitS_blank]; simp [lens] at ih ⊢; omega
      · rw [splitS_other hc hwr]; rw [hwr] at ih; simp [lens] at ih ⊢; omega
  have fil : ∀ ws : List (List UInt8), lens (ws.filter full) + (ws.filter full).length ≤ lens ws + ws.length := by
    intro ws
    induction ws with
    | nil => simp
    | cons w ws ih =>
      by_cases hw : full w = true
      · rw [List.filter_cons_of_pos hw]; simp [lens] at ih ⊢; omega
      · rw [List.filter_cons_of_neg hw]; simp [lens] at ih ⊢; omega
  have := key (l.map letter)
  have h2 := fil (splitS (l.map letter))
  simp only [List.length_map] at this
  unfold words
  omega
theorem fold_length (l : List UInt8) : (fold l).length ≤ l.length := by
  unfold fold
  have hl := words_lens l
  cases h : words l with
  | nil => simp [join_nil]
  | cons w ws =>
    rw [h] at hl
    rw [join_length]
    simp at hl ⊢
    omega
/-! how a text begins -/
/-- h's words stand at the front of l, the last one as a beginning -/
def pre : List (List UInt8) → List (List UInt8) → Bool
  | [], _ => true
  | _ :: _, [] => false
  | [w], v :: _ => w.isPrefixOf v
  | w :: h, v :: l => (w == v) && pre h l
theorem isPrefixOf_append_left (a b c : List UInt8) : (a ++ b).isPrefixOf (a ++ c) = b.isPrefixOf c := by
  induction a with
  | nil => rfl
  | cons x a ih => simp [List.isPrefixOf, ih]
/-- a word with a blank behind it at the front of a word with a text behind it that begins with a blank, or with nothing -/
theorem prefix_word : ∀ (w v x y : List UInt8), (∀ c ∈ w, c ≠ 32) → (∀ c ∈ v, c ≠ 32) → (y = [] ∨ ∃ z, y = 32 :: z) → (w ++ 32 :: x).isPrefixOf (v ++ y) = ((w == v) && (32 :: x).isPrefixOf y)
  | [], [], x, y, _, _, _ => by simp
  | [], d :: v, x, y, _, hv, _ => by
    have : ((32 : UInt8) == d) = false := by simpa using fun e => hv d List.mem_cons_self e.symm
    simp [List.isPrefixOf, this]
  | c :: w, [], x, y, hw, _, hy => by
    rcases hy with rfl | ⟨z, rfl⟩
    · simp [List.isPrefixOf]
    · have : (c == (32 : UInt8)) = false := by simpa using hw c List.mem_cons_self
      simp [List.isPrefixOf, this]
  | c :: w, d :: v, x, y, hw, hv, hy => by
    have ih := prefix_word w v x y (fun a ha => hw a (List.mem_cons_of_mem _ ha)) (fun a ha => hv a (List.mem_cons_of_mem _ ha)) hy
    simp only [List.cons_append, List.isPrefixOf, ih]
    by_cases hcd : c = d
    · subst hcd; simp
    · have : (c == d) = false := by simpa using hcd
      simp [this, hcd]
theorem prefix_last : ∀ (w v y : List UInt8), (∀ c ∈ w, c ≠ 32) → (y = [] ∨ ∃ z, y = 32 :: z) → w.isPrefixOf (v ++ y) = w.isPrefixOf v
  | [], _, _, _, _ => by simp
  | c :: w, [], y, hw, hy => by
    rcases hy with rfl | ⟨z, rfl⟩
    · simp
    · have : (c == (32 : UInt8)) = false := by simpa using hw c List.mem_cons_self
      simp [List.isPrefixOf, this]
  | c :: w, d :: v, y, hw, hy => by
    have ih := prefix_last w v y (fun a ha => hw a (List.mem_cons_of_mem _ ha)) hy
    simp only [List.cons_append, List.isPrefixOf, ih]
theorem led_front (l : List (List UInt8)) : led l = [] ∨ ∃ z, led l = 32 :: z := by
  cases l with
  | nil => exact .inl rfl
  | cons w l => exact .inr ⟨w ++ led l, rfl⟩
theorem pre_led : ∀ (h l : List (List UInt8)), (∀ w ∈ h, ∀ c ∈ w, c ≠ 32) → (∀ w ∈ l, ∀ c ∈ w, c ≠ 32) → (led h).isPrefixOf (led l) = pre h l
  | [], l, _, _ => by
    have : led [] = [] := rfl
    rw [this]
    cases l <;> simp [pre, List.isPrefixOf]
  | w :: h, [], _, _ => by
    have e : led (w :: h) = 32 :: (w ++ led h) := rfl
    have e0 : led [] = [] := rfl
    rw [e, e0]
    cases h <;> rfl
  | [w], v :: l, hh, hl => by
    have e : led [w] = 32 :: w := by simp [led]
    have e2 : led (v :: l) = 32 :: (v ++ led l) := rfl
    rw [e, e2]
    simp only [List.isPrefixOf, beq_self_eq_true, Bool.true_and, pre]
    exact prefix_last w v _ (hh w List.mem_cons_self) (led_front l)
  | w :: u :: h, v :: l, hh, hl => by
    have ih := pre_led (u :: h) l (fun x hx => hh x (List.mem_cons_of_mem _ hx)) (fun x hx => hl x (List.mem_cons_of_mem _ hx))
    have e : led (w :: u :: h) = 32 :: (w ++ 32 :: (u ++ led h)) := rfl
    have e1 : led (u :: h) = 32 :: (u ++ led h) := rfl
    have e2 : led (v :: l) = 32 :: (v ++ led l) := rfl
    rw [e1] at ih
    rw [e, e2]
    simp only [List.isPrefixOf, beq_self_eq_true, Bool.true_and, pre]
    rw [prefix_word w v _ _ (hh w List.mem_cons_self) (hl v List.mem_cons_self) (led_front l), ih]
/-- h's words stand somewhere in l so -/
def some_ (h : List (List UInt8)) : List (List UInt8) → Bool
  | [] => pre h []
  | v :: l => pre h (v :: l) || some_ h l
theorem contains_cons (b : UInt8) (l sub : List UInt8) : contains (b :: l) sub = (sub.isPrefixOf (b :: l) || contains l sub) := by
  unfold contains
  rw [index]
  cases h : sub.isPrefixOf (b :: l) with
  | true => simp
  | false =>
    have hge := index_ge l sub
    simp only [Bool.false_eq_true, if_false, Bool.false_or]
    by_cases hi : index l sub = -1
    · rw [hi]; decide
    · rw [if_neg (by simpa using hi)]
      rw [decide_eq_decide]
      omega
theorem contains_word (v y x : List UInt8) (hv : ∀ c ∈ v, c ≠ 32) : contains (v ++ y) (32 :: x) = contains y (32 :: x) := by
  induction v with
  | nil => rfl
  | cons c v ih =>
    have : ((32 : UInt8) == c) = false := by simpa using fun e => hv c List.mem_cons_self e.symm
    rw [List.cons_append, contains_cons, ih (fun d hd => hv d (List.mem_cons_of_mem _ hd))]
    simp [List.isPrefixOf, this]
theorem contains_led (w : List UInt8) (h l : List (List UInt8)) (hh : ∀ x ∈ w :: h, ∀ c ∈ x, c ≠ 32) (hl : ∀ x ∈ l, ∀ c ∈ x, c ≠ 32) : contains (led l) (led (w :: h)) = some_ (w :: h) l := by
  induction l with
  | nil =>
    have e0 : led [] = [] := rfl
    have e : led (w :: h) = 32 :: (w ++ led h) := rfl
    rw [e0, e]
    cases h <;> rfl
  | cons v l ih =>
    have ih := ih (fun x hx => hl x (List.mem_cons_of_mem _ hx))
    have e2 : led (v :: l) = 32 :: (v ++ led l) := rfl
    have e : led (w :: h) = 32 :: (w ++ led h) := rfl
    rw [e2, contains_cons, ← e2, pre_led _ _ hh hl, e, contains_word v _ _ (hl v List.mem_cons_self), ← e, ih]
    rfl
/-- the program's Begins -/
def begins (s head : List UInt8) : Bool := (fold head).isEmpty || contains (32 :: fold s) (32 :: fold head)
theorem join_empty (w : List UInt8) (h : List (List UInt8)) (hw : w ≠ []) : (Lib.join (w :: h) [32]).isEmpty = false := by
  rw [join_cons]
  cases w with
  | nil => exact absurd rfl hw
  | cons c w => rfl
theorem begins_words (s head : List UInt8) : begins s head = ((words head).isEmpty || some_ (words head) (words s)) := by
  have g1 := words_good head
  have g2 := words_good s
  unfold begins fold
  cases h : words head with
  | nil => simp [join_nil]
  | cons w hs =>
    rw [h] at g1
    have hw := (g1 w List.mem_cons_self).1
    rw [join_empty w hs hw, join_led]
    have n1 : ∀ x ∈ w :: hs, ∀ c ∈ x, c ≠ 32 := fun x hx c hc => ((g1 x hx).2 c hc).2
    simp only [Bool.false_or, List.isEmpty_cons]
    cases h2 : words s with
    | nil =>
      rw [join_nil]
      have e : led (w :: hs) = 32 :: (w ++ led hs) := rfl
      cases w with
      | nil => exact absurd rfl hw
      | cons c w =>
        rw [e, contains_cons]
        cases hs <;> rfl
    | cons v l =>
      rw [h2] at g2
      rw [join_led, contains_led w hs (v :: l) n1 fun x hx c hc => ((g2 x hx).2 c hc).2]
end Go.Proofs.YtfkfpanhbanljaaGreatDoor.Fold
