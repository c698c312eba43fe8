/- A number's one form, in plain words: over lists of bytes, no program in sight. -/
import Derived.Lib.Strings
namespace Go.Proofs.YtfkfpanhbanljaaDoor.Phone

def isD (c : UInt8) : Bool := decide (48 ≤ c.toNat) && decide (c.toNat ≤ 57)
def isB (c : UInt8) : Bool := c == 32 || c == 45 || c == 46 || c == 47 || c == 40 || c == 41
def okB (t : List UInt8) : Bool := t.all fun c => isD c || isB c
def digits (t : List UInt8) : List UInt8 := t.filter isD
def trimL (s : List UInt8) : List UInt8 := s.dropWhile (· == 32)
def cutP : List UInt8 → Bool × List UInt8
  | [] => (false, [])
  | c :: t => if c = 43 then (true, t) else (false, c :: t)
/-- the form of digits, where a + stands ahead or not -/
def zz (plus : Bool) (d : List UInt8) : Bool × List UInt8 := if plus then (true, d) else if ([48, 48] : List UInt8).isPrefixOf d then (true, d.drop 2) else (false, d)
def fin2 (p : Bool × List UInt8) : Option (List UInt8) := if p.2.length < 3 ∨ 15 < p.2.length then none else some (if p.1 then 43 :: p.2 else p.2)
def norm (s : List UInt8) : Option (List UInt8) :=
  if okB (cutP (trimL s)).2 then fin2 (zz (cutP (trimL s)).1 (digits (cutP (trimL s)).2)) else none
/-! the document's way -/
structure Scan where
  d : List UInt8
  plus : Bool
  begun : Bool
def step (s : Scan) (c : UInt8) : Option Scan :=
  if isD c then some ⟨s.d ++ [c], s.plus, true⟩
  else if c = 43 ∧ s.begun = false then some ⟨s.d, true, true⟩
  else if isB c then (if c = 32 then some s else some ⟨s.d, s.plus, true⟩) else none
def scan : List UInt8 → Scan → Option Scan
  | [], s => some s
  | c :: t, s => match step s c with
    | none => none
    | some s' => scan t s'
theorem isD_not_plus : isD 43 = false := by decide
theorem isB_not_plus : isB 43 = false := by decide
theorem isD_blank : isD 32 = false := by decide
theorem scan_begun : ∀ (t d : List UInt8) (p : Bool), scan t ⟨d, p, true⟩ = if okB t then some ⟨d ++ digits t, p, true⟩ else none
  | [], d, p => by simp [scan, okB, digits]
  | c :: t, d, p => by
    have ih := scan_begun t
    unfold scan step
    by_cases hd : isD c = true
    · rw [if_pos hd]
      simp only [ih]
      simp [okB, digits, hd]
    · have hd2 : isD c = false := by simpa using hd
      rw [if_neg hd, if_neg (by simp)]
      by_cases hb : isB c = true
      · rw [if_pos hb]
        by_cases h32 : c = 32
        · rw [if_pos h32]
          simp only [ih]
          simp [okB, digits, hd2, hb]
        · rw [if_neg h32]
          simp only [ih]
          simp [okB, digits, hd2, hb]
      · rw [if_neg hb]
        have hb2 : isB c = false := by simpa using hb
        simp [okB, hd2, hb2]
theorem scan_all : ∀ s : List UInt8, (scan s ⟨[], false, false⟩).map (fun r => (r.d, r.plus)) = if okB (cutP (trimL s)).2 then some (digits (cutP (trimL s)).2, (cutP (trimL s)).1) else none
  | [] => by rfl
  | c :: t => by
    have ih := scan_all t
    by_cases h32 : c = 32
    · subst h32
      have e : trimL (32 :: t) = trimL t := rfl
      rw [e, ← ih]
      rfl
    · have e : trimL (c :: t) = c :: t := by
        unfold trimL
        rw [List.dropWhile_cons_of_neg (by simpa using h32)]
      rw [e]
      unfold scan step
      by_cases hp : c = 43
      · subst hp
        rw [if_neg (by decide), if_pos ⟨rfl, rfl⟩]
        simp only [scan_begun]
        have : cutP (43 :: t) = (true, t) := rfl
        rw [this]
        by_cases hk : okB t = true
        · simp [hk]
        · have : okB t = false := by simpa using hk
          simp [this]
      · have hc : cutP (c :: t) = (false, c :: t) := by simp [cutP, hp]
        rw [hc]
        by_cases hd : isD c = true
        · rw [if_pos hd]
          simp only [scan_begun]
          by_cases hk : okB t = true
          · have : okB (c :: t) = true := by unfold okB at *; simp [hd] at *; exact hk
            simp [hk, this, digits, hd]
          · have h2 : okB t = false := by simpa using hk
            have : okB (c :: t) = false := by unfold okB at *; rw [List.all_cons, h2, Bool.and_false]
            simp [h2, this]
        · have hd2 : isD c = false := by simpa using hd
          rw [if_neg hd, if_neg (fun h => hp h.1)]
          by_cases hb : isB c = true
          · rw [if_pos hb, if_neg h32]
            simp only [scan_begun]
            by_cases hk : okB t = true
            · have : okB (c :: t) = true := by unfold okB at *; simp [hb] at *; exact hk
              simp [hk, this, digits, hd2]
            · have h2 : okB t = false := by simpa using hk
              have : okB (c :: t) = false := by unfold okB at *; rw [List.all_cons, h2, Bool.and_false]
              simp [h2, this]
          · rw [if_neg hb]
            have hb2 : isB c = false := by simpa using hb
            have : okB (c :: t) = false := by simp [okB, hd2, hb2]
            simp [this]
theorem scan_snoc (t : List UInt8) (c : UInt8) : ∀ s, scan (t ++ [c]) s = (scan t s).bind fun r => step r c := by
  induction t with
  | nil =>
    intro s
    show scan [c] s = step s c
    unfold scan
    cases step s c <;> rfl
  | cons b t ih =>
    intro s
    rw [List.cons_append]
    unfold scan
    cases step s b with
    | none => rfl
    | some s' => exact ih s'
/-! the one form -/
def AllD (d : List UInt8) : Prop := ∀ c ∈ d, isD c = true
inductive NF : List UInt8 → Prop
  | plus (d : List UInt8) (h : AllD d) (h1 : 3 ≤ d.length) (h2 : d.length ≤ 15) : NF (43 :: d)
  | bare (d : List UInt8) (h : AllD d) (h1 : 3 ≤ d.length) (h2 : d.length ≤ 15) (h3 : ([48, 48] : List UInt8).isPrefixOf d = false) : NF d
theorem digits_all (t : List UInt8) : AllD (digits t) := fun c hc => (List.mem_filter.1 hc).2
theorem norm_nf {s x : List UInt8} (h : norm s = some x) : NF x := by
  unfold norm at h
  split at h
  · have hd := digits_all (cutP (trimL s)).2
    generalize digits (cutP (trimL s)).2 = d at *
    unfold zz at h
    cases hp : (cutP (trimL s)).1 with
    | true =>
      rw [hp] at h
      simp only [if_true, fin2] at h
      split at h
      · cases h
      · rename_i hl
        injection h with h
        subst h
        exact .plus d hd (by omega) (by omega)
    | false =>
      rw [hp] at h
      simp only [Bool.false_eq_true, if_false] at h
      cases hz : ([48, 48] : List UInt8).isPrefixOf d with
      | true =>
        rw [hz] at h
        simp only [if_true, fin2] at h
        split at h
        · cases h
        · rename_i hl
          injection h with h
          subst h
          exact .plus _ (fun c hc => hd c (List.mem_of_mem_drop hc)) (by omega) (by omega)
      | false =>
        rw [hz] at h
        simp only [Bool.false_eq_true, if_false, fin2] at h
        split at h
        · cases h
        · rename_i hl
          injection h with h
          subst h
          exact .bare d hd (by omega) (by omega) hz
  · cases h
theorem okB_digits {d : List UInt8} (h : AllD d) : okB d = true := by
  unfold okB
  rw [List.all_eq_true]
  intro c hc
  rw [h c hc]; rfl
theorem digits_self {d : List UInt8} (h : AllD d) : digits d = d := List.filter_eq_self.2 h
theorem head_digit {c : UInt8} (h : isD c = true) : c ≠ 32 ∧ c ≠ 43 := by
  constructor
  · rintro rfl; revert h; decide
  · rintro rfl; revert h; decide
def sep : List UInt8 := [32, 45, 46, 47, 40, 41]
theorem okB_sep : okB sep = true := by decide
theorem digits_sep : digits sep = [] := by decide
theorem okB_append (a b : List UInt8) : okB (a ++ b) = (okB a && okB b) := by simp [okB]
theorem digits_append (a b : List UInt8) : digits (a ++ b) = digits a ++ digits b := by simp [digits]
/-- digits, with what may stand between them somewhere -/
theorem norm_spread (p : Bool) (a b : List UInt8) (ha : AllD a) (hb : AllD b) (hne : p = true ∨ a ≠ []) (hl1 : 3 ≤ (a ++ b).length) (hl2 : (a ++ b).length ≤ 15) (hz : p = true ∨ ([48, 48] : List UInt8).isPrefixOf (a ++ b) = false) (m : List UInt8) (hm : okB m = true) (hm2 : digits m = []) :
    norm ((if p then 43 :: a else a) ++ (m ++ b)) = some (if p then 43 :: (a ++ b) else a ++ b) := by
  have hok : okB (a ++ (m ++ b)) = true := by rw [okB_append, okB_append, okB_digits ha, okB_digits hb, hm]; rfl
  have hdg : digits (a ++ (m ++ b)) = a ++ b := by rw [digits_append, digits_append, digits_self ha, digits_self hb, hm2]; rfl
  cases p with
  | true =>
    have e : trimL (43 :: a ++ (m ++ b)) = 43 :: (a ++ (m ++ b)) := rfl
    have e2 : cutP (43 :: (a ++ (m ++ b))) = (true, a ++ (m ++ b)) := rfl
    simp only [if_true]
    unfold norm
    rw [e, e2, hok, hdg]
    simp only [if_true, zz, fin2]
    rw [if_neg (by omega)]
  | false =>
    have hz' : ([48, 48] : List UInt8).isPrefixOf (a ++ b) = false := by rcases hz with h | h; cases h; exact h
    have hne' : a ≠ [] := by rcases hne with h | h; cases h; exact h
    cases a with
    | nil => exact absurd rfl hne'
    | cons c a =>
      obtain ⟨h1, h2⟩ := head_digit (ha c List.mem_cons_self)
      have e : trimL (c :: a ++ (m ++ b)) = c :: a ++ (m ++ b) := by
        unfold trimL
        rw [List.cons_append, List.dropWhile_cons_of_neg (by simpa using h1)]
      have e2 : cutP (c :: a ++ (m ++ b)) = (false, c :: a ++ (m ++ b)) := by
        rw [List.cons_append]
        simp [cutP, h2]
      simp only [Bool.false_eq_true, if_false]
      unfold norm
      rw [e, e2, hok, hdg]
      simp only [if_true, zz, hz', Bool.false_eq_true, if_false, fin2]
      rw [if_neg (by omega)]
theorem nf_norm {x : List UInt8} (h : NF x) : norm x = some x := by
  cases h with
  | plus d h h1 h2 =>
    have := norm_spread true d [] h (fun c hc => by cases hc) (.inl rfl) (by simpa using h1) (by simpa using h2) (.inl rfl) [] rfl rfl
    simpa using this
  | bare _ h h1 h2 h3 =>
    have := norm_spread false x [] h (fun c hc => by cases hc) (.inr (by intro e; rw [e] at h1; simp at h1)) (by simpa using h1) (by simpa using h2) (.inr (by simpa using h3)) [] rfl rfl
    simpa using this
theorem trimL_blank (s : List UInt8) : trimL (32 :: s) = trimL s := rfl
theorem norm_blank (s : List UInt8) : norm (32 :: s) = norm s := by unfold norm; rw [trimL_blank]
theorem nf_between {x : List UInt8} (h : NF x) {k : Nat} (hk : 1 ≤ k) (hkl : k ≤ x.length) : norm (32 :: (x.take k ++ sep ++ x.drop k)) = some x := by
  rw [norm_blank]
  cases h with
  | plus d h h1 h2 =>
    obtain ⟨j, rfl⟩ : ∃ j, k = j + 1 := ⟨k - 1, by omega⟩
    have := norm_spread true (d.take j) (d.drop j) (fun c hc => h c (List.mem_of_mem_take hc)) (fun c hc => h c (List.mem_of_mem_drop hc)) (.inl rfl) (by simpa using h1) (by simpa using h2) (.inl rfl) sep okB_sep digits_sep
    simpa using this
  | bare _ h h1 h2 h3 =>
    have := norm_spread false (x.take k) (x.drop k) (fun c hc => h c (List.mem_of_mem_take hc)) (fun c hc => h c (List.mem_of_mem_drop hc)) (.inr (by intro e; have := congrArg List.length e; rw [List.length_take] at this; simp only [List.length_nil] at this; omega)) (by simpa using h1) (by simpa using h2) (.inr (by simpa using h3)) sep okB_sep digits_sep
    simpa using this
theorem nf_length {x : List UInt8} (h : NF x) : 3 ≤ x.length ∧ x.length ≤ 16 := by
  cases h with
  | plus d h h1 h2 => simp; omega
  | bare _ h h1 h2 h3 => omega
/-! may two numbers be one? -/
def ends (long short : List UInt8) : Bool :=
  (long.head? == some 43) && !(short.head? == some 43) && decide (6 ≤ (short.dropWhile (· == 48)).length) && (short.dropWhile (· == 48)).isSuffixOf (long.drop 1)
def same (a b : List UInt8) : Bool :=
  match norm a, norm b with
  | some x, some y => x == y || ends x y || ends y x
  | _, _ => false
theorem same_comm (a b : List UInt8) : same a b = same b a := by
  unfold same
  cases norm a <;> cases norm b <;> try rfl
  rename_i x y
  have : (x == y) = (y == x) := by rw [Bool.eq_iff_iff, beq_iff_eq, beq_iff_eq]; exact ⟨Eq.symm, Eq.symm⟩
  show (x == y || ends x y || ends y x) = (y == x || ends y x || ends x y)
  rw [this]
  cases (y == x) <;> cases ends x y <;> cases ends y x <;> rfl
theorem same_norm {a x : List UInt8} (h : norm a = some x) (b : List UInt8) : same a b = same x b := by
  unfold same
  rw [h, nf_norm (norm_nf h)]
theorem same_self {a x : List UInt8} (h : norm a = some x) : same a x = true := by
  unfold same
  rw [h, nf_norm (norm_nf h)]
  simp
theorem same_none {a : List UInt8} (h : norm a = none) : same a a = false := by
  unfold same
  rw [h]
end Go.Proofs.YtfkfpanhbanljaaDoor.Phone
