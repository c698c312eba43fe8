import Derived.Lib.Strings
import Derived.Test.YtfkfpanhbanljaaGreatDoorLaidB
import Derived.Test.YtfkfpanhbanljaaGreatDoorSet30
/- A number's one form, in plain words: over lists of bytes, no program in sight. -/
namespace Go.Proofs.YtfkfpanhbanljaaGreatDoor.Phone

def isD (c : UInt8) : Bool := decide (48 ≤ c.toNat) && decide (c.toNat ≤ 57)
def isB (c : UInt8) : Bool := c == 32 || c == 45 || c == 46 || c == 47 || c == 40 || c == 41
def okB (t : List UInt8) : Bool := t.all fun c => isD c || isB c
def digits (t : List UInt8) : List UInt8 := t.filter isD
def trimL (s : List UInt8) : List UInt8 := s.dropWhile (· == 32)
def cutP : List UInt8 → Bool × List UInt8
  | [] => (false, [])
  | c :: t => if c = 43 then (true, t) else (false, c :: t)
/-- the form of digits, where a + stands ahead or not -/
def zz (plus : Bool) (d : List UInt8) : Bool × List UInt8 := if plus then (true, d) else if ([48, 48] : List UInt8).isPrefixOf d then (true, d.drop 2) else (false, d)
def fin2 (p : Bool × List UInt8) : Option (List UInt8) := if p.2.length < 3 ∨ 15 < p.2.length then none else some (if p.1 then 43 :: p.2 else p.2)
def norm (s : List UInt8) : Option (List UInt8) :=
  if okB (cutP (trimL s)).2 then fin2 (zz (cutP (trimL s)).1 (digits (cutP (trimL s)).2)) else none
/-! the document's way -/
structure Scan where
  d : List UInt8
  plus : Bool
  begun : Bool
def step (s : Scan) (c : UInt8) : Option Scan :=
  if isD c then some ⟨s.d ++ [c], s.plus, true⟩
  else if c = 43 ∧ s.begun = false then some ⟨s.d, true, true⟩
  else if isB c then (if c = 32 then some s else some ⟨s.d, s.plus, true⟩) else none
def scan : List UInt8 → Scan → Option Scan
  | [], s => some s
  | c :: t, s => match step s c with
    | none => none
    | some s' => scan t s'
theorem isD_not_plus : isD 43 = false := by decide
theorem isB_not_plus : isB 43 = false := by decide
theorem isD_blank : isD 32 = false := by decide
theorem scan_begun : ∀ (t d : List UInt8) (p : Bool), scan t ⟨d, p, true⟩ = if okB t then some ⟨d ++ digits t, p, true⟩ else none
  | [], d, p => by simp [scan, okB, digits]
  | c :: t, d, p => by
    have ih := scan_begun t
    unfold scan step
    by_cases hd : isD c = true
    · rw [if_pos hd]
      simp only [ih]
      simp [okB, digits, hd]
    · have hd2 : isD c = false := by simpa using hd
      rw [if_neg hd, if_neg (by simp)]
      by_cases hb : isB c = true
      · rw [if_pos hb]
        by_cases h32 : c = 32
        · rw [if_pos h32]
          simp only [ih]
          simp [okB, digits, hd2, hb]
        · rw [if_neg h32]
          simp only [ih]
          simp [okB, digits, hd2, hb]
      · rw [if_neg hb]
        have hb2 : isB c = false := by simpa using hb
        simp [okB, hd2, hb2]
theorem scan_all : ∀ s : List UInt8, (scan s ⟨[], false, false⟩).map (fun r => (r.d, r.plus)) = if okB (cutP (trimL s)).2 then some (digits (cutP (trimL s)).2, (cutP (trimL s)).1) else none
  | [] => by rfl
  | c :: t => by
    have ih := scan_all t
    by_cases h32 : c = 32
    · subst h32
      have e : trimL (32 :: t) = trimL t := rfl
      rw [e, ← ih]
      rfl
    · have e : trimL (c :: t) = c :: t := by
        unfold trimL
        rw [List.dropWhile_cons_of_neg (by simpa using h32)]
      rw [e]
      unfold scan step
      by_cases hp : c = 43
      · subst hp
        rw [if_neg (by decide), if_pos ⟨rfl, rfl⟩]
        simp only [scan_begun]
        have : cutP (43 :: t) = (true, t) := rfl
        rw [this]
        by_cases hk : okB t = true
        · simp [hk]
        · have : okB t = false := by simpa using hk
          simp [this]
      · have hc : cutP (c :: t) = (false, c :: t) := by simp [cutP, hp]
        rw [hc]
        by_cases hd : isD c = true
        · rw [if_pos hd]
          simp only [scan_begun]
          by_cases hk : okB t = true
          · have : okB (c :: t) = true := by unfold okB at *; simp [hd] at *; exact hk
            simp [hk, this, digits, hd]
          · have h2 : okB t = false := by simpa using hk
            have : okB (c :: t) = false := by unfold okB at *; rw [List.all_cons, h2, Bool.and_false]
            simp [h2, this]
        · have hd2 : isD c = false := by simpa using hd
          rw [if_neg hd, if_neg (fun h => hp h.1)]
          by_cases hb : isB c = true
          · rw [if_pos hb, if_neg h32]
            simp only [scan_begun]
            by_cases hk : okB t = true
            · have : okB (c :: t) = true := by unfold okB at *; simp [hb] at *; exact hk
              simp [hk, this, digits, hd2]
            · have h2 : okB t = false := by simpa using hk
              have : okB (c :: t) = false := by unfold okB at *; rw [List.all_cons, h2, Bool.and_false]
              simp [h2, this]
          · rw [if_neg hb]
            have hb2 : isB c = false := by simpa using hb
            have : okB (c :: t) = false := by simp [okB, hd2, hb2]
            simp [this]
theorem scan_snoc (t : List UInt8) (c : UInt8) : ∀ s, scan (t ++ [c]) s = (scan t s).bind fun r => step r c := by
  induction t with
  | nil =>
    intro s
    show scan [c] s = step s c
    unfold scan
    cases step s c <;> rfl
  | cons b t ih =>
    intro s
    rw [List.cons_append]
    unfold scan
    cases step s b with
    | none => rfl
    | some s' => exact ih s'
/-! the one form -/
def AllD (d : List UInt8) : Prop := ∀ c ∈ d, isD c = true
inductive NF : List UInt8 → Prop
  | plus (d : List UInt8) (h : AllD d) (h1 : 3 ≤ d.length) (h2 : d.length ≤ 15) : NF (43 :: d)
  | bare (d : List UInt8) (h : AllD d) (h1 : 3 ≤ d.length) (h2 : d.length ≤ 15) (h3 : ([48, 48] : List UInt8).isPrefixOf d = false) : NF d
theorem digits_all (t : List UInt8) : AllD (digits t) := fun c hc => (List.mem_filter.1 hc).2
theorem norm_nf {s x : List UInt8} (h : norm s = some x) : NF x := by
  unfold norm at h
  split at h
  · have hd := digits_all (cutP (trimL s)).2
    generalize digits (cutP (trimL s)).2 = d at *
    unfold zz at h
    cases hp : (cutP (trimL s)).1 with
    | true =>
      rw [hp] at h
      simp only [if_true, fin2] at h
      split at h
      · cases h
      · rename_i hl
        injection h with h
        subst h
        exact .plus d hd (by omega) (by omega)
    | false =>
      rw [hp] at h
      simp only [Bool.false_eq_true, if_false] at h
      cases hz : ([48, 48] : List UInt8).isPrefixOf d with
      | true =>
        rw [hz] at h
        simp only [if_true, fin2] at h
        split at h
        · cases h
        · rename_i hl
          injection h with h
          subst h
          exact .plus _ (fun c hc => hd c (List.mem_of_mem_drop hc)) (by omega) (by omega)
      | false =>
        rw [hz] at h
        simp only [Bool.false_eq_true, if_false, fin2] at h
        split at h
        · cases h
        · rename_i hl
          injection h with h
          subst h
          exact .bare d hd (by omega) (by omega) hz
  · cases h
theorem okB_digits {d : List UInt8} (h : AllD d) : okB d = true := by
  unfold okB
  rw [List.all_eq_true]
  intro c hc
  rw [h c hc]; rfl
theorem digits_self {d : List UInt8} (h : AllD d) : digits d = d := List.filter_eq_self.2 h
theorem head_digit {c : UInt8} (h : isD c = true) : c ≠ 32 ∧ c ≠ 43 := by
  constructor
  · rintro rfl; revert h; decide
  · rintro rfl; revert h; decide
def sep : List UInt8 := [32, 45, 46, 47, 40, 41]
theorem okB_sep : okB sep = true := by decide
theorem digits_sep : digits sep = [] := by decide
theorem okB_append (a b : List UInt8) : okB (a ++ b) = (okB a && okB b) := by simp [okB]
theorem digits_append (a b : List UInt8) : digits (a ++ b) = digits a ++ digits b := by simp [digits]
/-- digits, with what may stand between them somewhere -/
theorem norm_spread (p : Bool) (a b : List UInt8) (ha : AllD a) (hb : AllD b) (hne : p = true ∨ a ≠ []) (hl1 : 3 ≤ (a ++ b).length) (hl2 : (a ++ b).length ≤ 15) (hz : p = true ∨ ([48, 48] : List UInt8).isPrefixOf (a ++ b) = false) (m : List UInt8) (hm : okB m = true) (hm2 : digits m = []) :
    norm ((if p then 43 :: a else a) ++ (m ++ b)) = some (if p then 43 :: (a ++ b) else a ++ b) := by
  have hok : okB (a ++ (m ++ b)) = true := by rw [okB_append, okB_append, okB_digits ha, okB_digits hb, hm]; rfl
  have hdg : digits (a ++ (m ++ b)) = a ++ b := by rw [digits_append, digits_append, digits_self ha, digits_self hb, hm2]; rfl
  cases p with
  | true =>
    have e : trimL (43 :: a ++ (m ++ b)) = 43 :: (a ++ (m ++ b)) := rfl
    have e2 : cutP (43 :: (a ++ (m ++ b))) = (true, a ++ (m ++ b)) := rfl
    simp only [if_true]
    unfold norm
    rw [e, e2, hok, hdg]
    simp only [if_true, zz, fin2]
    rw [if_neg (by omega)]
  | false =>
    have hz' : ([48, 48] : List UInt8).isPrefixOf (a ++ b) = false := by rcases hz with h | h; cases h; exact h
    have hne' : a ≠ [] := by rcases hne with h | h; cases h; exact h
    cases a with
    | nil => exact absurd rfl hne'
    | cons c a =>
      obtain ⟨h1, h2⟩ := head_digit (ha c List.mem_cons_self)
      have e : trimL (c :: a ++ (m ++ b)) = c :: a ++ (m ++ b) := by
        unfold trimL
        rw [List.cons_append, List.dropWhile_cons_of_neg (by simpa using h1)]
      have e2 : cutP (c :: a ++ (m ++ b)) = (false, c :: a ++ (m ++ b)) := by
        rw [List.cons_append]
        simp [cutP, h2]
      simp only [Bool.false_eq_true, if_false]
      unfold norm
      rw [e, e2, hok, hdg]
      simp only [if_true, zz, hz', Bool.false_eq_true, if_false, fin2]
      rw [if_neg (by omega)]
theorem nf_norm {x : List UInt8} (h : NF x) : norm x = some x := by
  cases h with
  | plus d h h1 h2 =>
    have := norm_spread true d [] h (fun c hc => by cases hc) (.inl rfl) (by simpa using h1) (by simpa using h2) (.inl rfl) [] rfl rfl
    simpa using this
  | bare _ h h1 h2 h3 =>
    have := norm_spread false x [] h (fun c hc => by cases hc) (.inr (by intro e; rw [e] at h1; simp at h1)) (by simpa using h1) (by simpa using h2) (.inr (by simpa using h3)) [] rfl rfl
    simpa using this
theorem trimL_blank (s : List UInt8) : trimL (32 :: s) = trimL s := rfl
theorem norm_blank (s : List UInt8) : norm (32 :: s) = norm s := by unfold norm; rw [trimL_blank]
theorem nf_between {x : List UInt8} (h : NF x) {k : Nat} (hk : 1 ≤ k) (hkl : k ≤ x.length) : norm (32 :: (x.take k ++ sep ++ x.drop k)) = some x := by
  rw [norm_blank]
  cases h with
  | plus d h h1 h2 =>
    obtain ⟨j, rfl⟩ : ∃ j, k = j + 1 := ⟨k - 1, by omega⟩
    have := norm_spread true (d.take j) (d.drop j) (fun c hc => h c (List.mem_of_mem_take hc)) (fun c hc => h c (List.mem_of_mem_drop hc)) (.inl rfl) (by simpa using h1) (by simpa using h2) (.inl rfl) sep okB_sep digits_sep
    simpa using this
  | bare _ h h1 h2 h3 =>
    have := norm_spread false (x.take k) (x.drop k) (fun c hc => h c (List.mem_of_mem_take hc)) (fun c hc => h c (List.mem_of_mem_drop hc)) (.inr (by intro e; have := congrArg List.length e; rw [List.length_take] at this; simp only [List.length_nil] at this; omega)) (by simpa using h1) (by simpa using h2) (.inr (by simpa using h3)) sep okB_sep digits_sep
    simpa using this
theorem nf_length {x : List UInt8} (h : NF x) : 3 ≤ x.length ∧ x.length ≤ 16 := by
  cases h with
  | plus d h h1 h2 => simp; omega
  | bare _ h h1 h2 h3 => omega
/-! may two numbers be one? -/
def ends (long short : List UInt8) : Bool :=
  (long.head? == some 43) && !(short.head? == some 43) && decide (6 ≤ (short.dropWhile (· == 48)).length) && (short.dropWhile (· == 48)).isSuffixOf (long.drop 1)
def same (a b : List UInt8) : Bool :=
  match norm a, norm b with
  | some x, some y => x == y || ends x y || ends y x
  | _, _ => false
theorem same_comm (a b : List UInt8) : same a b = same b a := by
  unfold same
  cases norm a <;> cases norm b <;> try rfl
  rename_i x y
  have : (x == y) = (y == x) := by rw [Bool.eq_iff_iff, beq_iff_eq, beq_iff_eq]; exact ⟨Eq.symm, Eq.symm⟩
  show (x == y || ends x y || ends y x) = (y == x || ends y x || ends x y)
  rw [this]
  cases (y == x) <;> cases ends x y <;> cases ends y x <;> rfl
theorem same_norm {a x : List UInt8} (h : norm a = some x) (b : List UInt8) : same a b = same x b := by
  unfold same
  rw [h, nf_norm (norm_nf h)]
theorem same_self {a x : List UInt8} (h : norm a = some x) : same a x = true := by
  unfold same
  rw [h, nf_norm (norm_nf h)]
  simp
theorem same_none {a : List UInt8} (h : norm a = none) : same a a = false := by
  unfold same
  rw [h]
end Go.Proofs.YtfkfpanhbanljaaGreatDoor.Phone

/- The walks of layer 46: the program's. -/
namespace Go.Proofs.YtfkfpanhbanljaaGreatDoor.Phone
open Go.RowKit Go.Proofs.YtfkfpanhbanljaaGreatDoor.Mem Go.Proofs.YtfkfpanhbanljaaGreatDoor.Card Go.Proofs.YtfkfpanhbanljaaGreatDoor.Laid Go.Proofs.YtfkfpanhbanljaaGreatDoor.Fold

theorem trimPrefix_plus (t : List UInt8) : Lib.trimPrefix t [43] = (cutP t).2 ∧ Lib.hasPrefix t [43] = (cutP t).1 := by
  unfold Lib.trimPrefix Lib.hasPrefix
  cases t with
  | nil => exact ⟨rfl, rfl⟩
  | cons c t =>
    by_cases h : c = 43
    · subst h; exact ⟨rfl, rfl⟩
    · have h1 : ((43 : UInt8) == c) = false := by simpa using fun e => h e.symm
      have h2 : ([43] : List UInt8).isPrefixOf (c :: t) = false := by simp [List.isPrefixOf, h1]
      rw [h2]
      simp [cutP, h]
theorem between_index (c : UInt8) : decide (0 ≤ Lib.indexByte [32, 45, 46, 47, 40, 41] c) = isB c := by
  have : ∀ n : Fin 256, decide (0 ≤ Lib.indexByte [32, 45, 46, 47, 40, 41] (UInt8.ofNat n.val)) = isB (UInt8.ofNat n.val) := by decide +kernel
  have h := this ⟨c.toNat, UInt8.toNat_lt c⟩
  simpa using h
def nums (l : List UInt8) : List Nat := l.map UInt8.toNat
theorem strB_nums (l : List UInt8) : strB (nums l) = bOf l := by
  unfold strB nums bOf
  simp [List.map_map, Function.comp_def]
theorem nums_append (a b : List UInt8) : nums (a ++ b) = nums a ++ nums b := by simp [nums]
theorem digits_snoc (t : List UInt8) (c : UInt8) : digits (t ++ [c]) = digits t ++ if isD c then [c] else [] := by
  unfold digits
  rw [List.filter_append]
  cases h : isD c <;> simp [h]
theorem okB_snoc (t : List UInt8) (c : UInt8) : okB (t ++ [c]) = (okB t && (isD c || isB c)) := by simp [okB]
theorem take_bOf (t : List UInt8) (k : Nat) (h : k < (bOf t).size) : t.take (k + 1) = t.take k ++ [(bOf t)[k]] := by
  have h2 : k < t.length := by rw [bOf_size] at h; exact h
  rw [List.take_succ_eq_append_getElem h2]; rfl
theorem one_extract (t : List UInt8) (k : Nat) (h : k < (bOf t).size) : (bOf t).extract k (k + 1) = ⟨#[(bOf t)[k]]⟩ := by
  have h2 : k < t.length := by rw [bOf_size] at h; exact h
  apply ByteArray.ext
  apply Array.ext
  · simp [bOf]; omega
  · intro i h3 h4
    simp [bOf] at h3 h4 ⊢
    obtain rfl : i = 0 := by omega
    rfl
/-- what bare gives -/
def BareRes (s : List UInt8) (w : World) (e : Ending) (w' : World) : Prop :=
  (if okB (cutP (trimL s)).2 then e = .returned (.tuple #[.string (bOf (digits (cutP (trimL s)).2)), .bool (cutP (trimL s)).1, .bool true]) else e = .returned (.tuple #[.string ⟨#[]⟩, .bool false, .bool false])) ∧ Below w.heap.size w w'
theorem bare_any (s : ByteArray) (w : World) (hs : s.size ≤ 140737488355000) : Calls Tryz.prog 98 #[.string s] w (BareRes s.data.toList w) := by
  have CT := trimLeft_one s 32 (by decide) w
  have hT : (Lib.trimLeftB s.data.toList 32) = trimL s.data.toList := rfl
  rw [hT] at CT
  have CT : Calls Tryz.prog 100 #[.string s, .string ⟨#[32]⟩] w fun e w' => e = .returned (.string (bOf (trimL s.data.toList))) ∧ w' = w := CT
  have CT := kept CT
  obtain ⟨e1, e2⟩ := trimPrefix_plus (trimL s.data.toList)
  have CP := cutPrefix_any (bOf (trimL s.data.toList)) ⟨#[43]⟩ w
  rw [data_bOf, show (⟨#[43]⟩ : ByteArray).data.toList = [43] from rfl, e1, e2] at CP
  have CP : Calls Tryz.prog 99 #[.string (bOf (trimL s.data.toList)), .string ⟨#[43]⟩] w fun e w' => e = .returned (.tuple #[.string (bOf (cutP (trimL s.data.toList)).2), .bool (cutP (trimL s.data.toList)).1]) ∧ w' = w := CP
  have CP := kept CP
  have hlen : (cutP (trimL s.data.toList)).2.length ≤ s.size := by
    have h1 : (trimL s.data.toList).length ≤ s.data.toList.length := by
      unfold trimL
      exact (List.dropWhile_sublist _).length_le
    have h2 : ∀ t : List UInt8, (cutP t).2.length ≤ t.length := by
      intro t
      cases t with
      | nil => simp [cutP]
      | cons c t => by_cases h : c = 43 <;> simp [cutP, h]
    have h3 := h2 (trimL s.data.toList)
    simp at h1
    omega
  have HR : Kept (∀ e w', BareRes s.data.toList w e w' ↔ (if okB (cutP (trimL s.data.toList)).2 then e = .returned (.tuple #[.string (bOf (digits (cutP (trimL s.data.toList)).2)), .bool (cutP (trimL s.data.toList)).1, .bool true]) else e = .returned (.tuple #[.string ⟨#[]⟩, .bool false, .bool false])) ∧ Below w.heap.size w w') := ⟨fun _ _ => Iff.rfl⟩
  clear e1 e2 hT
  generalize (cutP (trimL s.data.toList)).1 = p at *
  generalize (cutP (trimL s.data.toList)).2 = t at *
  have HTS := kept (bOf_size t)
  have htz : (bOf t).size ≤ 140737488355000 := by rw [bOf_size]; omega
  go_enter Tryz.func98, Tryz.ntmps98
  go_wp2_with fail
  refine CT.out.mono ?_
  rintro e w1 ⟨rfl, hw1⟩
  subst hw1
  go_wp2_with fail
  refine CP.out.mono ?_
  rintro e w2 ⟨rfl, hw2⟩
  subst hw2
  clear CT CP
  go_wp2_with fail
  go_loopw [6, 17] (fun d i wr => ∃ (k : Nat) (A : Option Addr) (c : Nat), k ≤ (bOf t).size ∧ i = .int .i64 (k : Int) ∧ Kept (okB (t.take k) = true) ∧ d = .slice A (digits (t.take k)).length c ∧ Own wr w2.heap.size 5 (.slice A (digits (t.take k)).length c) (BB (nums (digits (t.take k)))) ∧ Below w2.heap.size w2 wr) (fun _ i _ => (bOf t).size - (intOf i).toNat)
  case atStart => exact ⟨0, none, 0, Nat.zero_le _, rfl, ⟨rfl⟩, rfl, Own.nilv _ _ _, Below.refl _ _⟩
  case round =>
    obtain ⟨k, A, c, hk, rfl, hok, rfl, hown, hbw⟩ := hrel
    by_cases hlt : k < (bOf t).size
    · have htk := take_bOf t k hlt
      have hex := one_extract t k hlt
      have hdl : (digits (t.take k)).length ≤ k := Nat.le_trans (List.length_filter_le _ _) (List.length_take_le _ _)
      have hds := digits_snoc (t.take k) (bOf t)[k]
      have hos := okB_snoc (t.take k) (bOf t)[k]
      rw [← htk] at hds hos
      have hbi := between_index (bOf t)[k]
      obtain ⟨y, hy⟩ : ∃ y, (bOf t)[k] = y := ⟨_, rfl⟩
      rw [hy] at hds hos hbi hex
      cases hD : isD y with
      | true =>
        have hD2 : 48 ≤ y.toNat ∧ y.toNat ≤ 57 := by simpa [isD] using hD
        have h1 : (48 : Int) ≤ (y.toNat : Int) := by omega
        have h2 : (y.toNat : Int) ≤ 57 := by omega
        rw [hD] at hds hos
        have HO : Kept (okB (t.take (k + 1)) = true) := ⟨by rw [hos, hok.out]; rfl⟩
        have HD : Kept (digits (t.take (k + 1)) = digits (t.take k) ++ [y]) := ⟨hds⟩
        have ha := hown.alloc (.cells #[.int .u8 (y.toNat : Int)] 5)
        have hrn := rd_one wr y.toNat
        have hln : (nums (digits (t.take k))).length = (digits (t.take k)).length := by simp [nums]
        have hsz : (nums (digits (t.take k))).length + [y.toNat].length ≤ 140737488355328 := by rw [hln]; simp; rw [HTS.out] at hlt; omega
        have hbase : w2.heap.size ≤ (wr.alloc (.cells #[.int .u8 (y.toNat : Int)] 5)).heap.size := by have := hbw.size; simp; omega
        have hba := hbw.alloc hbw.size (.cells #[.int .u8 (y.toNat : Int)] 5)
        clear hds hos hD hD2 hbi hex hok htk
        generalize digits (t.take k) = ds at *
        go_wp2_with (at_builtin; refine wpl_app rfl (.tmp 30) (.tmp 32) rfl w2.heap.size _ (nums ds) rfl ha _ _ _ _ [y.toNat] rfl rfl hrn hsz hbase ?_; intro A3 c3 w3 r3 hr3 hown3 hg3 hb3)
        obtain rfl : r3 = nums (ds ++ [y]) := by rw [hr3.out, nums_append]; rfl
        have hl3 : (nums (ds ++ [y])).length = (ds ++ [y]).length := by simp [nums]
        rw [hl3] at hown3 ⊢
        have hb9 := hba.trans hb3
        clear hr3 hg3 ha hrn hba hb3 hl3 hln hown
        go_wp2_with fail
        go_roundw
        case rel => exact ⟨k + 1, A3, c3, by omega, by go_num, HO, by rw [HD.out], by rw [HD.out]; exact hown3, hb9⟩
        case measure => simp [intOf]; omega
      | false =>
        have hD2 : ¬ (48 ≤ y.toNat ∧ y.toNat ≤ 57) := by intro h; rw [show isD y = true by simpa [isD] using h] at hD; cases hD
        rw [hD] at hds hos
        have CB := contains_one ⟨#[32, 45, 46, 47, 40, 41]⟩ y
        rw [show (⟨#[32, 45, 46, 47, 40, 41]⟩ : ByteArray).data.toList = [32, 45, 46, 47, 40, 41] from rfl, hbi] at CB
        have CB := kept CB
        have hdig : Kept (digits (t.take (k + 1)) = digits (t.take k)) := ⟨by rw [hds]; simp⟩
        have HOS := kept hos
        have hkk : (0 : Int) ≤ (k : Int) + 1 := by omega
        have hkl : (k : Int) + 1 ≤ ((bOf t).size : Int) := by omega
        have hks : k + 1 ≤ (bOf t).size := by omega
        rcases (show y.toNat < 48 ∨ 57 < y.toNat by omega) with hlo | hhi
        · have h1 : ¬ (48 : Int) ≤ (y.toNat : Int) := by omega
          clear hD2 hD hds hos hbi htk
          cases hb : isB y with
          | true =>
            rw [hb] at CB
            have HO : Kept (okB (t.take (k + 1)) = true) := ⟨by rw [HOS.out, hok.out, hb]; rfl⟩
            clear hb HOS hok
            go_wp2_with fail
            refine (CB.out _).mono ?_
            rintro e w3 ⟨rfl, hw3⟩
            subst hw3
            go_wp2_with fail
            go_roundw
            case rel => exact ⟨k + 1, A, c, by omega, by go_num, HO, by rw [hdig.out], by rw [hdig.out]; exact hown, hbw⟩
            case measure => simp [intOf]; omega
          | false =>
            rw [hb] at CB
            have HN : Kept (okB t = false) := ⟨by
              have h2 : okB (t.take (k + 1)) = false := by rw [HOS.out, hok.out, hb]; rfl
              have h3 : okB t = (okB (t.take (k + 1)) && okB (t.drop (k + 1))) := by rw [← okB_append, List.take_append_drop]
              rw [h3, h2]; rfl⟩
            clear hb HOS hok
            go_wp2_with fail
            refine (CB.out _).mono ?_
            rintro e w3 ⟨rfl, hw3⟩
            subst hw3
            go_wp2_with fail
            go_ret3
            exact (HR.out _ _).2 ⟨by rw [HN.out]; rfl, hbw⟩
        · have h1 : (48 : Int) ≤ (y.toNat : Int) := by omega
          have h2 : ¬ (y.toNat : Int) ≤ 57 := by omega
          clear hD2 hD hds hos hbi htk
          cases hb : isB y with
          | true =>
            rw [hb] at CB
            have HO : Kept (okB (t.take (k + 1)) = true) := ⟨by rw [HOS.out, hok.out, hb]; rfl⟩
            clear hb HOS hok
            go_wp2_with fail
            refine (CB.out _).mono ?_
            rintro e w3 ⟨rfl, hw3⟩
            subst hw3
            go_wp2_with fail
            go_roundw
            case rel => exact ⟨k + 1, A, c, by omega, by go_num, HO, by rw [hdig.out], by rw [hdig.out]; exact hown, hbw⟩
            case measure => simp [intOf]; omega
          | false =>
            rw [hb] at CB
            have HN : Kept (okB t = false) := ⟨by
              have h2 : okB (t.take (k + 1)) = false := by rw [HOS.out, hok.out, hb]; rfl
              have h3 : okB t = (okB (t.take (k + 1)) && okB (t.drop (k + 1))) := by rw [← okB_append, List.take_append_drop]
              rw [h3, h2]; rfl⟩
            clear hb HOS hok
            go_wp2_with fail
            refine (CB.out _).mono ?_
            rintro e w3 ⟨rfl, hw3⟩
            subst hw3
            go_wp2_with fail
            go_ret3
            exact (HR.out _ _).2 ⟨by rw [HN.out]; rfl, hbw⟩
    · have htk : t.take k = t := List.take_of_length_le (by rw [HTS.out] at hlt; omega)
      rw [htk] at hown hok ⊢
      have hcs := run_str wr _ A (digits t).length c (nums (digits t)) (by simp [nums]) hown.rd
      rw [strB_nums] at hcs
      clear htk hown
      generalize digits t = ds at *
      go_wp2_with fail
      go_ret3
      exact (HR.out _ _).2 ⟨by rw [hok.out]; rfl, hbw⟩
end Go.Proofs.YtfkfpanhbanljaaGreatDoor.Phone

/- The walks of layer 46, continued: Norm, local, Same of the program. -/
namespace Go.Proofs.YtfkfpanhbanljaaGreatDoor.Phone
open Go.RowKit Go.Proofs.YtfkfpanhbanljaaGreatDoor.Mem Go.Proofs.YtfkfpanhbanljaaGreatDoor.Card Go.Proofs.YtfkfpanhbanljaaGreatDoor.Laid Go.Proofs.YtfkfpanhbanljaaGreatDoor.Fold

theorem below_ch {w w1 w2 : World} (h : Below w.heap.size w w1) (h2 : Below w1.heap.size w1 w2) : Below w.heap.size w w2 := h.trans (h2.mono h.size)
theorem zz_false (d : List UInt8) : Lib.trimPrefix d [48, 48] = (zz false d).2 ∧ Lib.hasPrefix d [48, 48] = (zz false d).1 := by
  unfold Lib.trimPrefix Lib.hasPrefix zz
  cases h : ([48, 48] : List UInt8).isPrefixOf d <;> simp
/-- what Norm gives -/
def normB (s : ByteArray) : ByteArray := bOf ((norm s.data.toList).getD [])
def normOk (s : ByteArray) : Bool := (norm s.data.toList).isSome
theorem normB_none {s : ByteArray} (h : norm s.data.toList = none) : normB s = ⟨#[]⟩ ∧ normOk s = false := by unfold normB normOk; rw [h]; exact ⟨rfl, rfl⟩
theorem normB_some {s : ByteArray} {x : List UInt8} (h : norm s.data.toList = some x) : normB s = bOf x ∧ normOk s = true := by unfold normB normOk; rw [h]; exact ⟨rfl, rfl⟩
theorem norm_tail {s : List UInt8} {p : Bool} {d : List UInt8} (h : okB (cutP (trimL s)).2 = true) (hz : zz (cutP (trimL s)).1 (digits (cutP (trimL s)).2) = (p, d)) : norm s = fin2 (p, d) := by unfold norm; rw [if_pos h, hz]
theorem norm_any (s : ByteArray) (w : World) (hs : s.size ≤ 140737488355000) : Calls Tryz.prog 80 #[.string s] w fun e w' => e = .returned (.tuple #[.string (normB s), .bool (normOk s)]) ∧ Below w.heap.size w w' := by
  have CB := kept (bare_any s w hs)
  have HT := kept (fun p d h hz => norm_tail (s := s.data.toList) (p := p) (d := d) h hz)
  have HN := kept (fun h => normB_none (s := s) h)
  have HS := kept (fun x h => normB_some (s := s) (x := x) h)
  have hdl : (digits (cutP (trimL s.data.toList)).2).length ≤ 140737488355000 := by
    have h1 : (trimL s.data.toList).length ≤ s.data.toList.length := (List.dropWhile_sublist _).length_le
    have h2 : ∀ t : List UInt8, (cutP t).2.length ≤ t.length := by
      intro t
      cases t with
      | nil => simp [cutP]
      | cons c t => by_cases h : c = 43 <;> simp [cutP, h]
    have h3 := h2 (trimL s.data.toList)
    have h4 : (digits (cutP (trimL s.data.toList)).2).length ≤ (cutP (trimL s.data.toList)).2.length := List.length_filter_le _ _
    simp at h1
    omega
  unfold BareRes at CB
  have HNO : Kept (okB (cutP (trimL s.data.toList)).2 = false → norm s.data.toList = none) := ⟨fun h => by unfold norm; rw [h]; rfl⟩
  cases hok : okB (cutP (trimL s.data.toList)).2 with
  | false =>
    rw [hok] at CB HNO
    have hn := HNO.out rfl
    have C0 := cutPrefix_any ⟨#[]⟩ ⟨#[48, 48]⟩
    have C0 : ∀ W : World, Calls Tryz.prog 99 #[.string ⟨#[]⟩, .string ⟨#[48, 48]⟩] W fun e w' => e = .returned (.tuple #[.string ⟨#[]⟩, .bool false]) ∧ w' = W := C0
    have C0 := kept C0
    obtain ⟨e1, e2⟩ := HN.out hn
    have E := kept (And.intro e1 e2)
    clear hok HT HN HS HNO hn e1 e2 hdl
    go_enter Tryz.func80, Tryz.ntmps80
    go_wp2_with fail
    refine CB.out.mono ?_
    rintro e w1 ⟨he, hb1⟩
    rw [if_neg (by decide)] at he
    subst he
    go_wp2_with fail
    refine (C0.out _).mono ?_
    rintro e w2 ⟨rfl, hw2⟩
    subst hw2
    go_wp2_with fail
    go_ret2
    exact ⟨by rw [E.out.1, E.out.2]; rfl, hb1⟩
  | true =>
    rw [hok] at CB HT
    clear HNO hok
    generalize digits (cutP (trimL s.data.toList)).2 = ds at *
    have hds := bOf_size ds
    cases hp : (cutP (trimL s.data.toList)).1 with
    | true =>
      rw [hp] at CB HT
      have hn := HT.out true ds rfl rfl
      clear hp HT
      by_cases h3 : ds.length < 3
      · have hnn : norm s.data.toList = none := by rw [hn]; unfold fin2; rw [if_pos (.inl h3)]
        obtain ⟨e1, e2⟩ := HN.out hnn
        have E := kept (And.intro e1 e2)
        clear hn hnn HN HS e1 e2
        go_enter Tryz.func80, Tryz.ntmps80
        go_wp2_with fail
        refine CB.out.mono ?_
        rintro e w1 ⟨he, hb1⟩
        rw [if_pos trivial] at he
        subst he
        go_wp2_with fail
        go_ret2
        exact ⟨by rw [E.out.1, E.out.2]; rfl, hb1⟩
      · by_cases h15 : 15 < ds.length
        · have hnn : norm s.data.toList = none := by rw [hn]; unfold fin2; rw [if_pos (.inr h15)]
          obtain ⟨e1, e2⟩ := HN.out hnn
          have E := kept (And.intro e1 e2)
          clear hn hnn HN HS e1 e2
          go_enter Tryz.func80, Tryz.ntmps80
          go_wp2_with fail
          refine CB.out.mono ?_
          rintro e w1 ⟨he, hb1⟩
          rw [if_pos trivial] at he
          subst he
          go_wp2_with fail
          go_ret2
          exact ⟨by rw [E.out.1, E.out.2]; rfl, hb1⟩
        · have hnn : norm s.data.toList = some (43 :: ds) := by rw [hn]; unfold fin2; rw [if_neg (by simp only []; omega)]; rfl
          obtain ⟨e1, e2⟩ := HS.out _ hnn
          have E := kept (And.intro e1 e2)
          have hcz : ¬ 9223372036854775807 < (⟨#[43]⟩ : ByteArray).size + (bOf ds).size := by have : (⟨#[43]⟩ : ByteArray).size = 1 := rfl; omega
          have hca : Kept ((⟨#[43]⟩ : ByteArray) ++ bOf ds = bOf (43 :: ds)) := ⟨by
            have : (⟨#[43]⟩ : ByteArray) = bOf [43] := rfl
            rw [this, bOf_app]; rfl⟩
          clear hn hnn HN HS e1 e2
          go_enter Tryz.func80, Tryz.ntmps80
          go_wp2_with fail
          refine CB.out.mono ?_
          rintro e w1 ⟨he, hb1⟩
          rw [if_pos trivial] at he
          subst he
          go_wp2_with fail
          go_ret2
          exact ⟨by rw [E.out.1, E.out.2, ← hca.out]; rfl, hb1⟩
    | false =>
      rw [hp] at CB HT
      have C0 := cutPrefix_any (bOf ds) ⟨#[48, 48]⟩
      obtain ⟨z1, z2⟩ := zz_false ds
      rw [data_bOf, show (⟨#[48, 48]⟩ : ByteArray).data.toList = [48, 48] from rfl, z1, z2] at C0
      have C0 : ∀ W : World, Calls Tryz.prog 99 #[.string (bOf ds), .string ⟨#[48, 48]⟩] W fun e w' => e = .returned (.tuple #[.string (bOf (zz false ds).2), .bool (zz false ds).1]) ∧ w' = W := C0
      have hzl : (zz false ds).2.length ≤ ds.length := by unfold zz; cases h : ([48, 48] : List UInt8).isPrefixOf ds <;> simp
      obtain ⟨q, hq⟩ : ∃ q, (zz false ds).1 = q := ⟨_, rfl⟩
      obtain ⟨d2, hd2⟩ : ∃ d2, (zz false ds).2 = d2 := ⟨_, rfl⟩
      have hn := HT.out q d2 rfl (by rw [← hq, ← hd2])
      rw [hq, hd2] at C0
      rw [hd2] at hzl
      have C0 := kept C0
      have hds2 := bOf_size d2
      clear hp HT z1 z2 hq hd2
      by_cases h3 : d2.length < 3
      · have hnn : norm s.data.toList = none := by rw [hn]; unfold fin2; rw [if_pos (.inl h3)]
        obtain ⟨e1, e2⟩ := HN.out hnn
        have E := kept (And.intro e1 e2)
        clear hn hnn HN HS e1 e2
        go_enter Tryz.func80, Tryz.ntmps80
        go_wp2_with fail
        refine CB.out.mono ?_
        rintro e w1 ⟨he, hb1⟩
        rw [if_pos trivial] at he
        subst he
        go_wp2_with fail
        refine (C0.out _).mono ?_
        rintro e w2 ⟨rfl, hw2⟩
        subst hw2
        go_wp2_with fail
        go_ret2
        exact ⟨by rw [E.out.1, E.out.2]; rfl, hb1⟩
      · by_cases h15 : 15 < d2.length
        · have hnn : norm s.data.toList = none := by rw [hn]; unfold fin2; rw [if_pos (.inr h15)]
          obtain ⟨e1, e2⟩ := HN.out hnn
          have E := kept (And.intro e1 e2)
          clear hn hnn HN HS e1 e2
          go_enter Tryz.func80, Tryz.ntmps80
          go_wp2_with fail
          refine CB.out.mono ?_
          rintro e w1 ⟨he, hb1⟩
          rw [if_pos trivial] at he
          subst he
          go_wp2_with fail
          refine (C0.out _).mono ?_
          rintro e w2 ⟨rfl, hw2⟩
          subst hw2
          go_wp2_with fail
          go_ret2
          exact ⟨by rw [E.out.1, E.out.2]; rfl, hb1⟩
        · have hnn : norm s.data.toList = some (if q then 43 :: d2 else d2) := by rw [hn]; unfold fin2; rw [if_neg (by simp only []; omega)]
          obtain ⟨e1, e2⟩ := HS.out _ hnn
          have E := kept (And.intro e1 e2)
          have hcz : ¬ 9223372036854775807 < (⟨#[43]⟩ : ByteArray).size + (bOf d2).size := by have : (⟨#[43]⟩ : ByteArray).size = 1 := rfl; omega
          have hca : Kept ((⟨#[43]⟩ : ByteArray) ++ bOf d2 = bOf (43 :: d2)) := ⟨by
            have : (⟨#[43]⟩ : ByteArray) = bOf [43] := rfl
            rw [this, bOf_app]; rfl⟩
          clear hn hnn HN HS e1 e2
          cases q with
          | true =>
            go_enter Tryz.func80, Tryz.ntmps80
            go_wp2_with fail
            refine CB.out.mono ?_
            rintro e w1 ⟨he, hb1⟩
            rw [if_pos trivial] at he
            subst he
            go_wp2_with fail
            refine (C0.out _).mono ?_
            rintro e w2 ⟨rfl, hw2⟩
            subst hw2
            go_wp2_with fail
            go_ret2
            exact ⟨by rw [E.out.1, E.out.2, if_pos trivial, ← hca.out]; rfl, hb1⟩
          | false =>
            go_enter Tryz.func80, Tryz.ntmps80
            go_wp2_with fail
            refine CB.out.mono ?_
            rintro e w1 ⟨he, hb1⟩
            rw [if_pos trivial] at he
            subst he
            go_wp2_with fail
            refine (C0.out _).mono ?_
            rintro e w2 ⟨rfl, hw2⟩
            subst hw2
            go_wp2_with fail
            go_ret2
            exact ⟨by rw [E.out.1, E.out.2, if_neg (by decide)]; rfl, hb1⟩
end Go.Proofs.YtfkfpanhbanljaaGreatDoor.Phone
