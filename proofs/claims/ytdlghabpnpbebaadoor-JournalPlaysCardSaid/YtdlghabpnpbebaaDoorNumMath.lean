/- Plain mathematics of layer 3 (num): a number's bytes, written and read. No program in sight. -/
import Derived.Test.YtdlghabpnpbebaaDoorByteMath
import Derived.Test.YtdlghabpnpbebaaDoorMem
namespace Go.Proofs.YtdlghabpnpbebaaDoor.Num
open Go.Proofs.YtdlghabpnpbebaaDoor.Shift Go.Proofs.YtdlghabpnpbebaaDoor.Mem

def hiB (v : Nat) : Nat → List Nat
  | 0 => []
  | j + 1 => byteN v j :: hiB v j
/-- a number's bytes: how many, and they, the highest first -/
def numB (v : Nat) : List Nat := lenB v :: hiB v (lenB v)
def beN (l : List Nat) : Nat := l.foldl (fun v x => v * 256 + x) 0

theorem hiB_length (v k : Nat) : (hiB v k).length = k := by
  induction k with
  | zero => rfl
  | succ k ih => simp [hiB, ih]
theorem numB_length (v : Nat) : (numB v).length = 1 + lenB v := by simp [numB, hiB_length]; omega
theorem hiB_all (v k : Nat) : AllB (hiB v k) := by
  induction k with
  | zero => intro x hx; cases hx
  | succ k ih =>
    intro x hx
    rcases List.mem_cons.1 hx with rfl | h
    · exact byteN_lt _ _
    · exact ih x h
theorem numB_all (v : Nat) : AllB (numB v) := by
  intro x hx
  rcases List.mem_cons.1 hx with rfl | h
  · have := lenB_le v; omega
  · exact hiB_all _ _ x h
theorem foldl_be (l : List Nat) (a : Nat) : l.foldl (fun v x => v * 256 + x) a = a * 256 ^ l.length + beN l := by
  unfold beN
  induction l generalizing a with
  | nil => simp
  | cons x l ih =>
    rw [List.foldl_cons, List.foldl_cons, ih, ih (0 * 256 + x), List.length_cons, Nat.pow_succ]
    simp only [Nat.zero_mul, Nat.zero_add, Nat.add_mul]
    rw [Nat.mul_assoc, Nat.mul_comm 256]; omega
theorem beN_cons (x : Nat) (l : List Nat) : beN (x :: l) = x * 256 ^ l.length + beN l := by
  show (x :: l).foldl _ 0 = _
  rw [List.foldl_cons, foldl_be]; simp
theorem beN_lt (l : List Nat) (hl : AllB l) : beN l < 256 ^ l.length := by
  induction l with
  | nil => simp [beN]
  | cons x l ih =>
    have h1 := ih (fun y hy => hl y (List.mem_cons_of_mem _ hy))
    have h2 := hl x List.mem_cons_self
    rw [beN_cons, List.length_cons, Nat.pow_succ]
    have : (x + 1) * 256 ^ l.length ≤ 256 * 256 ^ l.length := Nat.mul_le_mul_right _ h2
    rw [Nat.add_mul] at this
    omega
theorem beN_snoc (l : List Nat) (x : Nat) : beN (l ++ [x]) = beN l * 256 + x := by unfold beN; rw [List.foldl_append]; rfl
theorem beN_hiB (v k : Nat) : beN (hiB v k) = v % 256 ^ k := by
  induction k with
  | zero => simp [hiB, beN, Nat.mod_one]
  | succ k ih => rw [hiB, beN_cons, ih, hiB_length, mod_pow_succ]
theorem beN_num {v : Nat} (hv : v < 18446744073709551616) : beN (hiB v (lenB v)) = v := by rw [beN_hiB]; exact Nat.mod_eq_of_lt (lt_pow_lenB hv)
theorem pow8 {k : Nat} (hk : k ≤ 8) : 256 ^ k ≤ 18446744073709551616 := by
  have := Nat.pow_le_pow_right (n := 256) (by decide) hk
  exact this
theorem beN_lt64 {l : List Nat} (hl : AllB l) (h8 : l.length ≤ 8) : beN l < 18446744073709551616 := Nat.lt_of_lt_of_le (beN_lt l hl) (pow8 h8)
/-- bytes of which the first is none that is 0 are just their number's bytes -/
theorem lenB_beN {l : List Nat} (hl : AllB l) (h8 : l.length ≤ 8) (h0 : ∀ x t, l = x :: t → 0 < x) : lenB (beN l) = l.length := by
  rcases l with _ | ⟨x, l⟩
  · rfl
  · have hx := h0 x l rfl
    have hlt := beN_lt64 hl h8
    have h1 := beN_lt _ hl
    have hge : 256 ^ l.length ≤ beN (x :: l) := by
      rw [beN_cons]
      have : 1 * 256 ^ l.length ≤ x * 256 ^ l.length := Nat.mul_le_mul_right _ hx
      omega
    have hpos : 0 < beN (x :: l) := Nat.lt_of_lt_of_le (Nat.pow_pos (by decide)) hge
    have h2 := lt_pow_lenB hlt
    have h3 := pow_lenB_le hpos
    rw [List.length_cons] at h1 ⊢
    have a1 : 256 ^ l.length < 256 ^ lenB (beN (x :: l)) := Nat.lt_of_le_of_lt hge h2
    have a2 : 256 ^ (lenB (beN (x :: l)) - 1) < 256 ^ (l.length + 1) := Nat.lt_of_le_of_lt h3 h1
    have b1 := (Nat.pow_lt_pow_iff_right (a := 256) (by decide)).1 a1
    have b2 := (Nat.pow_lt_pow_iff_right (a := 256) (by decide)).1 a2
    omega
theorem hiB_mod (v k m : Nat) (h : k ≤ m) : hiB (v % 256 ^ m) k = hiB v k := by
  induction k with
  | zero => rfl
  | succ k ih => rw [hiB, hiB, ih (by omega), byteN_mod (by omega)]
theorem hiB_beN {l : List Nat} (hl : AllB l) : hiB (beN l) l.length = l := by
  induction l with
  | nil => rfl
  | cons x l ih =>
    have hl' : AllB l := fun y hy => hl y (List.mem_cons_of_mem _ hy)
    have h1 := beN_lt l hl'
    have hx := hl x List.mem_cons_self
    rw [List.length_cons, hiB]
    have e1 : byteN (beN (x :: l)) l.length = x := by
      unfold byteN
      rw [beN_cons, Nat.mul_comm, Nat.mul_add_div (Nat.pow_pos (by decide)), Nat.div_eq_of_lt h1, Nat.add_zero]
      exact Nat.mod_eq_of_lt hx
    have e2 : hiB (beN (x :: l)) l.length = l := by
      rw [← hiB_mod _ _ _ (Nat.le_refl _)]
      have : beN (x :: l) % 256 ^ l.length = beN l := by rw [beN_cons, Nat.mul_comm, Nat.mul_add_mod, Nat.mod_eq_of_lt h1]
      rw [this, ih hl']
    rw [e1, e2]
/-! reading -/
/-- how a number is read at a place of bytes: it, where it ends, the error -/
def readV (b : List Nat) (k : Nat) : Nat := beN ((b.drop (k + 1)).take (b.getD k 0))
def badForm (b : List Nat) (k : Nat) : Bool := decide (8 < b.getD k 0) || (decide (0 < b.getD k 0) && (decide (k + 1 < b.length) && decide (b.getD (k + 1) 0 = 0)))
structure RdOut where
  v : Nat
  next : Nat
  err : Nat
def readAt (b : List Nat) (k : Nat) : RdOut :=
  if b.length < k then ⟨0, 0, 1⟩ else if k = b.length then ⟨0, 0, 2⟩ else if badForm b k then ⟨0, 0, 4⟩ else if b.length < k + 1 + b.getD k 0 then ⟨0, 0, 2⟩ else ⟨readV b k, k + 1 + b.getD k 0, 0⟩
def readNum (b : List Nat) (at_ : Int) : RdOut := if at_ < 0 then ⟨0, 0, 1⟩ else readAt b at_.toNat
theorem readNum_nat (b : List Nat) (k : Nat) : readNum b k = readAt b k := by unfold readNum; rw [if_neg (by omega)]; rfl
theorem getD_app (a b : List Nat) (k : Nat) (h : k < a.length) : (a ++ b).getD k 0 = a.getD k 0 := by
  simp [List.getD, List.getElem?_append_left h]
/-- what was written is read -/
theorem read_written {v : Nat} (hv : v < 18446744073709551616) (rest : List Nat) : readAt (numB v ++ rest) 0 = ⟨v, 1 + lenB v, 0⟩ := by
  have hl := lenB_le v
  have hlen : (numB v ++ rest).length = 1 + lenB v + rest.length := by rw [List.length_append, numB_length]
  have h0 : (numB v ++ rest).getD 0 0 = lenB v := rfl
  have hbad : badForm (numB v ++ rest) 0 = false := by
    unfold badForm
    rw [h0]
    by_cases hp : lenB v = 0
    · simp [hp]
    · obtain ⟨k, hk⟩ : ∃ k, lenB v = k + 1 := ⟨lenB v - 1, by omega⟩
      have h1 : (numB v ++ rest).getD (0 + 1) 0 = byteN v k := by
        unfold numB
        rw [hk]
        rfl
      rw [h1]
      have hv0 : 0 < v := by
        rcases Nat.eq_zero_or_pos v with e | e
        · rw [e, lenB_zero] at hk; omega
        · exact e
      have := byteN_top hv hv0
      rw [hk, Nat.add_sub_cancel] at this
      have n8 : ¬ 8 < lenB v := by omega
      have n0 : ¬ byteN v k = 0 := by omega
      simp [n8, n0]
  unfold readAt
  rw [if_neg (by omega), if_neg (by omega), hbad, h0, if_neg (by simp), if_neg (by omega)]
  have e : readV (numB v ++ rest) 0 = v := by
    unfold readV
    rw [h0]
    have : ((numB v ++ rest).drop (0 + 1)).take (lenB v) = hiB v (lenB v) := by
      show (hiB v (lenB v) ++ rest).take (lenB v) = _
      rw [List.take_append_of_le_length (by rw [hiB_length]; exact Nat.le_refl _)]
      exact List.take_of_length_le (by rw [hiB_length]; exact Nat.le_refl _)
    rw [this, beN_num hv]
  rw [e, Nat.zero_add]
/-- what is read stands there in the only form of the number -/
theorem read_back {b : List Nat} (hb : AllB b) {k : Nat} (h : (readAt b k).err = 0) :
    (readAt b k).next ≤ b.length ∧ k < (readAt b k).next ∧ (readAt b k).v < 18446744073709551616 ∧ numB (readAt b k).v = (b.drop k).take ((readAt b k).next - k) := by
  unfold readAt at h ⊢
  split at h
  · simp at h
  rw [if_neg (by assumption)]
  split at h
  · simp at h
  rw [if_neg (by assumption)]
  split at h
  · simp at h
  rw [if_neg (by assumption)]
  split at h
  · simp at h
  rename_i h1 h2 h3 h4
  rw [if_neg h4]
  have hk : k < b.length := by omega
  have hg : b.getD k 0 = b[k] := by simp [List.getD, hk]
  have hcut : AllB ((b.drop (k + 1)).take (b.getD k 0)) := fun x hx => hb x (List.mem_of_mem_drop (List.mem_of_mem_take hx))
  have hcl : ((b.drop (k + 1)).take (b.getD k 0)).length = b.getD k 0 := by rw [List.length_take, List.length_drop]; omega
  have h8 : b.getD k 0 ≤ 8 := by
    rcases Nat.lt_or_ge 8 (b.getD k 0) with h | h
    · exact absurd (by unfold badForm; rw [decide_eq_true h, Bool.true_or]) h3
    · exact h
  refine ⟨by show k + 1 + b.getD k 0 ≤ b.length; omega, by show k < k + 1 + b.getD k 0; omega, beN_lt64 hcut (by rw [hcl]; exact h8), ?_⟩
  show numB (readV b k) = (b.drop k).take (k + 1 + b.getD k 0 - k)
  have hlen : lenB (readV b k) = b.getD k 0 := by
    unfold readV
    rw [lenB_beN hcut (by rw [hcl]; exact h8), hcl]
    intro x t hxt
    have hn : 0 < b.getD k 0 := by rw [← hcl, hxt]; simp
    have hlt : k + 1 < b.length := by omega
    have hx : x = b.getD (k + 1) 0 := by
      have : ((b.drop (k + 1)).take (b.getD k 0))[0]? = some x := by rw [hxt]; rfl
      rw [List.getElem?_take, if_pos hn, List.getElem?_drop] at this
      simp only [Nat.add_zero] at this
      simp [List.getD, this]
    rcases Nat.eq_zero_or_pos x with e | e
    · exact absurd (by unfold badForm; rw [← hx, e, decide_eq_true hn, decide_eq_true hlt]; simp) h3
    · exact e
  unfold numB
  rw [hlen]
  have : hiB (readV b k) (b.getD k 0) = (b.drop (k + 1)).take (b.getD k 0) := by
    have e := hiB_beN hcut
    rw [hcl] at e
    exact e
  rw [this, show k + 1 + b.getD k 0 - k = b.getD k 0 + 1 from by omega, List.drop_eq_getElem_cons hk, List.take_succ_cons, ← hg]
/-- too few bytes are left of a number's bytes without the last ones -/
theorem read_cut {v : Nat} (hv : v < 18446744073709551616) (k : Nat) (hk : k < 1 + lenB v) : (readAt ((numB v).take k) 0).err = 2 := by
  have hl := lenB_le v
  have hlen : ((numB v).take k).length = k := by rw [List.length_take, numB_length]; omega
  unfold readAt
  rw [if_neg (by omega)]
  by_cases h0 : 0 = k
  · rw [if_pos (by omega)]
  · obtain ⟨j, rfl⟩ : ∃ j, k = j + 1 := ⟨k - 1, by omega⟩
    rw [if_neg (by omega)]
    have hg : ((numB v).take (j + 1)).getD 0 0 = lenB v := rfl
    have hbad : badForm ((numB v).take (j + 1)) 0 = false := by
      unfold badForm
      rw [hg, hlen]
      by_cases hj : 0 + 1 < j + 1
      · obtain ⟨m, hm⟩ : ∃ m, lenB v = m + 1 := ⟨lenB v - 1, by omega⟩
        obtain ⟨i, rfl⟩ : ∃ i, j = i + 1 := ⟨j - 1, by omega⟩
        have h1 : ((numB v).take (i + 1 + 1)).getD (0 + 1) 0 = byteN v m := by
          unfold numB
          rw [hm]
          rfl
        rw [h1]
        have n8 : ¬ 8 < lenB v := by omega
        have hv0 : 0 < v := by
          rcases Nat.eq_zero_or_pos v with e | e
          · rw [e, lenB_zero] at hm; omega
          · exact e
        have := byteN_top hv hv0
        rw [hm, Nat.add_sub_cancel] at this
        have n0 : ¬ byteN v m = 0 := by omega
        simp [n8, n0]
      · have : ¬ 8 < lenB v := by omega
        simp [this]
        omega
    rw [hbad, if_neg (by simp), hg, if_pos (by omega)]
/-! the order of bytes -/
def lessB : List Nat → List Nat → Bool
  | _, [] => false
  | [], _ :: _ => true
  | a :: x, b :: y => decide (a < b) || (decide (a = b) && lessB x y)
theorem lessB_be : ∀ (a b : List Nat), a.length = b.length → AllB a → AllB b → lessB a b = decide (beN a < beN b)
  | [], [], _, _, _ => rfl
  | x :: a, y :: b, hl, ha, hb => by
    have hl' : a.length = b.length := by simpa using hl
    have ha' : AllB a := fun z hz => ha z (List.mem_cons_of_mem _ hz)
    have hb' : AllB b := fun z hz => hb z (List.mem_cons_of_mem _ hz)
    have h1 := beN_lt a ha'
    have h2 := beN_lt b hb'
    rw [lessB, lessB_be a b hl' ha' hb', beN_cons, beN_cons, hl']
    rw [hl'] at h1
    rcases Nat.lt_trichotomy x y with h | h | h
    · have : (x + 1) * 256 ^ b.length ≤ y * 256 ^ b.length := Nat.mul_le_mul_right _ h
      rw [Nat.add_mul] at this
      have e1 : beN a + x * 256 ^ b.length < y * 256 ^ b.length + beN b := by omega
      simp [h, show x * 256 ^ b.length + beN a < y * 256 ^ b.length + beN b from by omega]
    · subst h
      simp
    · have : (y + 1) * 256 ^ b.length ≤ x * 256 ^ b.length := Nat.mul_le_mul_right _ h
      rw [Nat.add_mul] at this
      have n1 : ¬ x < y := by omega
      have n2 : ¬ x = y := by omega
      have n3 : ¬ x * 256 ^ b.length + beN a < y * 256 ^ b.length + beN b := by omega
      simp [n1, n2, n3]
theorem lenB_lt {v w : Nat} (hv : v < 18446744073709551616) (h : lenB v < lenB w) : v < w := by
  have h1 := lt_pow_lenB hv
  have hw : 0 < w := by
    rcases Nat.eq_zero_or_pos w with e | e
    · rw [e, lenB_zero] at h; omega
    · exact e
  have h2 := pow_lenB_le hw
  have h3 : 256 ^ lenB v ≤ 256 ^ (lenB w - 1) := Nat.pow_le_pow_right (by decide) (by omega)
  omega
/-- the bytes of two numbers stand in the order of the numbers -/
theorem lessB_num {v w : Nat} (hv : v < 18446744073709551616) (hw : w < 18446744073709551616) : lessB (numB v) (numB w) = decide (v < w) := by
  unfold numB
  rw [lessB]
  rcases Nat.lt_trichotomy (lenB v) (lenB w) with h | h | h
  · have := lenB_lt hv h
    simp [h, this]
  · rw [h, lessB_be _ _ (by rw [hiB_length, hiB_length]) (hiB_all _ _) (hiB_all _ _), beN_num hw]
    have e := beN_num hv
    rw [h] at e
    rw [e]
    simp
  · have := lenB_lt hw h
    have n1 : ¬ lenB v < lenB w := by omega
    have n2 : ¬ lenB v = lenB w := by omega
    have n3 : ¬ v < w := by omega
    simp [n1, n2, n3]
theorem numB_inj {v w : Nat} (hv : v < 18446744073709551616) (hw : w < 18446744073709551616) : numB v = numB w ↔ v = w := by
  constructor
  · intro h
    unfold numB at h
    injection h with h1 h2
    have e1 := beN_num hv
    have e2 := beN_num hw
    rw [h2, e2] at e1
    exact e1.symm
  · rintro rfl; rfl
end Go.Proofs.YtdlghabpnpbebaaDoor.Num
