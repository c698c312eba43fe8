import Derived.Test.YtfkfpanhbanljaaGreatDoorSet45
import Derived.Test.YtfkfpanhbanljaaGreatDoorSet6
/- The walks of layer 43, continued: Begins. -/
namespace Go.Proofs.YtfkfpanhbanljaaGreatDoor.Fold
open Go.RowKit Go.Proofs.YtfkfpanhbanljaaGreatDoor.Mem Go.Proofs.YtfkfpanhbanljaaGreatDoor.Card Go.Proofs.YtfkfpanhbanljaaGreatDoor.Laid
open Go.Lib hiding Kept

theorem below_chain {w w1 w2 : World} (h : Below w.heap.size w w1) (h2 : Below w1.heap.size w1 w2) : Below w.heap.size w w2 := h.trans (h2.mono h.size)
def beginsB (s h : ByteArray) : Bool := begins s.data.toList h.data.toList
theorem foldB_nil (s : ByteArray) : ((foldB s).toList == []) = (fold s.data.toList).isEmpty := by
  unfold foldB
  rw [bOf_toList]
  cases fold s.data.toList <;> rfl
theorem led_data (s : ByteArray) : ((⟨#[32]⟩ : ByteArray) ++ foldB s).data.toList = 32 :: fold s.data.toList := by
  have : (⟨#[32]⟩ : ByteArray) = bOf [32] := rfl
  unfold foldB
  rw [this, bOf_app, data_bOf]; rfl
theorem led_size (s : ByteArray) : ((⟨#[32]⟩ : ByteArray) ++ foldB s).size ≤ s.size + 1 := by
  have := foldB_size s
  have h1 : (⟨#[32]⟩ : ByteArray).size = 1 := rfl
  rw [ByteArray.size_append]
  omega
/-! the document's Begins -/
def eqAt (h l : List (List UInt8)) (j : Nat) : Bool := if j + 1 = h.length then (l.getD j []).take (h.getD j []).length == h.getD j [] else l.getD j [] == h.getD j []
def eqs (h l : List (List UInt8)) (k : Nat) : Bool := (List.range k).all (eqAt h l)
theorem eqs_zero (h l : List (List UInt8)) : eqs h l 0 = true := rfl
theorem eqs_succ (h l : List (List UInt8)) (k : Nat) : eqs h l (k + 1) = (eqs h l k && eqAt h l k) := by
  unfold eqs
  rw [List.range_succ, List.all_append]
  simp
theorem take_isPrefix : ∀ w v : List UInt8, (v.take w.length == w) = w.isPrefixOf v
  | [], v => by simp
  | c :: w, [] => by simp
  | c :: w, d :: v => by
    have ih := take_isPrefix w v
    simp only [List.length_cons, List.take_succ_cons, List.isPrefixOf]
    rw [← ih]
    by_cases h : d = c
    · subst h; simp
    · have h1 : (c == d) = false := by simpa using fun e => h e.symm
      simp [h1, h]
theorem eqs_cons (w v : List UInt8) (u : List UInt8) (h l : List (List UInt8)) (k : Nat) : eqs (w :: u :: h) (v :: l) (k + 1) = ((v == w) && eqs (u :: h) l k) := by
  have h0 : eqAt (w :: u :: h) (v :: l) 0 = (v == w) := by unfold eqAt; rw [if_neg (by simp)]; simp
  have h1 : (eqAt (w :: u :: h) (v :: l)) ∘ Nat.succ = eqAt (u :: h) l := by funext j; simp [eqAt]
  unfold eqs
  rw [List.range_succ_eq_map, List.all_cons, List.all_map, h0, h1]
theorem pre_eqs : ∀ (h l : List (List UInt8)), h ≠ [] → pre h l = (decide (h.length ≤ l.length) && eqs h l h.length)
  | [], _, hn => absurd rfl hn
  | [w], [], _ => by simp [pre]
  | w :: u :: h, [], _ => by simp [pre]
  | [w], v :: l, _ => by
    simp only [pre, ← take_isPrefix]
    simp [eqs, eqAt]
  | w :: u :: h, v :: l, _ => by
    have ih := pre_eqs (u :: h) l (by simp)
    simp only [pre]
    rw [ih]
    have e : (w :: u :: h).length = (u :: h).length + 1 := rfl
    rw [e, eqs_cons]
    have hd : decide ((u :: h).length + 1 ≤ (v :: l).length) = decide ((u :: h).length ≤ l.length) := decide_eq_decide.2 ⟨fun h => Nat.le_of_succ_le_succ h, fun h => Nat.succ_le_succ h⟩
    rw [hd]
    have hs : (w == v) = (v == w) := by rw [Bool.eq_iff_iff, beq_iff_eq, beq_iff_eq]; exact ⟨Eq.symm, Eq.symm⟩
    rw [hs]
    cases (v == w) <;> cases decide ((u :: h).length ≤ l.length) <;> rfl
theorem some_iff (h : List (List UInt8)) : ∀ l : List (List UInt8), some_ h l = true ↔ ∃ i, i ≤ l.length ∧ pre h (l.drop i) = true
  | [] => by simp [some_]
  | v :: l => by
    have ih := some_iff h l
    rw [some_, Bool.or_eq_true, ih]
    constructor
    · rintro (h1 | ⟨i, h1, h2⟩)
      · exact ⟨0, by simp, h1⟩
      · exact ⟨i + 1, by simp; omega, h2⟩
    · rintro ⟨i, h1, h2⟩
      cases i with
      | zero => exact .inl h2
      | succ i => exact .inr ⟨i, by simp at h1; omega, h2⟩
theorem bOf_extract (l : List UInt8) (k : Nat) : (bOf l).extract 0 k = bOf (l.take k) := by
  apply ByteArray.ext
  simp [bOf]
theorem wordsB_cell {w : World} {B : Nat} {A : Option Addr} {s : ByteArray} (h : Rd w B A (SB (wordsB s))) {k : Nat} (hk : k < (words s.data.toList).length) : ∃ b o, A = some ⟨b, o, none⟩ ∧ b < B ∧ w.cell? ⟨b, o + k, none⟩ = some (.string (bOf ((words s.data.toList).getD k []))) := by
  have := h.at_ (SB_get (wordsB s) k (by rw [wordsB_length]; exact hk))
  have e : (wordsB s).getD k ByteArray.empty = bOf ((words s.data.toList).getD k []) := by
    rw [wordsB_get (List.getElem?_eq_getElem hk)]
    simp [List.getD, hk]
  rwa [e] at this
end Go.Proofs.YtfkfpanhbanljaaGreatDoor.Fold

/- The laws of layer 43: FoldSays. -/
namespace Go.Proofs.YtfkfpanhbanljaaGreatDoor.Fold
open Go.RowKit Go.Proofs.YtfkfpanhbanljaaGreatDoor.Mem Go.Proofs.YtfkfpanhbanljaaGreatDoor.Card Go.Proofs.YtfkfpanhbanljaaGreatDoor.Laid
open Go.Lib hiding Kept

def exS : ByteArray := ⟨#[32, 32, 65, 110, 110, 45, 77, 97, 114, 105, 101, 32, 79, 39, 78, 101, 105, 108]⟩
def exF : ByteArray := ⟨#[97, 110, 110, 32, 109, 97, 114, 105, 101, 32, 111, 32, 110, 101, 105, 108]⟩
def exA : ByteArray := ⟨#[109, 97, 114, 105, 101, 32, 111, 32, 110]⟩
def exB : ByteArray := ⟨#[97, 114, 105, 101]⟩
theorem exs_fold : foldB exS = exF := by
  show bOf (fold exS.data.toList) = exF
  have : fold exS.data.toList = exF.data.toList := by decide +kernel
  rw [this, bOf_data]
theorem exs_a : beginsB exS exA = true := by decide +kernel
theorem exs_b : beginsB exS exB = false := by decide +kernel
end Go.Proofs.YtfkfpanhbanljaaGreatDoor.Fold

/- The laws of layer 43, continued: FoldOrders. -/
namespace Go.Proofs.YtfkfpanhbanljaaGreatDoor.Fold
open Go.RowKit Go.Proofs.YtfkfpanhbanljaaGreatDoor.Mem Go.Proofs.YtfkfpanhbanljaaGreatDoor.Card Go.Proofs.YtfkfpanhbanljaaGreatDoor.Laid
open Go.Lib hiding Kept

theorem less_asymm : ∀ x y : List UInt8, Op.bytesLess x y = true → Op.bytesLess y x = false
  | _, [], h => by simp [Op.bytesLess] at h
  | [], _ :: _, _ => rfl
  | a :: x, b :: y, h => by
    have ih := less_asymm x y
    simp only [Op.bytesLess, Bool.or_eq_true, decide_eq_true_eq, Bool.and_eq_true, beq_iff_eq] at h
    simp only [Op.bytesLess]
    rcases h with h | ⟨h1, h2⟩
    · have h1 : ¬ b < a := by rw [UInt8.lt_iff_toNat_lt] at h ⊢; omega
      have h2 : (b == a) = false := by rw [beq_eq_false_iff_ne]; intro e; subst e; exact UInt8.lt_irrefl b h
      simp [h1, h2]
    · subst h1
      simp [ih h2, UInt8.lt_irrefl]
theorem less_total : ∀ x y : List UInt8, Op.bytesLess x y = false → Op.bytesLess y x = false → x = y
  | [], [], _, _ => rfl
  | [], _ :: _, h, _ => by simp [Op.bytesLess] at h
  | _ :: _, [], _, h => by simp [Op.bytesLess] at h
  | a :: x, b :: y, h, h2 => by
    simp only [Op.bytesLess, Bool.or_eq_false_iff, decide_eq_false_iff_not, Bool.and_eq_false_iff, beq_eq_false_iff_ne] at h h2
    have e : a = b := by
      apply UInt8.toNat_inj.1
      have h3 := h.1
      have h4 := h2.1
      rw [UInt8.lt_iff_toNat_lt] at h3 h4
      omega
    subst e
    have h3 : Op.bytesLess x y = false := by rcases h.2 with h3 | h3; exact absurd rfl h3; exact h3
    have h4 : Op.bytesLess y x = false := by rcases h2.2 with h4 | h4; exact absurd rfl h4; exact h4
    rw [less_total x y h3 h4]
theorem less_trans : ∀ x y z : List UInt8, Op.bytesLess x y = true → Op.bytesLess y z = true → Op.bytesLess x z = true
  | _, [], _, h, _ => by simp [Op.bytesLess] at h
  | _, _ :: _, [], _, h => by simp [Op.bytesLess] at h
  | [], _ :: _, _ :: _, _, _ => rfl
  | a :: x, b :: y, c :: z, h, h2 => by
    have ih := less_trans x y z
    simp only [Op.bytesLess, Bool.or_eq_true, decide_eq_true_eq, Bool.and_eq_true, beq_iff_eq] at h h2 ⊢
    rcases h with h | ⟨rfl, h⟩
    · rcases h2 with h2 | ⟨rfl, h2⟩
      · left; rw [UInt8.lt_iff_toNat_lt] at *; omega
      · exact .inl h
    · rcases h2 with h2 | ⟨rfl, h2⟩
      · exact .inl h2
      · exact .inr ⟨rfl, ih h h2⟩
theorem toList_inj {a b : ByteArray} (h : a.toList = b.toList) : a = b := by
  have := str_beq a b
  rw [h] at this
  simp at this
  exact this
theorem cmpB_cases (a b : ByteArray) : (cmpB a b = -1 ∧ Op.bytesLess a.toList b.toList = true) ∨ (cmpB a b = 0 ∧ a = b) ∨ (cmpB a b = 1 ∧ Op.bytesLess b.toList a.toList = true) := by
  cases h : Op.bytesLess a.toList b.toList with
  | true => exact .inl ⟨cmpB_lt h, rfl⟩
  | false =>
    right
    cases h2 : (a.toList == b.toList) with
    | true => exact .inl ⟨cmpB_eq h h2, toList_inj (beq_iff_eq.1 h2)⟩
    | false =>
      refine .inr ⟨cmpB_gt h h2, ?_⟩
      cases h3 : Op.bytesLess b.toList a.toList with
      | true => rfl
      | false => rw [less_total _ _ h h3] at h2; simp at h2
theorem cmpB_self (a : ByteArray) : cmpB a a = 0 := cmpB_eq (bytesLess_irrefl _) (by simp)
theorem cmpB_neg (a b : ByteArray) : cmpB b a = - cmpB a b := by
  rcases cmpB_cases a b with ⟨h, h2⟩ | ⟨h, rfl⟩ | ⟨h, h2⟩
  · rw [h]
    have h3 := less_asymm _ _ h2
    have h4 : (b.toList == a.toList) = false := by
      rw [beq_eq_false_iff_ne]
      intro e
      rw [e, bytesLess_irrefl] at h2
      cases h2
    rw [cmpB_gt h3 h4]; rfl
  · rw [h]; rfl
  · rw [h, cmpB_lt h2]
theorem cmpB_zero {a b : ByteArray} (h : cmpB a b = 0) : a = b := by
  rcases cmpB_cases a b with ⟨h1, _⟩ | ⟨_, h2⟩ | ⟨h1, _⟩
  · omega
  · exact h2
  · omega
theorem cmpB_trans {a b c : ByteArray} (h : cmpB a b = -1) (h2 : cmpB b c = -1) : cmpB a c = -1 := by
  rcases cmpB_cases a b with ⟨_, h3⟩ | ⟨h1, _⟩ | ⟨h1, _⟩
  · rcases cmpB_cases b c with ⟨_, h4⟩ | ⟨h1, _⟩ | ⟨h1, _⟩
    · exact cmpB_lt (less_trans _ _ _ h3 h4)
    · omega
    · omega
  · omega
  · omega
theorem cmpB_range (a b : ByteArray) : cmpB a b = -1 ∨ cmpB a b = 0 ∨ cmpB a b = 1 := by
  rcases cmpB_cases a b with ⟨h, _⟩ | ⟨h, _⟩ | ⟨h, _⟩
  · exact .inl h
  · exact .inr (.inl h)
  · exact .inr (.inr h)
theorem cmpF_neg (a b : ByteArray) : cmpF b a = - cmpF a b := by
  unfold cmpF or2
  rw [cmpB_neg (foldB a) (foldB b), cmpB_neg a b]
  by_cases h : cmpB (foldB a) (foldB b) = 0
  · rw [if_pos h, if_pos (by omega)]
  · rw [if_neg h, if_neg (by omega)]
theorem cmpF_range (a b : ByteArray) : cmpF a b = -1 ∨ cmpF a b = 0 ∨ cmpF a b = 1 := by
  unfold cmpF or2
  by_cases h : cmpB (foldB a) (foldB b) = 0
  · rw [if_pos h]; exact cmpB_range a b
  · rw [if_neg h]; exact cmpB_range _ _
theorem cmpF_zero {a b : ByteArray} : cmpF a b = 0 ↔ a = b := by
  constructor
  · unfold cmpF or2
    by_cases h : cmpB (foldB a) (foldB b) = 0
    · rw [if_pos h]; exact cmpB_zero
    · rw [if_neg h]; exact fun h2 => absurd h2 h
  · rintro rfl
    unfold cmpF or2
    rw [cmpB_self, cmpB_self]; rfl
theorem cmpF_trans {a b c : ByteArray} (h : cmpF a b = -1) (h2 : cmpF b c = -1) : cmpF a c = -1 := by
  unfold cmpF or2 at *
  by_cases h3 : cmpB (foldB a) (foldB b) = 0
  · have e := cmpB_zero h3
    rw [if_pos h3] at h
    rw [← e] at h2
    by_cases h4 : cmpB (foldB a) (foldB c) = 0
    · rw [if_pos h4] at h2 ⊢; exact cmpB_trans h h2
    · rw [if_neg h4] at h2 ⊢; exact h2
  · rw [if_neg h3] at h
    by_cases h4 : cmpB (foldB b) (foldB c) = 0
    · have e := cmpB_zero h4
      rw [← e, if_neg h3]; exact h
    · rw [if_neg h4] at h2
      have := cmpB_trans h h2
      rw [this]; rfl
theorem foldB_fold (a : ByteArray) : foldB (foldB a) = foldB a := by
  unfold foldB
  rw [data_bOf, fold_fold]
theorem cmpF_fold {a b : ByteArray} (h : foldB b ≠ foldB a) : cmpF (foldB a) (foldB b) = cmpF a b := by
  unfold cmpF or2
  rw [foldB_fold, foldB_fold]
  have : ¬ cmpB (foldB a) (foldB b) = 0 := fun e => h (cmpB_zero e).symm
  rw [if_neg this, if_neg this]
end Go.Proofs.YtfkfpanhbanljaaGreatDoor.Fold
