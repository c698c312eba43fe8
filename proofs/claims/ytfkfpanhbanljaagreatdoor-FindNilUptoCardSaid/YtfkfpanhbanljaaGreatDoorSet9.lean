import Derived.Test.YtfkfpanhbanljaaGreatDoorCardCopy
import Derived.Test.YtfkfpanhbanljaaGreatDoorProg
import Derived.Test.YtfkfpanhbanljaaGreatDoorMem
import Derived.Outline
import Derived.Deep.QuietTactic
import Derived.BigQuiet
/- The walks of card.Line, of slices.IndexFunc beneath it, and of the reference's Line. -/
namespace Go.Proofs.YtfkfpanhbanljaaGreatDoor.Card
open Go.RowKit Go.Proofs.YtfkfpanhbanljaaGreatDoor.Mem

/-- the first line of a field -/
def isF (f : Nat) (x : LineM) : Bool := decide (x.f = f)
def zeroL : LineM := ⟨0, ⟨#[]⟩, none, [], 0⟩
theorem find_cases {α : Type} (p : α → Bool) : ∀ l : List α, (l.find? p = none ∧ ∀ (j : Nat) y, l[j]? = some y → p y = false) ∨
    (∃ k x, l[k]? = some x ∧ l.find? p = some x ∧ p x = true ∧ ∀ (j : Nat) y, j < k → l[j]? = some y → p y = false)
  | [] => .inl ⟨rfl, fun j y h => by simp at h⟩
  | z :: l => by
    cases hz : p z with
    | true => exact .inr ⟨0, z, rfl, by rw [List.find?_cons_of_pos hz], hz, fun j y hj => by omega⟩
    | false =>
      have hf : (z :: l).find? p = l.find? p := by rw [List.find?_cons_of_neg (by rw [hz]; decide)]
      rcases find_cases p l with ⟨h1, h2⟩ | ⟨k, x, h1, h2, h3, h4⟩
      · refine .inl ⟨by rw [hf, h1], fun j y hy => ?_⟩
        rcases j with _ | j
        · simp at hy; subst hy; exact hz
        · exact h2 j y (by simpa using hy)
      · refine .inr ⟨k + 1, x, by simpa using h1, by rw [hf, h2], h3, fun j y hj hy => ?_⟩
        rcases j with _ | j
        · simp at hy; subst hy; exact hz
        · exact h4 j y (by omega) (by simpa using hy)
/-- the line of a field, or an empty one -/
def lineOf (f : Nat) (ls : List LineM) : Option LineM := ls.find? (isF f)
/-- what card.Line gives: the line, its other texts copied -/
def GivesL (w : World) (o : Option LineM) (en : Ending) (w' : World) : Prop :=
  ∃ y : LineM, en = .returned (.tuple #[y.val, .bool o.isSome]) ∧ y.p = (o.getD zeroL).p ∧ y.f < 256 ∧ y.m.length ≤ 8796093022208 ∧ strE.Own w' w.heap.size 9 (.slice y.A y.m.length y.c) y.m ∧ Below w.heap.size w w'
end Go.Proofs.YtfkfpanhbanljaaGreatDoor.Card

/- []byte in this translation: append, string(b), the comparison of two; what a call gives back. -/
namespace Go.Proofs.YtfkfpanhbanljaaGreatDoor.Mem
open Go.RowKit

theorem u8_info : (Tryz.prog.info? 5).map (fun i => (i.zero, i.size, i.bytes)) = some (some (.int .u8 0), 1, 1) := by kernel_rfl
/-- a call gives bytes of its own, and turns nothing that was there -/
def Gives (w : World) (l : List Nat) (en : Ending) (w' : World) : Prop :=
  ∃ A c, en = .returned (.slice A l.length c) ∧ Own w' w.heap.size 5 (.slice A l.length c) (BB l) ∧ l.length ≤ c ∧ Below w.heap.size w w'
theorem wpl_app {w : World} {ops : Array Oper} {rest : List Oper} {o : Oper} {a : Act} {Q : Exit → Act → World → Prop} (hgd : o.guard = none) (s x : Operand)
    (ho : o.op = .call { callee := .builtin .append, args := #[s, x], argTypes := #[83, 83] })
    (base : Nat) (v : Value) (l : List Nat) (hs : a.eval s = v) (hown : Own w base 5 v (BB l))
    (B : Nat) (A : Option Addr) (m c : Nat) (news : List Nat) (hx : a.eval x = .slice A m c) (hm : m = news.length) (hr : Rd w B A (BB news))
    (hsz : l.length + news.length ≤ 140737488355328) (hbase : base ≤ w.heap.size)
    (h : ∀ A' c' w' r, Hid (r = l ++ news) → Own w' base 5 (.slice A' r.length c') (BB r) → w.grownBy w' v.ownBlock → Below base w w' → wpList Tryz.prog ops Q rest (a.put o.dst (.slice A' r.length c')) w') : wpList Tryz.prog ops Q (o :: rest) a w := by
  obtain ⟨i0, hi0, hz0, hz1, hz2⟩ := info_parts u8_info
  refine wpl_append_rd w hgd s x 83 ho base 5 i0 _ 1 Tryz.underlying83 hi0 hz0 hz1 hz2 rfl v (BB l) hs hown B A m c (BB news) hx (by rw [BB_length, hm]) hr (BB_one _) (by rw [BB_length, hm]; omega) (Nat.le_refl _) hbase ?_
  intro A' c' w' h1 h2 h3
  rw [BB_length, hm, ← BB_append] at h1
  rw [BB_length, hm]
  have := h A' c' w' (l ++ news) rfl (by rw [List.length_append]; exact h1) h2 h3
  rw [List.length_append] at this
  exact this
/-- the same inside a region that draws its order -/
theorem step_app {w : World} {ops : Array Oper} {o : Oper} {a : Act} {K : Act → World → Prop} {Q : Exit → Act → World → Prop} {E : Prop} (hgd : o.guard = none) (s x : Operand)
    (ho : o.op = .call { callee := .builtin .append, args := #[s, x], argTypes := #[83, 83] })
    (base : Nat) (v : Value) (l : List Nat) (hs : a.eval s = v) (hown : Own w base 5 v (BB l))
    (B : Nat) (A : Option Addr) (m c : Nat) (news : List Nat) (hx : a.eval x = .slice A m c) (hm : m = news.length) (hr : Rd w B A (BB news))
    (hsz : l.length + news.length ≤ 140737488355328) (hbase : base ≤ w.heap.size)
    (h : ∀ A' c' w' r, Hid (r = l ++ news) → Own w' base 5 (.slice A' r.length c') (BB r) → w.grownBy w' v.ownBlock → Below base w w' → K (a.put o.dst (.slice A' r.length c')) w') :
    if Region.wanted o (yielded ops a.tmps) = true then Oper.wp Tryz.prog o a w K Q else E := by
  have hw : Region.wanted o (yielded ops a.tmps) = true := by simp [Region.wanted, hgd]
  rw [if_pos hw]
  obtain ⟨i0, hi0, hz0, hz1, hz2⟩ := info_parts u8_info
  refine wp_append_rd w s x 83 ho base 5 i0 _ 1 Tryz.underlying83 hi0 hz0 hz1 hz2 rfl v (BB l) hs hown B A m c (BB news) hx (by rw [BB_length, hm]) hr (BB_one _) (by rw [BB_length, hm]; omega) (Nat.le_refl _) hbase ?_
  intro A' c' w' h1 h2 h3
  rw [BB_length, hm, ← BB_append] at h1
  rw [BB_length, hm]
  have := h A' c' w' (l ++ news) rfl (by rw [List.length_append]; exact h1) h2 h3
  rw [List.length_append] at this
  exact this
/-- the one cell of 'append(s, x)' -/
theorem rd_one (w : World) (x : Nat) : Rd (w.alloc (.cells #[.int .u8 (x : Int)] 5)) (w.heap.size + 1) (some ⟨w.heap.size, 0, none⟩) (BB [x]) := Rd.new w [.int .u8 (x : Int)] 5
theorem run_str (w : World) (B : Nat) (A : Option Addr) (n c : Nat) (l : List Nat) (hn : n = l.length) (h : Rd w B A (BB l)) :
    (convert 83 9 (.slice A n c)).run Tryz.prog w = .ok (.string (strB l)) w :=
  run_string w _ _ 5 B A n c l Tryz.underlying83 Tryz.underlying5 Tryz.underlying9 hn h
theorem str_eq {a b : List Nat} (ha : AllB a) (hb : AllB b) : ((strB a).toList == (strB b).toList) = decide (a = b) := by
  rw [ByteArray.toList_eq, ByteArray.toList_eq]
  by_cases h : a = b
  · subst h; simp
  · have : (strB a).data.toList ≠ (strB b).data.toList := fun e => h (map_inj a b ha hb (by simpa [strB] using e))
    rw [decide_eq_false h]
    exact beq_eq_false_iff_ne.2 this
end Go.Proofs.YtfkfpanhbanljaaGreatDoor.Mem

/- Texts of fields, fields' numbers: field.Text, field.Good and the document's. -/
namespace Go.Proofs.YtfkfpanhbanljaaGreatDoor.Card
open Go.RowKit Go.Proofs.YtfkfpanhbanljaaGreatDoor.Mem

/-- a byte that may stand in a text -/
def okB (b : UInt8) : Bool := decide (32 ≤ b.toNat ∧ b.toNat ≤ 126)
def textOk (s : ByteArray) : Bool := decide (s.size ≤ 60) && s.data.toList.all okB
def Upto (s : ByteArray) (k : Nat) : Prop := ∀ j b, j < k → s.data[j]? = some b → okB b = true
theorem upto_zero (s : ByteArray) : Upto s 0 := fun _ _ h => absurd h (Nat.not_lt_zero _)
theorem upto_step {s : ByteArray} {k : Nat} (hk : k < s.size) (h : Upto s k) (h1 : 32 ≤ s[k].toNat) (h2 : s[k].toNat ≤ 126) : Upto s (k + 1) := by
  intro j b hj hb
  by_cases e : j = k
  · subst e
    have : s.data[j]? = some s[j] := Array.getElem?_eq_getElem hk
    rw [this] at hb
    cases hb
    exact decide_eq_true ⟨h1, h2⟩
  · exact h j b (by omega) hb
theorem upto_full {s : ByteArray} {k : Nat} (hk : ¬ k < s.size) (h : Upto s k) : s.data.toList.all okB = true := by
  rw [List.all_eq_true]
  intro b hb
  obtain ⟨j, hj⟩ := List.mem_iff_getElem?.1 hb
  rw [Array.getElem?_toList] at hj
  have hlt := (Array.getElem?_eq_some_iff.1 hj).1
  have h4 : s.size = s.data.size := rfl
  exact h j b (by omega) hj
theorem upto_bad {s : ByteArray} {k : Nat} (hk : k < s.size) (h : ¬ (32 ≤ s[k].toNat ∧ s[k].toNat ≤ 126)) : s.data.toList.all okB = false := by
  rw [List.all_eq_false]
  refine ⟨s[k], ?_, ?_⟩
  · have : s.data[k]? = some s[k] := Array.getElem?_eq_getElem hk
    rw [← Array.getElem?_toList] at this
    exact List.mem_of_getElem? this
  · unfold okB
    rw [decide_eq_false h]
    decide
end Go.Proofs.YtfkfpanhbanljaaGreatDoor.Card
