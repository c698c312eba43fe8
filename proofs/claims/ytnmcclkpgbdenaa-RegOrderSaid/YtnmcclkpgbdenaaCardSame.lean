/- Lines and cards compared: the walks of card.sameLine, Same, All, and of the reference. -/
import Derived.Test.YtnmcclkpgbdenaaTextsEq
namespace Go.Proofs.Ytnmcclkpgbdenaa.Card
open Go.RowKit Go.Proofs.Ytnmcclkpgbdenaa.Mem

theorem below_next {w w1 w2 : World} (h : Below w.heap.size w w1) (h2 : Below w1.heap.size w1 w2) : Below w.heap.size w w2 := h.trans (h2.mono h.size)
theorem below_new {w w1 : World} (h : Below w.heap.size w w1) (o : Obj) : Below w.heap.size w (w1.alloc o) := h.alloc h.size o
theorem line_p {x y : LineM} : x.p = y.p ↔ x.f = y.f ∧ x.t = y.t ∧ x.m = y.m := by
  unfold LineM.p
  simp only [Prod.mk.injEq]
theorem int_beq (a b : Nat) : ((a : Int) == (b : Int)) = decide (a = b) := by
  by_cases h : a = b
  · subst h; simp
  · rw [decide_eq_false h]; exact beq_eq_false_iff_ne.2 (by omega)
theorem take_map {α β : Type} (f : α → β) (l : List α) (k : Nat) (x : α) (h : l[k]? = some x) : (l.take (k + 1)).map f = (l.take k).map f ++ [f x] := by
  obtain ⟨hk, rfl⟩ := List.getElem?_eq_some_iff.1 h
  rw [List.take_succ_eq_append_getElem hk, List.map_append]; rfl
theorem card_p {x y : CardM} : x.p = y.p ↔ x.cid = y.cid ∧ x.ls.map LineM.p = y.ls.map LineM.p := by
  unfold CardM.p
  simp only [Prod.mk.injEq]
end Go.Proofs.Ytnmcclkpgbdenaa.Card
