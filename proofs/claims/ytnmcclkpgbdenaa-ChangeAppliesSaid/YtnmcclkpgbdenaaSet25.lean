import Derived.Test.YtnmcclkpgbdenaaSet18
import Derived.Test.YtnmcclkpgbdenaaSet24
import Derived.Test.YtnmcclkpgbdenaaChgDelL
/- Layer 50 (change): the plain law: a card's place in order, told in two ways. -/
namespace Go.Proofs.Ytnmcclkpgbdenaa.Chg
open Go.RowKit Go.Proofs.Ytnmcclkpgbdenaa.Mem Go.Proofs.Ytnmcclkpgbdenaa.Card

theorem take_mem {α : Type} {l : List α} {i : Nat} {x : α} (h : x ∈ l.take i) : ∃ j, j < i ∧ l[j]? = some x := by
  obtain ⟨j, hj⟩ := List.getElem?_of_mem h
  rw [List.getElem?_take] at hj
  split at hj
  · exact ⟨j, by assumption, hj⟩
  · cases hj
theorem drop_mem {α : Type} {l : List α} {i : Nat} {x : α} (h : x ∈ l.drop i) : ∃ j, i ≤ j ∧ l[j]? = some x := by
  obtain ⟨j, hj⟩ := List.getElem?_of_mem h
  rw [List.getElem?_drop] at hj
  exact ⟨i + j, by omega, hj⟩
section
variable {l : List CardM} {t i : Nat}
theorem pos_lt (h : PosAt l t i) : (l.filter fun y => decide (y.cid < t)) = l.take i := by
  conv => lhs; rw [← List.take_append_drop i l]
  rw [List.filter_append, List.filter_eq_self.2, List.filter_eq_nil_iff.2, List.append_nil]
  · intro x hx
    obtain ⟨j, hj, e⟩ := drop_mem hx
    have := h.2.2 j x e hj
    simp; omega
  · intro x hx
    obtain ⟨j, hj, e⟩ := take_mem hx
    exact decide_eq_true (h.2.1 j x e hj)
theorem pos_gt (hs : SortedC l) (h : PosAt l t i) : (l.filter fun y => decide (t < y.cid)) = if isAt l t i then l.drop (i + 1) else l.drop i := by
  conv => lhs; rw [← List.take_append_drop i l]
  rw [List.filter_append, List.filter_eq_nil_iff.2, List.nil_append]
  · unfold isAt
    cases hx : l[i]? with
    | none =>
      have : l.drop i = [] := List.drop_eq_nil_of_le (List.getElem?_eq_none_iff.1 hx)
      rw [this]; rfl
    | some x =>
      obtain ⟨h1, h2⟩ := List.getElem?_eq_some_iff.1 hx
      have hd : l.drop i = x :: l.drop (i + 1) := by rw [List.drop_eq_getElem_cons h1, h2]
      have hge := h.2.2 i x hx (Nat.le_refl _)
      have hrest : (l.drop (i + 1)).filter (fun y => decide (t < y.cid)) = l.drop (i + 1) := List.filter_eq_self.2 fun y hy => by
        obtain ⟨j, hj, e⟩ := drop_mem hy
        have := hs i j x y hx e (by omega)
        exact decide_eq_true (by omega)
      rw [hd, List.filter_cons, hrest]
      by_cases hc : x.cid = t
      · rw [if_neg (by simp; omega)]; simp [hc]
      · rw [if_pos (by simp; omega)]; simp [hc]
  · intro x hx
    obtain ⟨j, hj, e⟩ := take_mem hx
    have := h.2.1 j x e hj
    simp; omega
/-- a card that is new is put at its place -/
theorem put_new {x : CardM} (hs : SortedC l) (h : PosAt l x.cid i) (hn : isAt l x.cid i = false) : putM l x = l.take i ++ x :: l.drop i := by
  unfold putM
  rw [pos_lt h, pos_gt hs h, hn]
  simp
/-- a card that is there gives way -/
theorem put_old {x : CardM} (hs : SortedC l) (h : PosAt l x.cid i) (hn : isAt l x.cid i = true) : putM l x = l.set i x := by
  have hlt : i < l.length := by
    unfold isAt at hn
    cases hx : l[i]? with
    | none => rw [hx] at hn; cases hn
    | some y => exact (List.getElem?_eq_some_iff.1 hx).1
  unfold putM
  rw [pos_lt h, pos_gt hs h, hn, List.set_eq_take_append_cons_drop, if_pos hlt]
  simp
/-- the document's place is the program's -/
theorem idx_pos {r : Int} (hs : SortedC l) (h : PosAt l t i) (hr : idxC t l r) : r = if isAt l t i then (i : Int) else -1 := by
  unfold isAt
  rcases hr with ⟨k, x, rfl, hk, hxc, hb⟩ | ⟨rfl, hn⟩
  · have hki : i = k := by
      rcases Nat.lt_trichotomy i k with h1 | h1 | h1
      · have hi : i < l.length := by have := (List.getElem?_eq_some_iff.1 hk).1; omega
        have h2 := h.2.2 i _ (List.getElem?_eq_getElem hi) (Nat.le_refl _)
        have h3 := hs i k _ x (List.getElem?_eq_getElem hi) hk h1
        omega
      · exact h1
      · have := h.2.1 k x hk h1; omega
    subst hki
    rw [hk]; simp [hxc]
  · cases hx : l[i]? with
    | none => simp
    | some y => simp [hn i y hx]
end
end Go.Proofs.Ytnmcclkpgbdenaa.Chg

/- Layer 50 (change): the plain law: a line set into lines in order, told in two ways. -/
namespace Go.Proofs.Ytnmcclkpgbdenaa.Chg
open Go.RowKit Go.Proofs.Ytnmcclkpgbdenaa.Mem Go.Proofs.Ytnmcclkpgbdenaa.Card

/-- the document's set: a line comes ahead of the first that is not below it; one of its field goes -/
def setR (x : LineM) : Bool → List LineM → List LineM
  | d, [] => if d then [] else [x]
  | d, y :: l => (if !d && decide (x.f ≤ y.f) then [x] else []) ++ (if y.f = x.f then [] else [y]) ++ setR x (d || decide (x.f ≤ y.f)) l
theorem setR_done (x : LineM) : ∀ l, setR x true l = noF x.f l
  | [] => rfl
  | y :: l => by
    unfold setR
    rw [Bool.true_or, setR_done x l]
    unfold noF isF
    by_cases h : y.f = x.f
    · rw [List.filter_cons_of_neg (by simp [h])]; simp [h]
    · rw [List.filter_cons_of_pos (by simp [h])]; simp [h]
theorem sortedL_tail {y : LineM} {l : List LineM} (h : SortedL (y :: l)) : SortedL l := fun i j a b ha hb hij => h (i + 1) (j + 1) a b (by simpa using ha) (by simpa using hb) (by omega)
theorem sortedL_head {y z : LineM} {l : List LineM} (h : SortedL (y :: l)) (hz : z ∈ l) : y.f < z.f := by
  obtain ⟨j, hj⟩ := List.getElem?_of_mem hz
  exact h 0 (j + 1) y z rfl (by simpa using hj) (by omega)
theorem setR_new (x : LineM) : ∀ l, SortedL l → setR x false l = (l.filter fun y => decide (y.f < x.f)) ++ x :: l.filter fun y => decide (x.f < y.f)
  | [], _ => rfl
  | y :: l, hs => by
    unfold setR
    by_cases h : x.f ≤ y.f
    · have h1 : (l.filter fun z => decide (z.f < x.f)) = [] := List.filter_eq_nil_iff.2 fun z hz => by have := sortedL_head hs hz; simp; omega
      have h2 : (l.filter fun z => decide (x.f < z.f)) = l := List.filter_eq_self.2 fun z hz => by have := sortedL_head hs hz; exact decide_eq_true (by omega)
      have h3 : noF x.f l = l := List.filter_eq_self.2 fun z hz => by have := sortedL_head hs hz; simp [isF]; omega
      rw [decide_eq_true h, Bool.false_or, setR_done, List.filter_cons_of_neg (by simp; omega), h1, h3]
      by_cases he : y.f = x.f
      · rw [List.filter_cons_of_neg (by simp; omega), h2]; simp [he]
      · rw [List.filter_cons_of_pos (by simp; omega), h2]; simp [he]
    · rw [decide_eq_false h, Bool.false_or, setR_new x l (sortedL_tail hs), List.filter_cons_of_pos (by simp; omega), List.filter_cons_of_neg (by simp; omega)]
      have he : ¬ y.f = x.f := by omega
      simp [he]
theorem noF_sorted {f : Nat} {l : List LineM} (h : SortedL l) : SortedL (noF f l) := by
  have hp : l.Pairwise (fun a b => a.f < b.f) := List.pairwise_iff_getElem.2 fun i j hi hj hij => h i j _ _ (List.getElem?_eq_getElem hi) (List.getElem?_eq_getElem hj) hij
  have hq : (noF f l).Pairwise (fun a b => a.f < b.f) := hp.filter _
  intro i j a b ha hb hij
  obtain ⟨h1, rfl⟩ := List.getElem?_eq_some_iff.1 ha
  obtain ⟨h2, rfl⟩ := List.getElem?_eq_some_iff.1 hb
  exact List.pairwise_iff_getElem.1 hq i j h1 h2 hij
/-- the program's way: what is of the field goes, and the line comes in at its place -/
theorem set_at {x : LineM} {l : List LineM} {i : Nat} (hs : SortedL l) (h : PosAtL (noF x.f l) x.f i) : setR x false l = (noF x.f l).take i ++ x :: (noF x.f l).drop i := by
  rw [setR_new x l hs]
  have hne : ∀ z ∈ noF x.f l, z.f ≠ x.f := fun z hz e => by
    have := (List.mem_filter.1 hz).2
    simp [isF, e] at this
  have h1 : (l.filter fun y => decide (y.f < x.f)) = (noF x.f l).take i := by
    have e : (l.filter fun y => decide (y.f < x.f)) = (noF x.f l).filter fun y => decide (y.f < x.f) := by
      unfold noF
      rw [List.filter_filter]
      refine List.filter_congr fun z _ => ?_
      unfold isF
      by_cases hz : z.f < x.f
      · have : ¬ z.f = x.f := by omega
        simp [hz, this]
      · simp [hz]
    rw [e]
    conv => lhs; rw [← List.take_append_drop i (noF x.f l)]
    rw [List.filter_append, List.filter_eq_self.2, List.filter_eq_nil_iff.2, List.append_nil]
    · intro z hz
      obtain ⟨j, hj, e⟩ := drop_mem hz
      have := h.2.2 j z e hj
      simp; omega
    · intro z hz
      obtain ⟨j, hj, e⟩ := take_mem hz
      exact decide_eq_true (h.2.1 j z e hj)
  have h2 : (l.filter fun y => decide (x.f < y.f)) = (noF x.f l).drop i := by
    have e : (l.filter fun y => decide (x.f < y.f)) = (noF x.f l).filter fun y => decide (x.f < y.f) := by
      unfold noF
      rw [List.filter_filter]
      refine List.filter_congr fun z _ => ?_
      unfold isF
      by_cases hz : x.f < z.f
      · have : ¬ z.f = x.f := by omega
        simp [hz, this]
      · simp [hz]
    rw [e]
    conv => lhs; rw [← List.take_append_drop i (noF x.f l)]
    rw [List.filter_append, List.filter_eq_nil_iff.2, List.filter_eq_self.2, List.nil_append]
    · intro z hz
      obtain ⟨j, hj, e⟩ := drop_mem hz
      have h3 := h.2.2 j z e hj
      have h4 := hne z (List.mem_of_mem_drop hz)
      exact decide_eq_true (by omega)
    · intro z hz
      obtain ⟨j, hj, e⟩ := take_mem hz
      have := h.2.1 j z e hj
      simp; omega
  rw [h1, h2]
end Go.Proofs.Ytnmcclkpgbdenaa.Chg
