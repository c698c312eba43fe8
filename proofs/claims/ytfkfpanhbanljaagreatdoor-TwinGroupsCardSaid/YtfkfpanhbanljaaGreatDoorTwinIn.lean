/- Layer 47 (twin): in which group a contact is: the plain law. -/
import Derived.Test.YtfkfpanhbanljaaGreatDoorSet39
namespace Go.Proofs.YtfkfpanhbanljaaGreatDoor.Twin
open Go.RowKit Go.Proofs.YtfkfpanhbanljaaGreatDoor.Mem Go.Proofs.YtfkfpanhbanljaaGreatDoor.Card

/-- the first group that has a contact; -1: none -/
def placeI : List (List Nat) → Nat → Int
  | [], _ => -1
  | g :: gs, c => if c ∈ g then 0 else if placeI gs c < 0 then -1 else placeI gs c + 1
theorem place_ge : ∀ (gs : List (List Nat)) (c : Nat), -1 ≤ placeI gs c ∧ placeI gs c < gs.length
  | [], c => ⟨by show (-1 : Int) ≤ -1; omega, by show (-1 : Int) < 0; omega⟩
  | g :: gs, c => by
    have h := place_ge gs c
    unfold placeI
    simp only [List.length_cons, Int.natCast_succ]
    split
    · omega
    · split <;> omega
theorem place_found : ∀ (gs : List (List Nat)) (c i : Nat) (g : List Nat), (∀ j h, j < i → gs[j]? = some h → c ∉ h) → gs[i]? = some g → c ∈ g → placeI gs c = i
  | [], _, _, _, _, h, _ => by cases h
  | a :: gs, c, 0, g, _, h, hc => by
    obtain rfl : a = g := by simpa using h
    unfold placeI; rw [if_pos hc]; rfl
  | a :: gs, c, i + 1, g, hb, h, hc => by
    have h0 := hb 0 a (by omega) rfl
    have ih := place_found gs c i g (fun j q hj hq => hb (j + 1) q (by omega) (by simpa using hq)) (by simpa using h) hc
    unfold placeI
    rw [if_neg h0, ih, if_neg (by omega)]
    omega
theorem place_none : ∀ (gs : List (List Nat)) (c : Nat), (∀ g ∈ gs, c ∉ g) → placeI gs c = -1
  | [], _, _ => rfl
  | g :: gs, c, h => by
    unfold placeI
    rw [if_neg (h g (List.mem_cons_self ..)), place_none gs c fun q hq => h q (List.mem_cons_of_mem _ hq)]
    rfl
theorem place_neg : ∀ (gs : List (List Nat)) (c : Nat), placeI gs c < 0 ↔ ∀ g ∈ gs, c ∉ g
  | [], c => ⟨fun _ g h => (by cases h), fun _ => (by show (-1 : Int) < 0; omega)⟩
  | g :: gs, c => by
    have ih := place_neg gs c
    unfold placeI
    by_cases hg : c ∈ g
    · rw [if_pos hg]
      exact ⟨fun h => by omega, fun h => absurd hg (h g (List.mem_cons_self ..))⟩
    · rw [if_neg hg]
      by_cases hp : placeI gs c < 0
      · rw [if_pos hp]
        refine ⟨fun _ q hq => ?_, fun _ => by omega⟩
        rcases List.mem_cons.1 hq with rfl | hq
        · exact hg
        · exact ih.1 hp q hq
      · rw [if_neg hp]
        exact ⟨fun h => by omega, fun h => absurd (ih.2 fun q hq => h q (List.mem_cons_of_mem _ hq)) hp⟩
theorem place_ext : ∀ (gs : List (List Nat)) (c d : Nat), (∀ g ∈ gs, c ∈ g ↔ d ∈ g) → placeI gs c = placeI gs d
  | [], _, _, _ => rfl
  | g :: gs, c, d, h => by
    have ih := place_ext gs c d fun q hq => h q (List.mem_cons_of_mem _ hq)
    unfold placeI
    rw [ih]
    have hg := h g (List.mem_cons_self ..)
    by_cases hc : c ∈ g
    · rw [if_pos hc, if_pos (hg.1 hc)]
    · rw [if_neg hc, if_neg fun hd => hc (hg.2 hd)]
section
variable {n : Nat} {cid R : Nat → Nat}
theorem groups_mem {g : List Nat} : g ∈ sortG (groupsL n cid R) ↔ ∃ m, m < n ∧ g = classL n cid R m ∧ 2 ≤ g.length := by
  rw [(sortG_perm _).mem_iff]
  unfold groupsL
  simp only [List.mem_filter, List.mem_map, List.mem_range, decide_eq_true_eq]
  constructor
  · rintro ⟨⟨m, hm, rfl⟩, h⟩; exact ⟨m, hm, rfl, h⟩
  · rintro ⟨m, hm, rfl, h⟩; exact ⟨⟨m, hm, rfl⟩, h⟩
theorem cid_in (hd : ∀ x y, x < n → y < n → cid x = cid y → x = y) {x m : Nat} (hx : x < n) : cid x ∈ classL n cid R m ↔ R x = m := by
  rw [class_mem]
  constructor
  · rintro ⟨i, hi, h1, h2⟩
    rw [← hd i x hi hx h2]; exact h1
  · intro h; exact ⟨x, hx, h, rfl⟩
theorem nodup_len : ∀ {a b : List Nat}, a.Nodup → b.Nodup → (∀ x, x ∈ a ↔ x ∈ b) → a.length = b.length := by
  intro a b ha hb h
  exact Nat.le_antisymm (List.Nodup.length_le_of_subset ha fun x hx => (h x).1 hx) (List.Nodup.length_le_of_subset hb fun x hx => (h x).2 hx)
theorem class_len (hd : ∀ x y, x < n → y < n → cid x = cid y → x = y) (m : Nat) : (classL n cid R m).length = (List.range n).countP fun i => decide (R i = m) := by
  rw [List.countP_eq_length_filter]
  have h1 : (classL n cid R m).Nodup := List.Pairwise.imp (fun h => Nat.ne_of_lt h) (norm_rising _)
  have h0 : ((List.range n).filter fun i => decide (R i = m)).Nodup := List.Pairwise.filter _ List.nodup_range
  have h2 : (((List.range n).filter fun i => decide (R i = m)).map cid).Nodup := by
    refine List.pairwise_map.2 (List.Pairwise.imp_of_mem ?_ h0)
    intro x y hx hy hne he
    have h3 := List.mem_range.1 (List.mem_filter.1 hx).1
    have h4 := List.mem_range.1 (List.mem_filter.1 hy).1
    exact hne (hd x y h3 h4 he)
  have h5 := nodup_len h1 h2 fun x => by unfold classL; rw [norm_mem]
  rw [h5, List.length_map]
theorem place_same (hd : ∀ x y, x < n → y < n → cid x = cid y → x = y) {x y : Nat} (hx : x < n) (hy : y < n) (h : R x = R y) : placeI (sortG (groupsL n cid R)) (cid x) = placeI (sortG (groupsL n cid R)) (cid y) := by
  refine place_ext _ _ _ fun g hg => ?_
  obtain ⟨m, -, rfl, -⟩ := groups_mem.1 hg
  rw [cid_in hd hx, cid_in hd hy, h]
theorem place_few (hd : ∀ x y, x < n → y < n → cid x = cid y → x = y) (hR : ∀ x, x < n → R x < n) {x : Nat} (hx : x < n) : placeI (sortG (groupsL n cid R)) (cid x) < 0 ↔ (classL n cid R (R x)).length < 2 := by
  rw [place_neg]
  constructor
  · intro h
    refine Nat.lt_of_not_le fun h2 => ?_
    exact h _ (groups_mem.2 ⟨R x, hR x hx, rfl, h2⟩) ((cid_in hd hx).2 rfl)
  · intro h g hg hc
    obtain ⟨m, -, rfl, h2⟩ := groups_mem.1 hg
    rw [(cid_in hd hx).1 hc] at h
    omega
theorem count_two {n : Nat} {P : Nat → Bool} {x y : Nat} (hx : x < n) (hy : y < n) (hne : x ≠ y) (px : P x = true) (py : P y = true) : 2 ≤ (List.range n).countP P := by
  have h1 := count_grows (P := fun i => P i && decide (i = x)) (Q := P) (List.range n) (fun i _ h => by simp at h; exact h.1) ⟨y, List.mem_range.2 hy, py, by rw [decide_eq_false (fun e : y = x => hne e.symm), Bool.and_false]⟩
  have h2 := count_grows (P := fun _ => false) (Q := fun i => P i && decide (i = x)) (List.range n) (fun i _ h => by cases h) ⟨x, List.mem_range.2 hx, by simp [px], rfl⟩
  omega
theorem count_one : ∀ {l : List Nat} {P : Nat → Bool} {x : Nat}, l.Nodup → (∀ y ∈ l, P y = true → y = x) → l.countP P ≤ 1
  | [], _, _, _, _ => by simp
  | a :: l, P, x, hn, h => by
    rw [List.countP_cons]
    rw [List.nodup_cons] at hn
    by_cases ha : P a = true
    · have e := h a (List.mem_cons_self ..) ha
      have h0 : l.countP P = 0 := by
        rw [List.countP_eq_zero]
        intro y hy py
        have e2 := h y (List.mem_cons_of_mem _ hy) py
        exact hn.1 (by rw [e, ← e2]; exact hy)
      rw [h0, if_pos ha]
      omega
    · rw [if_neg ha]
      exact count_one hn.2 fun y hy => h y (List.mem_cons_of_mem _ hy)
theorem sum_one (P : Nat → Bool) (r : Nat) : ∀ n, ((List.range n).map fun m => if P m = true then (if r = m then 1 else 0) else 0).sum = if r < n ∧ P r = true then 1 else 0
  | 0 => by simp
  | n + 1 => by
    rw [List.range_succ, List.map_append, List.sum_append, sum_one P r n]
    simp only [List.map_cons, List.map_nil, List.sum_cons, List.sum_nil, Nat.add_zero]
    by_cases h1 : r < n
    · have h2 : r ≠ n := by omega
      have h4 : r < n + 1 := by omega
      by_cases h3 : P r = true
      · simp [h1, h2, h3, h4]
      · simp [h2, h3]
    · by_cases h2 : r = n
      · subst h2
        by_cases h3 : P r = true <;> simp [h3]
      · have h4 : ¬ r < n + 1 := by omega
        simp [h1, h2, h4]
theorem sum_classes (P : Nat → Bool) (n : Nat) (R : Nat → Nat) : ∀ (xs : List Nat), (∀ x ∈ xs, R x < n) → ((List.range n).map fun m => if P m = true then xs.countP (fun i => decide (R i = m)) else 0).sum = xs.countP fun x => P (R x)
  | [], _ => by
    simp only [List.countP_nil, ite_self]
    induction (List.range n) with
    | nil => rfl
    | cons a l ih => simpa using ih
  | x :: xs, h => by
    have ih := sum_classes P n R xs fun y hy => h y (List.mem_cons_of_mem _ hy)
    rw [List.countP_cons, ← ih]
    have h1 := sum_one P (R x) n
    have hx := h x (List.mem_cons_self ..)
    have e : ∀ l : List Nat, (l.map fun m => if P m = true then (x :: xs).countP (fun i => decide (R i = m)) else 0).sum = (l.map fun m => if P m = true then xs.countP (fun i => decide (R i = m)) else 0).sum + (l.map fun m => if P m = true then (if R x = m then 1 else 0) else 0).sum := by
      intro l
      induction l with
      | nil => rfl
      | cons m l ihl =>
        simp only [List.map_cons, List.sum_cons]
        rw [ihl]
        by_cases hp : P m = true
        · rw [if_pos hp, if_pos hp, if_pos hp, List.countP_cons]
          simp only [decide_eq_true_eq]
          omega
        · rw [if_neg hp, if_neg hp, if_neg hp]
          omega
    rw [e, h1]
    congr 1
    by_cases hp : P (R x) = true
    · rw [if_pos ⟨hx, hp⟩, if_pos hp]
    · rw [if_neg fun h => hp h.2, if_neg hp]
theorem sum_filter (f : List Nat → Bool) : ∀ l : List (List Nat), ((l.filter f).map List.length).sum = (l.map fun g => if f g = true then g.length else 0).sum
  | [] => rfl
  | g :: l => by
    rw [List.filter_cons]
    by_cases h : f g = true
    · rw [if_pos h]; simp only [List.map_cons, List.sum_cons, sum_filter f l, if_pos h]
    · rw [if_neg h]; simp only [List.map_cons, List.sum_cons, sum_filter f l, if_neg h, Nat.zero_add]
theorem sum_perm : ∀ {a b : List (List Nat)}, a.Perm b → (a.map List.length).sum = (b.map List.length).sum := by
  intro a b h
  induction h with
  | nil => rfl
  | cons x _ ih => simp only [List.map_cons, List.sum_cons, ih]
  | swap x y l => simp only [List.map_cons, List.sum_cons]; omega
  | trans _ _ h1 h2 => exact h1.trans h2
theorem groups_sum (hd : ∀ x y, x < n → y < n → cid x = cid y → x = y) (hR : ∀ x, x < n → R x < n) : ((sortG (groupsL n cid R)).map List.length).sum = (List.range n).countP fun i => decide (0 ≤ placeI (sortG (groupsL n cid R)) (cid i)) := by
  rw [sum_perm (sortG_perm _)]
  unfold groupsL
  rw [sum_filter, List.map_map]
  have h := sum_classes (fun m => decide (2 ≤ (classL n cid R m).length)) n R (List.range n) fun x hx => hR x (List.mem_range.1 hx)
  have e : (List.range n).map ((fun g : List Nat => if decide (2 ≤ g.length) = true then g.length else 0) ∘ classL n cid R) = (List.range n).map fun m => if decide (2 ≤ (classL n cid R m).length) = true then (List.range n).countP (fun i => decide (R i = m)) else 0 := by
    refine List.map_congr_left fun m _ => ?_
    show (if decide (2 ≤ (classL n cid R m).length) = true then (classL n cid R m).length else 0) = _
    rw [← class_len hd m]
  rw [e, h]
  refine List.countP_congr fun x hx => ?_
  have h2 := place_few hd hR (List.mem_range.1 hx)
  unfold groupsL at h2
  rw [decide_eq_true_eq, decide_eq_true_eq]
  omega
end
/-- all that the law asks of the groups -/
structure InLaw (l : List CardM) (GS : List (List Nat)) : Prop where
  two : ∀ g ∈ GS, 2 ≤ g.length
  same : ∀ i k, i < l.length → k < l.length → adjB l i k = true → placeI GS (cidAt l k) = placeI GS (cidAt l i)
  alone : ∀ i, i < l.length → (placeI GS (cidAt l i) < 0 ↔ ∀ k, k < l.length → k ≠ i → adjB l i k = false)
  sum : (GS.map List.length).sum = (List.range l.length).countP fun i => decide (0 ≤ placeI GS (cidAt l i))
theorem in_law (l : List CardM) (hd : ∀ x y, x < l.length → y < l.length → cidAt l x = cidAt l y → x = y) : InLaw l (sortG (groupsL l.length (cidAt l) (headR (adjB l) l.length 0))) := by
  have ok := headR_ok (n := l.length) (i := l.length) (k := 0) (adjB_symm l) (.inr ⟨Nat.le_refl _, rfl⟩)
  have hR : ∀ x, x < l.length → headR (adjB l) l.length 0 x < l.length := fun x hx => (ok x hx).1
  refine ⟨fun g hg => ?_, fun i k hi hk ha => ?_, fun i hi => ?_, groups_sum hd hR⟩
  · obtain ⟨m, -, -, h⟩ := groups_mem.1 hg; exact h
  · exact place_same hd hk hi ((headR_iff (adjB_symm l) hk hi).2 ((Conn.one hi hk ha).symm (adjB_symm l)))
  · rw [place_few hd hR hi, class_len hd]
    constructor
    · intro h k hk hne
      cases ha : adjB l i k with
      | false => rfl
      | true =>
        have e := (headR_iff (adjB_symm l) hi hk).2 (Conn.one hi hk ha)
        have h2 := count_two (P := fun x => decide (headR (adjB l) l.length 0 x = headR (adjB l) l.length 0 i)) hi hk (fun e => hne e.symm) (by simp) (by simp [e])
        omega
    · intro h
      refine Nat.lt_of_le_of_lt (count_one (x := i) List.nodup_range fun y hy hp => ?_) (by omega)
      have hy := List.mem_range.1 hy
      have hp := of_decide_eq_true hp
      have hc := (headR_iff (adjB_symm l) hi hy).1 hp.symm
      refine Decidable.byContradiction fun hne => ?_
      obtain ⟨p, q, h1, h2, h3, -, h5⟩ := hc.out (P := (· = i)) rfl hne
      subst h1
      rw [h q h5 h2] at h3
      cases h3
end Go.Proofs.YtfkfpanhbanljaaGreatDoor.Twin
