/- Layer 47 (twin): groups of numbers, each in order, in order: the plain law. -/
import Derived.Test.YtfkfpanhbanljaaGreatDoorTwinMath
namespace Go.Proofs.YtfkfpanhbanljaaGreatDoor.Twin

/-- a number more, in its place, each once -/
def putN (l : List Nat) (x : Nat) : List Nat := (l.filter fun y => decide (y < x)) ++ [x] ++ l.filter fun y => decide (x < y)
def normL (l : List Nat) : List Nat := l.foldl putN []
def Rising (l : List Nat) : Prop := l.Pairwise (· < ·)
theorem put_rising {l : List Nat} (h : Rising l) (x : Nat) : Rising (putN l x) := by
  unfold Rising putN
  rw [List.pairwise_append, List.pairwise_append]
  refine ⟨⟨h.filter _, List.pairwise_singleton _ _, fun a ha b hb => ?_⟩, h.filter _, fun a ha b hb => ?_⟩
  · rw [List.mem_singleton.1 hb]; simpa using (List.mem_filter.1 ha).2
  · have h2 : x < b := by simpa using (List.mem_filter.1 hb).2
    rcases List.mem_append.1 ha with ha | ha
    · have h1 : a < x := by simpa using (List.mem_filter.1 ha).2
      omega
    · rw [List.mem_singleton.1 ha]; exact h2
theorem put_mem {l : List Nat} {x y : Nat} : y ∈ putN l x ↔ y ∈ l ∨ y = x := by
  unfold putN
  simp only [List.mem_append, List.mem_filter, List.mem_singleton, decide_eq_true_eq]
  constructor
  · rintro ((⟨h, _⟩ | h) | ⟨h, _⟩)
    · exact .inl h
    · exact .inr h
    · exact .inl h
  · rintro (h | h)
    · rcases Nat.lt_trichotomy y x with e | e | e
      · exact .inl (.inl ⟨h, e⟩)
      · exact .inl (.inr e)
      · exact .inr ⟨h, e⟩
    · exact .inl (.inr h)
theorem fold_rising : ∀ (l acc : List Nat), Rising acc → Rising (l.foldl putN acc)
  | [], _, h => h
  | x :: l, acc, h => fold_rising l _ (put_rising h x)
theorem fold_mem : ∀ (l acc : List Nat) (y : Nat), y ∈ l.foldl putN acc ↔ y ∈ acc ∨ y ∈ l
  | [], _, _ => by simp
  | x :: l, acc, y => by
    rw [List.foldl_cons, fold_mem l, put_mem, List.mem_cons]
    constructor
    · rintro ((h | h) | h)
      · exact .inl h
      · exact .inr (.inl h)
      · exact .inr (.inr h)
    · rintro (h | h | h)
      · exact .inl (.inl h)
      · exact .inl (.inr h)
      · exact .inr h
theorem norm_rising (l : List Nat) : Rising (normL l) := fold_rising l [] List.Pairwise.nil
theorem norm_mem {l : List Nat} {y : Nat} : y ∈ normL l ↔ y ∈ l := by unfold normL; rw [fold_mem]; simp
/-- rising lists with the same members are the same -/
theorem rising_ext : ∀ {a b : List Nat}, Rising a → Rising b → (∀ x, x ∈ a ↔ x ∈ b) → a = b
  | [], [], _, _, _ => rfl
  | [], y :: b, _, _, h => absurd ((h y).2 (List.mem_cons_self ..)) (by simp)
  | x :: a, [], _, _, h => absurd ((h x).1 (List.mem_cons_self ..)) (by simp)
  | x :: a, y :: b, ha, hb, h => by
    have ha2 := List.pairwise_cons.1 ha
    have hb2 := List.pairwise_cons.1 hb
    have e : x = y := by
      rcases List.mem_cons.1 ((h x).1 (List.mem_cons_self ..)) with e | e
      · exact e
      · rcases List.mem_cons.1 ((h y).2 (List.mem_cons_self ..)) with e2 | e2
        · exact e2.symm
        · have h1 := hb2.1 x e
          have h2 := ha2.1 y e2
          omega
    subst e
    rw [rising_ext ha2.2 hb2.2 fun z => ?_]
    constructor
    · intro hz
      rcases List.mem_cons.1 ((h z).1 (List.mem_cons_of_mem _ hz)) with e | e
      · subst e; exact absurd (ha2.1 z hz) (Nat.lt_irrefl z)
      · exact e
    · intro hz
      rcases List.mem_cons.1 ((h z).2 (List.mem_cons_of_mem _ hz)) with e | e
      · subst e; exact absurd (hb2.1 z hz) (Nat.lt_irrefl z)
      · exact e
theorem norm_ext {a b : List Nat} (h : ∀ x, x ∈ a ↔ x ∈ b) : normL a = normL b := rising_ext (norm_rising a) (norm_rising b) fun x => by rw [norm_mem, norm_mem, h]
theorem norm_of {a l : List Nat} (ha : Rising a) (h : ∀ x, x ∈ a ↔ x ∈ l) : a = normL l := rising_ext ha (norm_rising l) fun x => by rw [norm_mem, h]
/-! lists of numbers in order: the first place at which they are unlike tells -/
def aheadL : List Nat → List Nat → Bool
  | [], [] => false
  | [], _ :: _ => true
  | _ :: _, [] => false
  | x :: a, y :: b => if x = y then aheadL a b else decide (x < y)
theorem ahead_irrefl : ∀ a, aheadL a a = false
  | [] => rfl
  | x :: a => by unfold aheadL; rw [if_pos rfl]; exact ahead_irrefl a
theorem ahead_total : ∀ a b, aheadL a b = false → aheadL b a = false → a = b
  | [], [], _, _ => rfl
  | [], _ :: _, h, _ => by cases h
  | _ :: _, [], _, h => by cases h
  | x :: a, y :: b, h1, h2 => by
    unfold aheadL at h1 h2
    by_cases e : x = y
    · subst e
      rw [if_pos rfl] at h1 h2
      rw [ahead_total a b h1 h2]
    · rw [if_neg e] at h1
      rw [if_neg (fun e2 => e e2.symm)] at h2
      simp at h1 h2
      omega
theorem ahead_asymm : ∀ a b, aheadL a b = true → aheadL b a = false
  | [], [], h => by cases h
  | [], _ :: _, _ => rfl
  | _ :: _, [], h => by cases h
  | x :: a, y :: b, h => by
    unfold aheadL at h ⊢
    by_cases e : x = y
    · subst e
      rw [if_pos rfl] at h ⊢
      exact ahead_asymm a b h
    · rw [if_neg e] at h
      rw [if_neg (fun e2 => e e2.symm)]
      simp at h ⊢
      omega
theorem ahead_trans : ∀ a b c, aheadL a b = true → aheadL b c = true → aheadL a c = true
  | [], [], _, h, _ => by cases h
  | [], _ :: _, [], _, h => by cases h
  | [], _ :: _, _ :: _, _, _ => rfl
  | _ :: _, [], _, h, _ => by cases h
  | _ :: _, _ :: _, [], _, h => by cases h
  | x :: a, y :: b, z :: c, h1, h2 => by
    unfold aheadL at h1 h2 ⊢
    by_cases e : x = y
    · subst e
      rw [if_pos rfl] at h1
      by_cases e2 : x = z
      · subst e2
        rw [if_pos rfl] at h2 ⊢
        exact ahead_trans a b c h1 h2
      · rw [if_neg e2] at h2 ⊢; exact h2
    · rw [if_neg e] at h1
      have h1' : x < y := by simpa using h1
      by_cases e2 : y = z
      · subst e2
        rw [if_neg e]; exact h1
      · rw [if_neg e2] at h2
        have h2' : y < z := by simpa using h2
        rw [if_neg (by omega)]
        exact decide_eq_true (by omega)
/-- not behind -/
def upTo (a b : List Nat) : Prop := aheadL b a = false
theorem upTo_trans {a b c : List Nat} (h1 : upTo a b) (h2 : upTo b c) : upTo a c := by
  unfold upTo at *
  cases h : aheadL c a with
  | false => rfl
  | true =>
    cases h3 : aheadL b a with
    | true => rw [h3] at h1; cases h1
    | false =>
      cases h4 : aheadL a b with
      | true => rw [ahead_trans c a b h h4] at h2; cases h2
      | false => rw [ahead_total a b h4 h3] at h; rw [h] at h2; cases h2
def SortedG (l : List (List Nat)) : Prop := l.Pairwise upTo
/-- a sorted list is told by its members, each as often as it is there -/
theorem sorted_perm : ∀ {a b : List (List Nat)}, SortedG a → SortedG b → a.Perm b → a = b
  | [], b, _, _, h => (List.Perm.nil_eq h).symm ▸ rfl
  | x :: a, [], _, _, h => absurd h.length_eq (by simp)
  | x :: a, y :: b, ha, hb, h => by
    have ha2 := List.pairwise_cons.1 ha
    have hb2 := List.pairwise_cons.1 hb
    have e : x = y := by
      rcases List.mem_cons.1 (h.mem_iff.1 (List.mem_cons_self ..)) with e | e
      · exact e
      · rcases List.mem_cons.1 (h.mem_iff.2 (List.mem_cons_self ..)) with e2 | e2
        · exact e2.symm
        · exact ahead_total x y (hb2.1 x e) (ha2.1 y e2)
    subst e
    rw [sorted_perm ha2.2 hb2.2 (List.Perm.cons_inv h)]
/-- the document's way: a group comes ahead of the first that it is ahead of -/
def insG : List (List Nat) → List Nat → List (List Nat)
  | [], g => [g]
  | o :: out, g => if aheadL g o = true then g :: o :: out else o :: insG out g
theorem ins_perm : ∀ (l : List (List Nat)) (g : List Nat), (insG l g).Perm (g :: l)
  | [], _ => List.Perm.refl _
  | o :: l, g => by
    unfold insG
    split
    · exact List.Perm.refl _
    · exact ((ins_perm l g).cons o).trans (List.Perm.swap g o l)
theorem ins_sorted : ∀ (l : List (List Nat)) (g : List Nat), SortedG l → SortedG (insG l g)
  | [], _, _ => List.pairwise_singleton _ _
  | o :: l, g, h => by
    have h2 := List.pairwise_cons.1 h
    unfold insG
    split
    · rename_i hg
      refine List.pairwise_cons.2 ⟨fun z hz => ?_, h⟩
      have h0 : upTo g o := ahead_asymm g o hg
      rcases List.mem_cons.1 hz with rfl | hz
      · exact h0
      · exact upTo_trans h0 (h2.1 z hz)
    · rename_i hg
      refine List.pairwise_cons.2 ⟨fun z hz => ?_, ins_sorted l g h2.2⟩
      rcases List.mem_cons.1 ((ins_perm l g).mem_iff.1 hz) with rfl | hz
      · exact by unfold upTo; simpa using hg
      · exact h2.1 z hz
def sortG (l : List (List Nat)) : List (List Nat) := l.foldl insG []
theorem foldG_perm : ∀ (l acc : List (List Nat)), (l.foldl insG acc).Perm (acc ++ l)
  | [], acc => by simp
  | g :: l, acc => by
    refine (foldG_perm l _).trans ?_
    refine ((ins_perm acc g).append_right l).trans ?_
    rw [show g :: acc ++ l = g :: (acc ++ l) from rfl]
    exact (List.perm_middle (a := g) (l₁ := acc) (l₂ := l)).symm
theorem foldG_sorted : ∀ (l acc : List (List Nat)), SortedG acc → SortedG (l.foldl insG acc)
  | [], _, h => h
  | g :: l, acc, h => foldG_sorted l _ (ins_sorted acc g h)
theorem sortG_perm (l : List (List Nat)) : (sortG l).Perm l := by
  have h := foldG_perm l []
  rw [List.nil_append] at h
  exact h
theorem sortG_sorted (l : List (List Nat)) : SortedG (sortG l) := foldG_sorted l [] List.Pairwise.nil
theorem sortG_ext {a b : List (List Nat)} (h : a.Perm b) : sortG a = sortG b := sorted_perm (sortG_sorted a) (sortG_sorted b) (((sortG_perm a).trans h).trans (sortG_perm b).symm)
theorem sortG_of {a l : List (List Nat)} (ha : SortedG a) (h : a.Perm l) : a = sortG l := sorted_perm ha (sortG_sorted l) (h.trans (sortG_perm l).symm)
/-! the groups that heads, or marks, tell -/
def classL (n : Nat) (cid : Nat → Nat) (R : Nat → Nat) (m : Nat) : List Nat := normL (((List.range n).filter fun i => decide (R i = m)).map cid)
def groupsL (n : Nat) (cid : Nat → Nat) (R : Nat → Nat) : List (List Nat) := ((List.range n).map (classL n cid R)).filter fun g => decide (2 ≤ g.length)
theorem class_mem {n : Nat} {cid R : Nat → Nat} {m x : Nat} : x ∈ classL n cid R m ↔ ∃ i, i < n ∧ R i = m ∧ cid i = x := by
  unfold classL
  rw [norm_mem, List.mem_map]
  constructor
  · rintro ⟨i, hi, rfl⟩
    have := List.mem_filter.1 hi
    exact ⟨i, List.mem_range.1 this.1, by simpa using this.2, rfl⟩
  · rintro ⟨i, h1, h2, rfl⟩
    exact ⟨i, List.mem_filter.2 ⟨List.mem_range.2 h1, by simpa using h2⟩, rfl⟩
/-- the first of each class -/
def firsts (n : Nat) (R : Nat → Nat) : List Nat := (List.range n).filter fun i => decide (∀ j, j < i → R j ≠ R i)
theorem first_of {n : Nat} (R : Nat → Nat) {x : Nat} (hx : x < n) : ∃ i, i ∈ firsts n R ∧ R i = R x := by
  obtain ⟨c, h1, h2, h3⟩ := exists_min (P := fun z => R z = R x) (x := x) rfl
  refine ⟨c, List.mem_filter.2 ⟨List.mem_range.2 (by omega), decide_eq_true fun j hj e => ?_⟩, h1⟩
  have := h3 j (e.trans h1)
  omega
theorem class_heads (n : Nat) (cid R : Nat → Nat) (hR : ∀ x, x < n → R x < n) : (groupsL n cid R).Perm (((firsts n R).map fun i => classL n cid R (R i)).filter fun g => decide (2 ≤ g.length)) := by
  have hp : (((List.range n).filter fun m => decide (∃ i, i < n ∧ R i = m))).Perm ((firsts n R).map R) := by
    refine (List.perm_ext_iff_of_nodup (List.nodup_range.filter _) ?_).2 fun m => ?_
    · unfold firsts
      refine List.pairwise_map.2 ?_
      refine (List.pairwise_filter.2 ((List.pairwise_lt_range (n := n)).imp fun {a b} h ha hb e => ?_))
      have := of_decide_eq_true hb a h
      exact this e
    · rw [List.mem_filter, List.mem_range, List.mem_map]
      constructor
      · rintro ⟨h1, h2⟩
        obtain ⟨i, hi, rfl⟩ := of_decide_eq_true h2
        obtain ⟨c, hc, he⟩ := first_of R hi
        exact ⟨c, hc, he⟩
      · rintro ⟨i, hi, rfl⟩
        have hi2 := List.mem_range.1 (List.mem_filter.1 hi).1
        exact ⟨hR i hi2, decide_eq_true ⟨i, hi2, rfl⟩⟩
  have e1 : groupsL n cid R = (((List.range n).filter fun m => decide (∃ i, i < n ∧ R i = m)).map (classL n cid R)).filter fun g => decide (2 ≤ g.length) := by
    unfold groupsL
    rw [List.filter_map, List.filter_map, List.filter_filter]
    congr 1
    refine List.filter_congr fun m _ => ?_
    by_cases h : ∃ i, i < n ∧ R i = m
    · simp [h]
    · have : classL n cid R m = [] := List.eq_nil_iff_forall_not_mem.2 fun x hx => by
        obtain ⟨i, h1, h2, _⟩ := class_mem.1 hx
        exact h ⟨i, h1, h2⟩
      simp [this, h]
  rw [e1, show (fun i => classL n cid R (R i)) = (classL n cid R) ∘ R from rfl, ← List.map_map]
  exact (hp.map _).filter _
/-- heads and marks that tell the same tell the same groups -/
theorem groups_same (n : Nat) (cid R M : Nat → Nat) (hR : ∀ x, x < n → R x < n) (hM : ∀ x, x < n → M x < n) (h : ∀ x y, x < n → y < n → (R x = R y ↔ M x = M y)) : (groupsL n cid R).Perm (groupsL n cid M) := by
  refine (class_heads n cid R hR).trans (List.Perm.trans ?_ (class_heads n cid M hM).symm)
  have e1 : firsts n R = firsts n M := List.filter_congr fun i hi => by
    have hi2 := List.mem_range.1 hi
    rw [decide_eq_decide]
    exact ⟨fun h1 j hj e => h1 j hj ((h j i (by omega) hi2).2 e), fun h1 j hj e => h1 j hj ((h j i (by omega) hi2).1 e)⟩
  rw [e1]
  refine List.Perm.of_eq (congrArg _ (List.map_congr_left fun i hi => ?_))
  have hi2 := List.mem_range.1 (List.mem_filter.1 hi).1
  unfold classL
  congr 2
  refine List.filter_congr fun j hj => ?_
  rw [decide_eq_decide]
  exact h j i (List.mem_range.1 hj) hi2
end Go.Proofs.YtfkfpanhbanljaaGreatDoor.Twin
