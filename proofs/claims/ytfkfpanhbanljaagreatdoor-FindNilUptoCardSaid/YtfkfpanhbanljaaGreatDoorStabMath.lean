/- Sorting that keeps equals in order: insertion, merging, cutting: the plain law. -/
import Derived.WalkKit
namespace Go.Proofs.YtfkfpanhbanljaaGreatDoor.Stab

section
variable {α : Type} (lt : α → α → Bool)
/-- a strict order in which what is equal may be exchanged -/
structure SWO : Prop where
  irr : ∀ a, lt a a = false
  asym : ∀ a b, lt a b = true → lt b a = false
  neg : ∀ a b c, lt a b = false → lt b c = false → lt a c = false
def Srt (l : List α) : Prop := l.Pairwise fun a b => lt b a = false
/-- in its place, behind its equals -/
def ins : List α → α → List α
  | [], x => [x]
  | y :: l, x => if lt x y = true then x :: y :: l else y :: ins l x
def stab (l : List α) : List α := l.foldl (ins lt) []
def mrg : List α → List α → List α
  | [], B => B
  | a :: A, [] => a :: A
  | a :: A, b :: B => if lt b a = true then b :: mrg (a :: A) B else a :: mrg A (b :: B)
termination_by A B => A.length + B.length
end
section
variable {α : Type} {lt : α → α → Bool}
theorem mrg_nil (A : List α) : mrg lt A [] = A := by cases A <;> simp [mrg]
theorem nil_mrg (B : List α) : mrg lt [] B = B := by simp [mrg]
theorem SWO.lt_of (h : SWO lt) {a b c : α} (h1 : lt a b = true) (h2 : lt c b = false) : lt a c = true := by
  cases h3 : lt a c with
  | true => rfl
  | false => rw [h.neg a c b h3 h2] at h1; cases h1
theorem SWO.of_lt (h : SWO lt) {a b c : α} (h1 : lt b c = true) (h2 : lt b a = false) : lt a c = true := by
  cases h3 : lt a c with
  | true => rfl
  | false => rw [h.neg b a c h2 h3] at h1; cases h1
theorem ins_perm : ∀ (l : List α) (x : α), (ins lt l x).Perm (x :: l)
  | [], _ => .refl _
  | y :: l, x => by
    unfold ins
    split
    · exact .refl _
    · exact ((ins_perm l x).cons y).trans (.swap x y l)
theorem ins_len (l : List α) (x : α) : (ins lt l x).length = l.length + 1 := by rw [(ins_perm l x).length_eq]; rfl
theorem foldl_perm : ∀ (l acc : List α), (l.foldl (ins lt) acc).Perm (acc ++ l)
  | [], acc => by simp
  | x :: l, acc => by
    refine (foldl_perm l (ins lt acc x)).trans (((ins_perm acc x).append_right l).trans ?_)
    exact (List.perm_middle (a := x) (l₁ := acc) (l₂ := l)).symm
theorem stab_perm (l : List α) : (stab lt l).Perm l := by unfold stab; simpa using foldl_perm (lt := lt) l []
theorem stab_len (l : List α) : (stab lt l).length = l.length := (stab_perm l).length_eq
theorem ins_srt (h : SWO lt) : ∀ (l : List α) (x : α), Srt lt l → Srt lt (ins lt l x)
  | [], _, _ => List.pairwise_singleton _ _
  | y :: l, x, hl => by
    unfold ins
    have hc := List.pairwise_cons.1 hl
    split
    · rename_i hxy
      refine List.pairwise_cons.2 ⟨fun b hb => ?_, hl⟩
      rcases List.mem_cons.1 hb with rfl | hb
      · exact h.asym _ _ hxy
      · exact h.neg b y x (hc.1 b hb) (h.asym _ _ hxy)
    · rename_i hxy
      have hxy : lt x y = false := by simpa using hxy
      refine List.pairwise_cons.2 ⟨fun b hb => ?_, ins_srt h l x hc.2⟩
      rcases List.mem_cons.1 ((ins_perm l x).mem_iff.1 hb) with rfl | hb
      · exact hxy
      · exact hc.1 b hb
theorem foldl_srt (h : SWO lt) : ∀ (l acc : List α), Srt lt acc → Srt lt (l.foldl (ins lt) acc)
  | [], _, ha => ha
  | x :: l, acc, ha => foldl_srt h l _ (ins_srt h acc x ha)
theorem stab_srt (h : SWO lt) (l : List α) : Srt lt (stab lt l) := foldl_srt h l [] List.Pairwise.nil
theorem stab_snoc (l : List α) (x : α) : stab lt (l ++ [x]) = ins lt (stab lt l) x := by unfold stab; rw [List.foldl_append]; rfl
/-- where it goes -/
theorem ins_split : ∀ (U V : List α) (x : α), (∀ u ∈ U, lt x u = false) → (∀ v, V.head? = some v → lt x v = true) → ins lt (U ++ V) x = U ++ x :: V
  | [], [], x, _, _ => rfl
  | [], v :: V, x, _, h => by
    show ins lt (v :: V) x = x :: v :: V
    unfold ins
    rw [if_pos (h v rfl)]
  | u :: U, V, x, hu, h => by
    show ins lt (u :: (U ++ V)) x = u :: (U ++ x :: V)
    unfold ins
    rw [hu u (List.mem_cons_self ..)]
    simp only [Bool.false_eq_true, if_false]
    rw [ins_split U V x (fun q hq => hu q (List.mem_cons_of_mem _ hq)) h]
theorem mrg_cons_lt {a b : α} {A B : List α} (h : lt b a = true) : mrg lt (a :: A) (b :: B) = b :: mrg lt (a :: A) B := by rw [mrg, if_pos h]
theorem mrg_cons_ge {a b : α} {A B : List α} (h : lt b a = false) : mrg lt (a :: A) (b :: B) = a :: mrg lt A (b :: B) := by rw [mrg, if_neg (by rw [h]; decide)]
theorem mrg_one (A : List α) (b : α) : mrg lt A [b] = ins lt A b := by
  induction A with
  | nil => simp [mrg, ins]
  | cons a A ih =>
    cases h : lt b a with
    | true => rw [mrg_cons_lt h, mrg_nil, ins, if_pos h]
    | false => rw [mrg_cons_ge h, ih, ins, if_neg (by rw [h]; decide)]
/-- one ahead of a row: behind all that are smaller -/
theorem one_mrg : ∀ (U V : List α) (a : α), (∀ u ∈ U, lt u a = true) → (∀ v, V.head? = some v → lt v a = false) → mrg lt [a] (U ++ V) = U ++ a :: V
  | [], [], a, _, _ => mrg_nil _
  | [], v :: V, a, _, h => by
    show mrg lt [a] (v :: V) = a :: v :: V
    rw [mrg_cons_ge (h v rfl), nil_mrg]
  | u :: U, V, a, hu, h => by
    show mrg lt [a] (u :: (U ++ V)) = u :: (U ++ a :: V)
    rw [mrg_cons_lt (hu u (List.mem_cons_self ..)), one_mrg U V a (fun q hq => hu q (List.mem_cons_of_mem _ hq)) h]
theorem mrg_perm : ∀ (A B : List α), (mrg lt A B).Perm (A ++ B)
  | [], B => by rw [nil_mrg]; exact .refl _
  | a :: A, [] => by rw [mrg_nil]; simp
  | a :: A, b :: B => by
    cases h : lt b a with
    | true =>
      rw [mrg_cons_lt h]
      exact ((mrg_perm (a :: A) B).cons b).trans (List.perm_middle (a := b) (l₁ := a :: A) (l₂ := B)).symm
    | false =>
      rw [mrg_cons_ge h]
      exact (mrg_perm A (b :: B)).cons a
termination_by A B => A.length + B.length
theorem mrg_len (A B : List α) : (mrg lt A B).length = A.length + B.length := by rw [(mrg_perm A B).length_eq, List.length_append]
/-- one more behind all: as if the right row had had it -/
theorem ins_mrg (h : SWO lt) : ∀ (A B : List α) (x : α), Srt lt A → Srt lt B → ins lt (mrg lt A B) x = mrg lt A (ins lt B x)
  | [], B, x, _, _ => by rw [nil_mrg, nil_mrg]
  | a :: A, [], x, _, _ => by rw [mrg_nil]; exact (mrg_one (a :: A) x).symm
  | a :: A, b :: B, x, hA, hB => by
    have cA := List.pairwise_cons.1 hA
    have cB := List.pairwise_cons.1 hB
    cases hba : lt b a with
    | true =>
      rw [mrg_cons_lt hba]
      cases hxb : lt x b with
      | true =>
        have hxa : lt x a = true := by
          cases hc : lt x a with
          | true => rfl
          | false =>
            have := h.neg x a b hc (h.asym _ _ hba)
            rw [this] at hxb; cases hxb
        rw [ins, if_pos hxb, ins, if_pos hxb, mrg_cons_lt hxa, mrg_cons_lt hba]
      | false =>
        rw [ins, if_neg (by rw [hxb]; decide), ins_mrg h (a :: A) B x hA cB.2]
        conv => rhs; rw [ins, if_neg (by rw [hxb]; decide)]
        rw [mrg_cons_lt hba]
    | false =>
      rw [mrg_cons_ge hba]
      cases hxa : lt x a with
      | true =>
        have hxb : lt x b = true := by
          cases hc : lt x b with
          | true => rfl
          | false =>
            have := h.neg x b a hc hba
            rw [this] at hxa; cases hxa
        rw [ins, if_pos hxa, ins, if_pos hxb, mrg_cons_lt hxa, mrg_cons_ge hba]
      | false =>
        rw [ins, if_neg (by rw [hxa]; decide), ins_mrg h A (b :: B) x cA.2 hB]
        cases hxb : lt x b with
        | true => rw [ins, if_pos hxb, mrg_cons_ge hxa]
        | false => rw [ins, if_neg (by rw [hxb]; decide), mrg_cons_ge hba]
termination_by A B => A.length + B.length
theorem foldl_mrg (h : SWO lt) (X : List α) (hX : Srt lt X) : ∀ (l B : List α), Srt lt B → l.foldl (ins lt) (mrg lt X B) = mrg lt X (l.foldl (ins lt) B)
  | [], _, _ => rfl
  | x :: l, B, hB => by
    show l.foldl (ins lt) (ins lt (mrg lt X B) x) = mrg lt X (l.foldl (ins lt) (ins lt B x))
    rw [ins_mrg h X B x hX hB]
    exact foldl_mrg h X hX l _ (ins_srt h B x hB)
theorem stab_append (h : SWO lt) (A B : List α) : stab lt (A ++ B) = mrg lt (stab lt A) (stab lt B) := by
  unfold stab
  rw [List.foldl_append]
  have := foldl_mrg h (A.foldl (ins lt) []) (stab_srt h A) B [] List.Pairwise.nil
  rw [mrg_nil] at this
  exact this
/-- two rows cut so that what is ahead in either goes ahead of what is behind in the other -/
theorem mrg_cut (h : SWO lt) : ∀ (A1 B1 A2 B2 : List α), Srt lt (A1 ++ A2) → Srt lt (B1 ++ B2) → (∀ b ∈ B1, ∀ a ∈ A2, lt b a = true) → (∀ a ∈ A1, ∀ b ∈ B2, lt b a = false) →
    mrg lt (A1 ++ A2) (B1 ++ B2) = mrg lt A1 B1 ++ mrg lt A2 B2
  | [], [], A2, B2, _, _, _, _ => by rw [nil_mrg]; rfl
  | [], b :: B1, [], B2, hA, hB, h1, h2 => by
    show mrg lt [] ((b :: B1) ++ B2) = mrg lt [] (b :: B1) ++ mrg lt [] B2
    rw [nil_mrg, nil_mrg, nil_mrg]
  | [], b :: B1, a :: A2, B2, hA, hB, h1, h2 => by
    show mrg lt (a :: A2) (b :: (B1 ++ B2)) = mrg lt [] (b :: B1) ++ mrg lt (a :: A2) B2
    rw [mrg_cons_lt (h1 b (List.mem_cons_self ..) a (List.mem_cons_self ..)), nil_mrg]
    have ih := mrg_cut h [] B1 (a :: A2) B2 hA (List.pairwise_cons.1 hB).2 (fun q hq => h1 q (List.mem_cons_of_mem _ hq)) h2
    rw [nil_mrg] at ih
    show b :: mrg lt ([] ++ (a :: A2)) (B1 ++ B2) = _
    rw [ih]
    rfl
  | a :: A1, [], A2, [], hA, hB, h1, h2 => by
    show mrg lt ((a :: A1) ++ A2) [] = mrg lt (a :: A1) [] ++ mrg lt A2 []
    rw [mrg_nil, mrg_nil, mrg_nil]
  | a :: A1, [], A2, b :: B2, hA, hB, h1, h2 => by
    show mrg lt (a :: (A1 ++ A2)) (b :: B2) = mrg lt (a :: A1) [] ++ mrg lt A2 (b :: B2)
    rw [mrg_cons_ge (h2 a (List.mem_cons_self ..) b (List.mem_cons_self ..)), mrg_nil]
    have ih := mrg_cut h A1 [] A2 (b :: B2) (List.pairwise_cons.1 hA).2 hB h1 (fun q hq => h2 q (List.mem_cons_of_mem _ hq))
    rw [mrg_nil] at ih
    show a :: mrg lt (A1 ++ A2) ([] ++ (b :: B2)) = _
    rw [ih]
    rfl
  | a :: A1, b :: B1, A2, B2, hA, hB, h1, h2 => by
    cases hba : lt b a with
    | true =>
      show mrg lt (a :: (A1 ++ A2)) (b :: (B1 ++ B2)) = _
      rw [mrg_cons_lt hba, mrg_cons_lt hba]
      have ih := mrg_cut h (a :: A1) B1 A2 B2 hA (List.pairwise_cons.1 hB).2 (fun q hq => h1 q (List.mem_cons_of_mem _ hq)) h2
      show b :: mrg lt ((a :: A1) ++ A2) (B1 ++ B2) = _
      rw [ih]
      rfl
    | false =>
      show mrg lt (a :: (A1 ++ A2)) (b :: (B1 ++ B2)) = _
      rw [mrg_cons_ge hba, mrg_cons_ge hba]
      have ih := mrg_cut h A1 (b :: B1) A2 B2 (List.pairwise_cons.1 hA).2 hB h1 (fun q hq => h2 q (List.mem_cons_of_mem _ hq))
      show a :: mrg lt (A1 ++ A2) ((b :: B1) ++ B2) = _
      rw [ih]
      rfl
termination_by A1 B1 => A1.length + B1.length
theorem mrg_srt (h : SWO lt) : ∀ (A B : List α), Srt lt A → Srt lt B → Srt lt (mrg lt A B)
  | [], B, _, hB => by rw [nil_mrg]; exact hB
  | a :: A, [], hA, _ => by rw [mrg_nil]; exact hA
  | a :: A, b :: B, hA, hB => by
    have cA := List.pairwise_cons.1 hA
    have cB := List.pairwise_cons.1 hB
    cases hba : lt b a with
    | true =>
      rw [mrg_cons_lt hba]
      refine List.pairwise_cons.2 ⟨fun q hq => ?_, mrg_srt h (a :: A) B hA cB.2⟩
      have h1 := h.asym _ _ hba
      rcases List.mem_append.1 ((mrg_perm (a :: A) B).mem_iff.1 hq) with hq | hq
      · rcases List.mem_cons.1 hq with rfl | hq
        · exact h1
        · exact h.neg q a b (cA.1 q hq) h1
      · exact cB.1 q hq
    | false =>
      rw [mrg_cons_ge hba]
      refine List.pairwise_cons.2 ⟨fun q hq => ?_, mrg_srt h A (b :: B) cA.2 hB⟩
      rcases List.mem_append.1 ((mrg_perm A (b :: B)).mem_iff.1 hq) with hq | hq
      · exact cA.1 q hq
      · rcases List.mem_cons.1 hq with rfl | hq
        · exact hba
        · exact h.neg q b a (cB.1 q hq) hba
termination_by A B => A.length + B.length
theorem srt_at {l : List α} (hl : Srt lt l) (h : SWO lt) {i j : Nat} {x y : α} (hi : l[i]? = some x) (hj : l[j]? = some y) (hij : i ≤ j) : lt y x = false := by
  obtain ⟨h1, rfl⟩ := List.getElem?_eq_some_iff.1 hi
  obtain ⟨h2, rfl⟩ := List.getElem?_eq_some_iff.1 hj
  rcases Nat.lt_or_eq_of_le hij with h3 | h3
  · exact List.pairwise_iff_getElem.1 hl i j h1 h2 h3
  · subst h3; exact h.irr _
theorem mem_take_at {l : List α} {n : Nat} {x : α} (hx : x ∈ l.take n) : ∃ i, i < n ∧ l[i]? = some x := by
  obtain ⟨i, hi, rfl⟩ := List.mem_iff_getElem.1 hx
  have h1 : i < n := by rw [List.length_take] at hi; omega
  have h2 : i < l.length := by rw [List.length_take] at hi; omega
  exact ⟨i, h1, by rw [List.getElem_take, List.getElem?_eq_getElem h2]⟩
theorem mem_drop_at {l : List α} {n : Nat} {x : α} (hx : x ∈ l.drop n) : ∃ i, n ≤ i ∧ l[i]? = some x := by
  obtain ⟨i, hi, rfl⟩ := List.mem_iff_getElem.1 hx
  rw [List.length_drop] at hi
  exact ⟨n + i, by omega, by rw [List.getElem_drop, List.getElem?_eq_getElem]⟩
/-- the cut that the search finds -/
theorem cut_ok (h : SWO lt) {A B : List α} {u v : Nat} (hA : Srt lt A) (hB : Srt lt B) (hu : u ≤ A.length) (hv : v ≤ B.length) (f1 : ∀ x y, 0 < u → A[u - 1]? = some x → B[v]? = some y → lt y x = false)
    (f2 : ∀ x y, 0 < v → A[u]? = some x → B[v - 1]? = some y → lt y x = true) : mrg lt A B = mrg lt (A.take u) (B.take v) ++ mrg lt (A.drop u) (B.drop v) := by
  have hc := mrg_cut h (A.take u) (B.take v) (A.drop u) (B.drop v) (by rw [List.take_append_drop]; exact hA) (by rw [List.take_append_drop]; exact hB) ?_ ?_
  · rw [List.take_append_drop, List.take_append_drop] at hc; exact hc
  · intro b hb a ha
    obtain ⟨i, hi, eb⟩ := mem_take_at hb
    obtain ⟨j, hj, ea⟩ := mem_drop_at ha
    have hjl := (List.getElem?_eq_some_iff.1 ea).1
    have hil := (List.getElem?_eq_some_iff.1 eb).1
    obtain ⟨x, hx⟩ : ∃ x, A[u]? = some x := ⟨_, List.getElem?_eq_getElem (by omega)⟩
    rcases Nat.lt_or_ge (v - 1) B.length with hvl | hvl
    · obtain ⟨y, hy⟩ : ∃ y, B[v - 1]? = some y := ⟨_, List.getElem?_eq_getElem hvl⟩
      have h1 := f2 x y (by omega) hx hy
      have h2 := srt_at hB h eb hy (by omega)
      have h3 := srt_at hA h hx ea hj
      exact h.lt_of (h.of_lt h1 h2 ) h3
    · exfalso; omega
  · intro a ha b hb
    obtain ⟨i, hi, ea⟩ := mem_take_at ha
    obtain ⟨j, hj, eb⟩ := mem_drop_at hb
    have hjl := (List.getElem?_eq_some_iff.1 eb).1
    have hil := (List.getElem?_eq_some_iff.1 ea).1
    obtain ⟨y, hy⟩ : ∃ y, B[v]? = some y := ⟨_, List.getElem?_eq_getElem (by omega)⟩
    rcases Nat.lt_or_ge (u - 1) A.length with hul | hul
    · obtain ⟨x, hx⟩ : ∃ x, A[u - 1]? = some x := ⟨_, List.getElem?_eq_getElem hul⟩
      have h1 := f1 x y (by omega) hx hy
      have h2 := srt_at hA h ea hx (by omega)
      have h3 := srt_at hB h hy eb hj
      exact h.neg b x a (h.neg b y x h3 h1) h2
    · exfalso; omega
end
end Go.Proofs.YtfkfpanhbanljaaGreatDoor.Stab
