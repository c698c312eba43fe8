import Derived.Test.YtfkfpanhbanljaaGreatDoorMem
/- Layer 47 (twin): which ones hang together: the plain law of joining and of marking. -/
namespace Go.Proofs.YtfkfpanhbanljaaGreatDoor.Twin

/-- there is a way from one to the other, among the first n -/
inductive Conn (n : Nat) (adj : Nat → Nat → Bool) : Nat → Nat → Prop
  | refl (x : Nat) : x < n → Conn n adj x x
  | step {x y z : Nat} : Conn n adj x y → z < n → adj y z = true → Conn n adj x z
section
variable {n : Nat} {adj : Nat → Nat → Bool}
theorem Conn.left {x y : Nat} (h : Conn n adj x y) : x < n := by induction h with | refl h => exact h | step _ _ _ ih => exact ih
theorem Conn.right {x y : Nat} (h : Conn n adj x y) : y < n := by cases h with | refl h => exact h | step _ h _ => exact h
theorem Conn.trans {x y z : Nat} (h : Conn n adj x y) (k : Conn n adj y z) : Conn n adj x z := by
  induction k with
  | refl _ => exact h
  | step _ h2 h3 ih => exact .step ih h2 h3
theorem Conn.one {x y : Nat} (hx : x < n) (hy : y < n) (h : adj x y = true) : Conn n adj x y := .step (.refl x hx) hy h
theorem Conn.symm (hs : ∀ i k, adj i k = adj k i) {x y : Nat} (h : Conn n adj x y) : Conn n adj y x := by
  induction h with
  | refl h => exact .refl x h
  | step h1 h2 h3 ih => exact (Conn.one h2 h1.right (by rw [hs]; exact h3)).trans ih
/-- a way out of a set has a step out of it -/
theorem Conn.out {P : Nat → Prop} {x y : Nat} (h : Conn n adj x y) (hx : P x) (hy : ¬ P y) : ∃ p q, P p ∧ ¬ P q ∧ adj p q = true ∧ Conn n adj x p ∧ q < n := by
  induction h with
  | refl h => exact absurd hx hy
  | @step b c h1 h2 h3 ih =>
    by_cases hb : P b
    · exact ⟨b, c, hb, hy, h3, h1, h2⟩
    · exact ih hb
/-! the program's way: each one has a head; two that are alike come under one -/
def joinR (R : Nat → Nat) (i k : Nat) : Nat → Nat := fun x => if R x = R i then R k else R x
def pairR (adj : Nat → Nat → Bool) (R : Nat → Nat) (p : Nat × Nat) : Nat → Nat := if adj p.1 p.2 = true then joinR R p.1 p.2 else R
def HeadOk (n : Nat) (adj : Nat → Nat → Bool) (R : Nat → Nat) : Prop := ∀ x, x < n → R x < n ∧ Conn n adj x (R x) ∧ R (R x) = R x
theorem head_id : HeadOk n adj id := fun x hx => ⟨hx, .refl x hx, rfl⟩
theorem head_join (hs : ∀ i k, adj i k = adj k i) {R : Nat → Nat} (h : HeadOk n adj R) {i k : Nat} (hi : i < n) (hk : k < n) (ha : adj i k = true) : HeadOk n adj (joinR R i k) := by
  intro x hx
  obtain ⟨h1, h2, h3⟩ := h x hx
  obtain ⟨k1, k2, k3⟩ := h k hk
  obtain ⟨i1, i2, i3⟩ := h i hi
  unfold joinR
  by_cases e : R x = R i
  · simp only [e, if_true]
    refine ⟨k1, ?_, ?_⟩
    · rw [e] at h2
      exact (h2.trans (i2.symm hs)).trans ((Conn.one hi hk ha).trans k2)
    · split
      · rfl
      · exact k3
  · simp only [if_neg e]
    refine ⟨h1, h2, ?_⟩
    rw [if_neg (by rw [h3]; exact e), h3]
theorem head_pair (hs : ∀ i k, adj i k = adj k i) {R : Nat → Nat} (h : HeadOk n adj R) {p : Nat × Nat} (hi : p.1 < n) (hk : p.2 < n) : HeadOk n adj (pairR adj R p) := by
  unfold pairR
  split
  · exact head_join hs h hi hk (by assumption)
  · exact h
theorem pair_keeps {R : Nat → Nat} {p : Nat × Nat} {x y : Nat} (h : R x = R y) : pairR adj R p x = pairR adj R p y := by
  unfold pairR joinR
  split
  · dsimp only; rw [h]
  · exact h
theorem pair_joins {R : Nat → Nat} {p : Nat × Nat} (ha : adj p.1 p.2 = true) : pairR adj R p p.1 = pairR adj R p p.2 := by
  unfold pairR joinR
  rw [if_pos ha]
  show (if R p.1 = R p.1 then R p.2 else R p.1) = (if R p.2 = R p.1 then R p.2 else R p.2)
  rw [if_pos rfl]
  split <;> rfl
theorem fold_keeps : ∀ (ps : List (Nat × Nat)) {R : Nat → Nat} {x y : Nat}, R x = R y → ps.foldl (pairR adj) R x = ps.foldl (pairR adj) R y
  | [], _, _, _, h => h
  | p :: ps, _, _, _, h => fold_keeps ps (pair_keeps h)
theorem fold_joins : ∀ (ps : List (Nat × Nat)) {R : Nat → Nat} {p : Nat × Nat}, p ∈ ps → adj p.1 p.2 = true → ps.foldl (pairR adj) R p.1 = ps.foldl (pairR adj) R p.2
  | [], _, _, h, _ => by cases h
  | q :: ps, R, p, h, ha => by
    rw [List.foldl_cons]
    rcases List.mem_cons.1 h with rfl | h
    · exact fold_keeps ps (pair_joins ha)
    · exact fold_joins ps h ha
theorem fold_head (hs : ∀ i k, adj i k = adj k i) : ∀ (ps : List (Nat × Nat)) {R : Nat → Nat}, HeadOk n adj R → (∀ p ∈ ps, p.1 < n ∧ p.2 < n) → HeadOk n adj (ps.foldl (pairR adj) R)
  | [], _, h, _ => h
  | p :: ps, _, h, hp => fold_head hs ps (head_pair hs h (hp p (List.mem_cons_self ..)).1 (hp p (List.mem_cons_self ..)).2) fun q hq => hp q (List.mem_cons_of_mem _ hq)
/-- the pairs that were looked at behind i rows and k of the next one -/
def lowPairs (i k : Nat) : List (Nat × Nat) := (List.range i).flatMap (fun a => (List.range a).map fun b => (a, b)) ++ (List.range k).map fun b => (i, b)
theorem low_mem {i k : Nat} {p : Nat × Nat} : p ∈ lowPairs i k ↔ (p.1 < i ∧ p.2 < p.1) ∨ (p.1 = i ∧ p.2 < k) := by
  unfold lowPairs
  simp only [List.mem_append, List.mem_flatMap, List.mem_range, List.mem_map]
  constructor
  · rintro (⟨a, h1, b, h2, rfl⟩ | ⟨b, h2, rfl⟩)
    · exact .inl ⟨h1, h2⟩
    · exact .inr ⟨rfl, h2⟩
  · rintro (⟨h1, h2⟩ | ⟨h1, h2⟩)
    · exact .inl ⟨p.1, h1, p.2, h2, rfl⟩
    · exact .inr ⟨p.2, h2, by rw [← h1]⟩
theorem low_next (i k : Nat) : lowPairs i (k + 1) = lowPairs i k ++ [(i, k)] := by unfold lowPairs; rw [List.range_succ, List.map_append, List.append_assoc]; rfl
theorem low_row (i : Nat) : lowPairs i i = lowPairs (i + 1) 0 := by unfold lowPairs; rw [List.range_succ, List.flatMap_append]; simp
def headR (adj : Nat → Nat → Bool) (i k : Nat) : Nat → Nat := (lowPairs i k).foldl (pairR adj) id
theorem headR_next (i k : Nat) : headR adj i (k + 1) = pairR adj (headR adj i k) (i, k) := by unfold headR; rw [low_next, List.foldl_append]; rfl
theorem headR_row (i : Nat) : headR adj i i = headR adj (i + 1) 0 := by unfold headR; rw [low_row]
theorem headR_ok (hs : ∀ i k, adj i k = adj k i) {i k : Nat} (h : i < n ∧ k ≤ i ∨ i ≤ n ∧ k = 0) : HeadOk n adj (headR adj i k) := fold_head hs _ head_id fun p hp => by
  rcases low_mem.1 hp with ⟨h1, h2⟩ | ⟨h1, h2⟩ <;> omega
/-- the heads tell which ones hang together -/
theorem headR_iff (hs : ∀ i k, adj i k = adj k i) {x y : Nat} (hx : x < n) (hy : y < n) : headR adj n 0 x = headR adj n 0 y ↔ Conn n adj x y := by
  have hok := headR_ok (n := n) (i := n) (k := 0) hs (.inr ⟨Nat.le_refl _, rfl⟩)
  constructor
  · intro h
    have h1 := (hok x hx).2.1
    have h2 := (hok y hy).2.1
    rw [h] at h1
    exact h1.trans (h2.symm hs)
  · intro h
    induction h with
    | refl _ => rfl
    | @step b c h1 h2 h3 ih =>
      rw [ih h1.right]
      rcases Nat.lt_trichotomy b c with hl | hl | hl
      · exact (fold_joins _ (p := (c, b)) (low_mem.2 (.inl ⟨h2, hl⟩)) (by rw [hs]; exact h3)).symm
      · rw [hl]
      · exact fold_joins _ (p := (b, c)) (low_mem.2 (.inl ⟨h1.right, hl⟩)) h3
/-! the document's way: each one has a mark, which becomes that of one that it is like, if this is less -/
def markS (adj : Nat → Nat → Bool) (M : Nat → Nat) (p : Nat × Nat) : Nat → Nat := if M p.2 < M p.1 ∧ adj p.1 p.2 = true then fun x => if x = p.1 then M p.2 else M x else M
theorem mark_le (M : Nat → Nat) (p : Nat × Nat) (x : Nat) : markS adj M p x ≤ M x := by
  unfold markS
  split
  · dsimp only; split
    · rename_i h e; subst e; omega
    · exact Nat.le_refl _
  · exact Nat.le_refl _
theorem marks_le : ∀ (ps : List (Nat × Nat)) (M : Nat → Nat) (x : Nat), ps.foldl (markS adj) M x ≤ M x
  | [], _, _ => Nat.le_refl _
  | p :: ps, M, x => Nat.le_trans (marks_le ps _ x) (mark_le M p x)
theorem marks_got : ∀ (ps : List (Nat × Nat)) (M : Nat → Nat) {p : Nat × Nat}, p ∈ ps → adj p.1 p.2 = true → ps.foldl (markS adj) M p.1 ≤ M p.2
  | [], _, _, h, _ => by cases h
  | q :: ps, M, p, h, ha => by
    rw [List.foldl_cons]
    rcases List.mem_cons.1 h with rfl | h
    · refine Nat.le_trans (marks_le ps _ _) ?_
      unfold markS
      split
      · dsimp only; rw [if_pos rfl]; exact Nat.le_refl _
      · rename_i hn
        rcases Nat.lt_or_ge (M p.2) (M p.1) with h1 | h1
        · exact absurd ⟨h1, ha⟩ hn
        · exact h1
    · exact Nat.le_trans (marks_got ps _ h ha) (mark_le M q _)
def MarkOk (n : Nat) (adj : Nat → Nat → Bool) (M : Nat → Nat) : Prop := ∀ x, x < n → Conn n adj x (M x)
theorem mark_ok {M : Nat → Nat} (h : MarkOk n adj M) {p : Nat × Nat} (h1 : p.1 < n) (h2 : p.2 < n) : MarkOk n adj (markS adj M p) := by
  intro x hx
  unfold markS
  split
  · rename_i hc
    dsimp only; split
    · rename_i e; subst e; exact (Conn.one h1 h2 hc.2).trans (h p.2 h2)
    · exact h x hx
  · exact h x hx
theorem marks_ok : ∀ (ps : List (Nat × Nat)) {M : Nat → Nat}, MarkOk n adj M → (∀ p ∈ ps, p.1 < n ∧ p.2 < n) → MarkOk n adj (ps.foldl (markS adj) M)
  | [], _, h, _ => h
  | p :: ps, _, h, hp => marks_ok ps (mark_ok h (hp p (List.mem_cons_self ..)).1 (hp p (List.mem_cons_self ..)).2) fun q hq => hp q (List.mem_cons_of_mem _ hq)
/-- the pairs of a turn: behind i rows, and k of the next one -/
def allPairs (n i k : Nat) : List (Nat × Nat) := (List.range i).flatMap (fun a => (List.range n).map fun b => (a, b)) ++ (List.range k).map fun b => (i, b)
theorem all_mem {i k : Nat} {p : Nat × Nat} : p ∈ allPairs n i k ↔ (p.1 < i ∧ p.2 < n) ∨ (p.1 = i ∧ p.2 < k) := by
  unfold allPairs
  simp only [List.mem_append, List.mem_flatMap, List.mem_range, List.mem_map]
  constructor
  · rintro (⟨a, h1, b, h2, rfl⟩ | ⟨b, h2, rfl⟩)
    · exact .inl ⟨h1, h2⟩
    · exact .inr ⟨rfl, h2⟩
  · rintro (⟨h1, h2⟩ | ⟨h1, h2⟩)
    · exact .inl ⟨p.1, h1, p.2, h2, rfl⟩
    · exact .inr ⟨p.2, h2, by rw [← h1]⟩
theorem all_next (i k : Nat) : allPairs n i (k + 1) = allPairs n i k ++ [(i, k)] := by unfold allPairs; rw [List.range_succ, List.map_append, List.append_assoc]; rfl
theorem all_row (i : Nat) : allPairs n i n = allPairs n (i + 1) 0 := by unfold allPairs; rw [List.range_succ, List.flatMap_append]; simp
/-- the marks behind t turns -/
def turns (n : Nat) (adj : Nat → Nat → Bool) : Nat → Nat → Nat
  | 0 => id
  | t + 1 => (allPairs n n 0).foldl (markS adj) (turns n adj t)
theorem turns_ok : ∀ t, MarkOk n adj (turns n adj t)
  | 0 => fun x hx => .refl x hx
  | t + 1 => marks_ok _ (turns_ok t) fun p hp => by rcases all_mem.1 hp with h | h <;> omega
theorem count_grows {P Q : Nat → Bool} : ∀ (l : List Nat), (∀ x ∈ l, P x = true → Q x = true) → (∃ x ∈ l, Q x = true ∧ P x = false) → l.countP P + 1 ≤ l.countP Q
  | [], _, ⟨x, hx, _⟩ => by cases hx
  | a :: l, h, ⟨x, hx, h1, h2⟩ => by
    have hm : ∀ l : List Nat, (∀ x ∈ l, P x = true → Q x = true) → l.countP P ≤ l.countP Q := fun l h => List.countP_mono_left h
    rw [List.countP_cons, List.countP_cons]
    rcases List.mem_cons.1 hx with rfl | hx
    · have := hm l fun y hy => h y (List.mem_cons_of_mem _ hy)
      rw [h1, h2]; simp; omega
    · have := count_grows l (fun y hy => h y (List.mem_cons_of_mem _ hy)) ⟨x, hx, h1, h2⟩
      by_cases ha : P a = true
      · rw [ha, h a (List.mem_cons_self ..) ha]; simp; omega
      · rw [if_neg ha]; omega
open Classical in
theorem turns_grow (hs : ∀ i k, adj i k = adj k i) {c : Nat} (hc : c < n) (hmin : ∀ z, Conn n adj c z → c ≤ z) (t : Nat) :
    (∀ z, Conn n adj c z → turns n adj t z = c) ∨ t + 1 ≤ (List.range n).countP fun z => decide (Conn n adj c z ∧ turns n adj t z = c) := by
  have hge : ∀ t z, Conn n adj c z → c ≤ turns n adj t z := fun t z h => hmin _ (h.trans (turns_ok t z h.right))
  have hnx : ∀ t z, Conn n adj c z → turns n adj t z = c → turns n adj (t + 1) z = c := fun t z h e => Nat.le_antisymm (e ▸ marks_le _ _ z) (hge (t + 1) z h)
  induction t with
  | zero =>
    refine .inr ?_
    have : 0 < (List.range n).countP fun z => decide (Conn n adj c z ∧ turns n adj 0 z = c) := List.countP_pos_iff.2 ⟨c, List.mem_range.2 hc, by simpa using ⟨Conn.refl c hc, rfl⟩⟩
    omega
  | succ t ih =>
    rcases ih with h | h
    · exact .inl fun z hz => hnx t z hz (h z hz)
    · by_cases hall : ∀ z, Conn n adj c z → turns n adj t z = c
      · exact .inl fun z hz => hnx t z hz (hall z hz)
      · refine .inr ?_
        obtain ⟨y, hy⟩ : ∃ y, Conn n adj c y ∧ turns n adj t y ≠ c := by
          refine Classical.byContradiction fun hn => hall fun z hz => Classical.byContradiction fun e => hn ⟨z, hz, e⟩
        have hc0 : turns n adj t c = c := by
          have := hge t c (.refl c hc)
          have h2 : ∀ t, turns n adj t c ≤ c := fun t => by
            induction t with
            | zero => exact Nat.le_refl _
            | succ t ih => exact Nat.le_trans (marks_le _ _ c) ih
          exact Nat.le_antisymm (h2 t) this
        obtain ⟨p, q, hp, hq, hpq, hcp, hqn⟩ := hy.1.out (P := fun z => turns n adj t z = c) hc0 hy.2
        have hcq : Conn n adj c q := .step hcp hqn hpq
        have hq2 : turns n adj (t + 1) q = c := Nat.le_antisymm (by
          have h1 := marks_got (adj := adj) (allPairs n n 0) (turns n adj t) (p := (q, p)) (all_mem.2 (.inl ⟨hqn, hcp.right⟩)) (by rw [hs]; exact hpq)
          rw [hp] at h1
          exact h1) (hge (t + 1) q hcq)
        have := count_grows (P := fun z => decide (Conn n adj c z ∧ turns n adj t z = c)) (Q := fun z => decide (Conn n adj c z ∧ turns n adj (t + 1) z = c)) (List.range n) (fun z _ hz => by
          have hz := of_decide_eq_true hz
          exact decide_eq_true ⟨hz.1, hnx t z hz.1 hz.2⟩) ⟨q, List.mem_range.2 hqn, decide_eq_true ⟨hcq, hq2⟩, decide_eq_false fun h => hq h.2⟩
        omega
theorem exists_min {P : Nat → Prop} : ∀ {x : Nat}, P x → ∃ c, P c ∧ c ≤ x ∧ ∀ z, P z → c ≤ z := by
  intro x
  induction x using Nat.strongRecOn with
  | ind x ih =>
    intro hx
    by_cases h : ∃ z, z < x ∧ P z
    · obtain ⟨z, hz, hp⟩ := h
      obtain ⟨c, h1, h2, h3⟩ := ih z hz hp
      exact ⟨c, h1, by omega, h3⟩
    · exact ⟨x, hx, Nat.le_refl _, fun z hz => Nat.le_of_not_lt fun hl => h ⟨z, hl, hz⟩⟩
open Classical in
/-- behind n turns the marks tell which ones hang together -/
theorem turns_iff (hs : ∀ i k, adj i k = adj k i) {x y : Nat} (hx : x < n) (hy : y < n) : turns n adj n x = turns n adj n y ↔ Conn n adj x y := by
  have hmin : ∀ x, x < n → ∃ c, Conn n adj x c ∧ (∀ z, Conn n adj x z → c ≤ z) ∧ ∀ z, Conn n adj x z → turns n adj n z = c := fun x hx => by
    obtain ⟨c, h1, -, h3⟩ := exists_min (P := fun z => Conn n adj x z) (x := x) (.refl x hx)
    refine ⟨c, h1, h3, fun z hz => ?_⟩
    rcases turns_grow hs h1.right (fun z hz => h3 z (h1.trans hz)) n with h | h
    · exact h z ((h1.symm hs).trans hz)
    · have := List.countP_le_length (p := fun z => decide (Conn n adj c z ∧ turns n adj n z = c)) (l := List.range n)
      rw [List.length_range] at this
      omega
  constructor
  · intro h
    have h1 := turns_ok (adj := adj) n x hx
    have h2 := turns_ok (adj := adj) n y hy
    rw [h] at h1
    exact h1.trans (h2.symm hs)
  · intro h
    obtain ⟨c, h1, h2, h3⟩ := hmin x hx
    rw [h3 x (.refl x hx), h3 y h]
end
end Go.Proofs.YtfkfpanhbanljaaGreatDoor.Twin

/- Layer 47 (twin): groups of numbers, each in order, in order: the plain law. -/
namespace Go.Proofs.YtfkfpanhbanljaaGreatDoor.Twin

/-- a number more, in its place, each once -/
def putN (l : List Nat) (x : Nat) : List Nat := (l.filter fun y => decide (y < x)) ++ [x] ++ l.filter fun y => decide (x < y)
def normL (l : List Nat) : List Nat := l.foldl putN []
def Rising (l : List Nat) : Prop := l.Pairwise (· < ·)
theorem put_rising {l : List Nat} (h : Rising l) (x : Nat) : Rising (putN l x) := by
  unfold Rising putN
  rw [List.pairwise_append, List.pairwise_append]
  refine ⟨⟨h.filter _, List.pairwise_singleton _ _, fun a ha b hb => ?_⟩, h.filter _, fun a ha b hb => ?_⟩
  · rw [List.mem_singleton.1 hb]; simpa using (List.mem_filter.1 ha).2
  · have h2 : x < b := by simpa using (List.mem_filter.1 hb).2
    rcases List.mem_append.1 ha with ha | ha
    · have h1 : a < x := by simpa using (List.mem_filter.1 ha).2
      omega
    · rw [List.mem_singleton.1 ha]; exact h2
theorem put_mem {l : List Nat} {x y : Nat} : y ∈ putN l x ↔ y ∈ l ∨ y = x := by
  unfold putN
  simp only [List.mem_append, List.mem_filter, List.mem_singleton, decide_eq_true_eq]
  constructor
  · rintro ((⟨h, _⟩ | h) | ⟨h, _⟩)
    · exact .inl h
    · exact .inr h
    · exact .inl h
  · rintro (h | h)
    · rcases Nat.lt_trichotomy y x with e | e | e
      · exact .inl (.inl ⟨h, e⟩)
      · exact .inl (.inr e)
      · exact .inr ⟨h, e⟩
    · exact .inl (.inr h)
theorem fold_rising : ∀ (l acc : List Nat), Rising acc → Rising (l.foldl putN acc)
  | [], _, h => h
  | x :: l, acc, h => fold_rising l _ (put_rising h x)
theorem fold_mem : ∀ (l acc : List Nat) (y : Nat), y ∈ l.foldl putN acc ↔ y ∈ acc ∨ y ∈ l
  | [], _, _ => by simp
  | x :: l, acc, y => by
    rw [List.foldl_cons, fold_mem l, put_mem, List.mem_cons]
    constructor
    · rintro ((h | h) | h)
      · exact .inl h
      · exact .inr (.inl h)
      · exact .inr (.inr h)
    · rintro (h | h | h)
      · exact .inl (.inl h)
      · exact .inl (.inr h)
      · exact .inr h
theorem norm_rising (l : List Nat) : Rising (normL l) := fold_rising l [] List.Pairwise.nil
theorem norm_mem {l : List Nat} {y : Nat} : y ∈ normL l ↔ y ∈ l := by unfold normL; rw [fold_mem]; simp
/-- rising lists with the same members are the same -/
theorem rising_ext : ∀ {a b : List Nat}, Rising a → Rising b → (∀ x, x ∈ a ↔ x ∈ b) → a = b
  | [], [], _, _, _ => rfl
  | [], y :: b, _, _, h => absurd ((h y).2 (List.mem_cons_self ..)) (by simp)
  | x :: a, [], _, _, h => absurd ((h x).1 (List.mem_cons_self ..)) (by simp)
  | x :: a, y :: b, ha, hb, h => by
    have ha2 := List.pairwise_cons.1 ha
    have hb2 := List.pairwise_cons.1 hb
    have e : x = y := by
      rcases List.mem_cons.1 ((h x).1 (List.mem_cons_self ..)) with e | e
      · exact e
      · rcases List.mem_cons.1 ((h y).2 (List.mem_cons_self ..)) with e2 | e2
        · exact e2.symm
        · have h1 := hb2.1 x e
          have h2 := ha2.1 y e2
          omega
    subst e
    rw [rising_ext ha2.2 hb2.2 fun z => ?_]
    constructor
    · intro hz
      rcases List.mem_cons.1 ((h z).1 (List.mem_cons_of_mem _ hz)) with e | e
      · subst e; exact absurd (ha2.1 z hz) (Nat.lt_irrefl z)
      · exact e
    · intro hz
      rcases List.mem_cons.1 ((h z).2 (List.mem_cons_of_mem _ hz)) with e | e
      · subst e; exact absurd (hb2.1 z hz) (Nat.lt_irrefl z)
      · exact e
theorem norm_ext {a b : List Nat} (h : ∀ x, x ∈ a ↔ x ∈ b) : normL a = normL b := rising_ext (norm_rising a) (norm_rising b) fun x => by rw [norm_mem, norm_mem, h]
theorem norm_of {a l : List Nat} (ha : Rising a) (h : ∀ x, x ∈ a ↔ x ∈ l) : a = normL l := rising_ext ha (norm_rising l) fun x => by rw [norm_mem, h]
/-! lists of numbers in order: the first place at which they are unlike tells -/
def aheadL : List Nat → List Nat → Bool
  | [], [] => false
  | [], _ :: _ => true
  | _ :: _, [] => false
  | x :: a, y :: b => if x = y then aheadL a b else decide (x < y)
theorem ahead_irrefl : ∀ a, aheadL a a = false
  | [] => rfl
  | x :: a => by unfold aheadL; rw [if_pos rfl]; exact ahead_irrefl a
theorem ahead_total : ∀ a b, aheadL a b = false → aheadL b a = false → a = b
  | [], [], _, _ => rfl
  | [], _ :: _, h, _ => by cases h
  | _ :: _, [], _, h => by cases h
  | x :: a, y :: b, h1, h2 => by
    unfold aheadL at h1 h2
    by_cases e : x = y
    · subst e
      rw [if_pos rfl] at h1 h2
      rw [ahead_total a b h1 h2]
    · rw [if_neg e] at h1
      rw [if_neg (fun e2 => e e2.symm)] at h2
      simp at h1 h2
      omega
theorem ahead_asymm : ∀ a b, aheadL a b = true → aheadL b a = false
  | [], [], h => by cases h
  | [], _ :: _, _ => rfl
  | _ :: _, [], h => by cases h
  | x :: a, y :: b, h => by
    unfold aheadL at h ⊢
    by_cases e : x = y
    · subst e
      rw [if_pos rfl] at h ⊢
      exact ahead_asymm a b h
    · rw [if_neg e] at h
      rw [if_neg (fun e2 => e e2.symm)]
      simp at h ⊢
      omega
theorem ahead_trans : ∀ a b c, aheadL a b = true → aheadL b c = true → aheadL a c = true
  | [], [], _, h, _ => by cases h
  | [], _ :: _, [], _, h => by cases h
  | [], _ :: _, _ :: _, _, _ => rfl
  | _ :: _, [], _, h, _ => by cases h
  | _ :: _, _ :: _, [], _, h => by cases h
  | x :: a, y :: b, z :: c, h1, h2 => by
    unfold aheadL at h1 h2 ⊢
    by_cases e : x = y
    · subst e
      rw [if_pos rfl] at h1
      by_cases e2 : x = z
      · subst e2
        rw [if_pos rfl] at h2 ⊢
        exact ahead_trans a b c h1 h2
      · rw [if_neg e2] at h2 ⊢; exact h2
    · rw [if_neg e] at h1
      have h1' : x < y := by simpa using h1
      by_cases e2 : y = z
      · subst e2
        rw [if_neg e]; exact h1
      · rw [if_neg e2] at h2
        have h2' : y < z := by simpa using h2
        rw [if_neg (by omega)]
        exact decide_eq_true (by omega)
/-- not behind -/
def upTo (a b : List Nat) : Prop := aheadL b a = false
theorem upTo_trans {a b c : List Nat} (h1 : upTo a b) (h2 : upTo b c) : upTo a c := by
  unfold upTo at *
  cases h : aheadL c a with
  | false => rfl
  | true =>
    cases h3 : aheadL b a with
    | true => rw [h3] at h1; cases h1
    | false =>
      cases h4 : aheadL a b with
      | true => rw [ahead_trans c a b h h4] at h2; cases h2
      | false => rw [ahead_total a b h4 h3] at h; rw [h] at h2; cases h2
def SortedG (l : List (List Nat)) : Prop := l.Pairwise upTo
/-- a sorted list is told by its members, each as often as it is there -/
theorem sorted_perm : ∀ {a b : List (List Nat)}, SortedG a → SortedG b → a.Perm b → a = b
  | [], b, _, _, h => (List.Perm.nil_eq h).symm ▸ rfl
  | x :: a, [], _, _, h => absurd h.length_eq (by simp)
  | x :: a, y :: b, ha, hb, h => by
    have ha2 := List.pairwise_cons.1 ha
    have hb2 := List.pairwise_cons.1 hb
    have e : x = y := by
      rcases List.mem_cons.1 (h.mem_iff.1 (List.mem_cons_self ..)) with e | e
      · exact e
      · rcases List.mem_cons.1 (h.mem_iff.2 (List.mem_cons_self ..)) with e2 | e2
        · exact e2.symm
        · exact ahead_total x y (hb2.1 x e) (ha2.1 y e2)
    subst e
    rw [sorted_perm ha2.2 hb2.2 (List.Perm.cons_inv h)]
/-- the document's way: a group comes ahead of the first that it is ahead of -/
def insG : List (List Nat) → List Nat → List (List Nat)
  | [], g => [g]
  | o :: out, g => if aheadL g o = true then g :: o :: out else o :: insG out g
theorem ins_perm : ∀ (l : List (List Nat)) (g : List Nat), (insG l g).Perm (g :: l)
  | [], _ => List.Perm.refl _
  | o :: l, g => by
    unfold insG
    split
    · exact List.Perm.refl _
    · exact ((ins_perm l g).cons o).trans (List.Perm.swap g o l)
theorem ins_sorted : ∀ (l : List (List Nat)) (g : List Nat), SortedG l → SortedG (insG l g)
  | [], _, _ => List.pairwise_singleton _ _
  | o :: l, g, h => by
    have h2 := List.pairwise_cons.1 h
    unfold insG
    split
    · rename_i hg
      refine List.pairwise_cons.2 ⟨fun z hz => ?_, h⟩
      have h0 : upTo g o := ahead_asymm g o hg
      rcases List.mem_cons.1 hz with rfl | hz
      · exact h0
      · exact upTo_trans h0 (h2.1 z hz)
    · rename_i hg
      refine List.pairwise_cons.2 ⟨fun z hz => ?_, ins_sorted l g h2.2⟩
      rcases List.mem_cons.1 ((ins_perm l g).mem_iff.1 hz) with rfl | hz
      · exact by unfold upTo; simpa using hg
      · exact h2.1 z hz
def sortG (l : List (List Nat)) : List (List Nat) := l.foldl insG []
theorem foldG_perm : ∀ (l acc : List (List Nat)), (l.foldl insG acc).Perm (acc ++ l)
  | [], acc => by simp
  | g :: l, acc => by
    refine (foldG_perm l _).trans ?_
    refine ((ins_perm acc g).append_right l).trans ?_
    rw [show g :: acc ++ l = g :: (acc ++ l) from rfl]
    exact (List.perm_middle (a := g) (l₁ := acc) (l₂ := l)).symm
theorem foldG_sorted : ∀ (l acc : List (List Nat)), SortedG acc → SortedG (l.foldl insG acc)
  | [], _, h => h
  | g :: l, acc, h => foldG_sorted l _ (ins_sorted acc g h)
theorem sortG_perm (l : List (List Nat)) : (sortG l).Perm l := by
  have h := foldG_perm l []
  rw [List.nil_append] at h
  exact h
theorem sortG_sorted (l : List (List Nat)) : SortedG (sortG l) := foldG_sorted l [] List.Pairwise.nil
theorem sortG_ext {a b : List (List Nat)} (h : a.Perm b) : sortG a = sortG b := sorted_perm (sortG_sorted a) (sortG_sorted b) (((sortG_perm a).trans h).trans (sortG_perm b).symm)
theorem sortG_of {a l : List (List Nat)} (ha : SortedG a) (h : a.Perm l) : a = sortG l := sorted_perm ha (sortG_sorted l) (h.trans (sortG_perm l).symm)
/-! the groups that heads, or marks, tell -/
def classL (n : Nat) (cid : Nat → Nat) (R : Nat → Nat) (m : Nat) : List Nat := normL (((List.range n).filter fun i => decide (R i = m)).map cid)
def groupsL (n : Nat) (cid : Nat → Nat) (R : Nat → Nat) : List (List Nat) := ((List.range n).map (classL n cid R)).filter fun g => decide (2 ≤ g.length)
theorem class_mem {n : Nat} {cid R : Nat → Nat} {m x : Nat} : x ∈ classL n cid R m ↔ ∃ i, i < n ∧ R i = m ∧ cid i = x := by
  unfold classL
  rw [norm_mem, List.mem_map]
  constructor
  · rintro ⟨i, hi, rfl⟩
    have := List.mem_filter.1 hi
    exact ⟨i, List.mem_range.1 this.1, by simpa using this.2, rfl⟩
  · rintro ⟨i, h1, h2, rfl⟩
    exact ⟨i, List.mem_filter.2 ⟨List.mem_range.2 h1, by simpa using h2⟩, rfl⟩
/-- the first of each class -/
def firsts (n : Nat) (R : Nat → Nat) : List Nat := (List.range n).filter fun i => decide (∀ j, j < i → R j ≠ R i)
theorem first_of {n : Nat} (R : Nat → Nat) {x : Nat} (hx : x < n) : ∃ i, i ∈ firsts n R ∧ R i = R x := by
  obtain ⟨c, h1, h2, h3⟩ := exists_min (P := fun z => R z = R x) (x := x) rfl
  refine ⟨c, List.mem_filter.2 ⟨List.mem_range.2 (by omega), decide_eq_true fun j hj e => ?_⟩, h1⟩
  have := h3 j (e.trans h1)
  omega
theorem class_heads (n : Nat) (cid R : Nat → Nat) (hR : ∀ x, x < n → R x < n) : (groupsL n cid R).Perm (((firsts n R).map fun i => classL n cid R (R i)).filter fun g => decide (2 ≤ g.length)) := by
  have hp : (((List.range n).filter fun m => decide (∃ i, i < n ∧ R i = m))).Perm ((firsts n R).map R) := by
    refine (List.perm_ext_iff_of_nodup (List.nodup_range.filter _) ?_).2 fun m => ?_
    · unfold firsts
      refine List.pairwise_map.2 ?_
      refine (List.pairwise_filter.2 ((List.pairwise_lt_range (n := n)).imp fun {a b} h ha hb e => ?_))
      have := of_decide_eq_true hb a h
      exact this e
    · rw [List.mem_filter, List.mem_range, List.mem_map]
      constructor
      · rintro ⟨h1, h2⟩
        obtain ⟨i, hi, rfl⟩ := of_decide_eq_true h2
        obtain ⟨c, hc, he⟩ := first_of R hi
        exact ⟨c, hc, he⟩
      · rintro ⟨i, hi, rfl⟩
        have hi2 := List.mem_range.1 (List.mem_filter.1 hi).1
        exact ⟨hR i hi2, decide_eq_true ⟨i, hi2, rfl⟩⟩
  have e1 : groupsL n cid R = (((List.range n).filter fun m => decide (∃ i, i < n ∧ R i = m)).map (classL n cid R)).filter fun g => decide (2 ≤ g.length) := by
    unfold groupsL
    rw [List.filter_map, List.filter_map, List.filter_filter]
    congr 1
    refine List.filter_congr fun m _ => ?_
    by_cases h : ∃ i, i < n ∧ R i = m
    · simp [h]
    · have : classL n cid R m = [] := List.eq_nil_iff_forall_not_mem.2 fun x hx => by
        obtain ⟨i, h1, h2, _⟩ := class_mem.1 hx
        exact h ⟨i, h1, h2⟩
      simp [this, h]
  rw [e1, show (fun i => classL n cid R (R i)) = (classL n cid R) ∘ R from rfl, ← List.map_map]
  exact (hp.map _).filter _
/-- heads and marks that tell the same tell the same groups -/
theorem groups_same (n : Nat) (cid R M : Nat → Nat) (hR : ∀ x, x < n → R x < n) (hM : ∀ x, x < n → M x < n) (h : ∀ x y, x < n → y < n → (R x = R y ↔ M x = M y)) : (groupsL n cid R).Perm (groupsL n cid M) := by
  refine (class_heads n cid R hR).trans (List.Perm.trans ?_ (class_heads n cid M hM).symm)
  have e1 : firsts n R = firsts n M := List.filter_congr fun i hi => by
    have hi2 := List.mem_range.1 hi
    rw [decide_eq_decide]
    exact ⟨fun h1 j hj e => h1 j hj ((h j i (by omega) hi2).2 e), fun h1 j hj e => h1 j hj ((h j i (by omega) hi2).1 e)⟩
  rw [e1]
  refine List.Perm.of_eq (congrArg _ (List.map_congr_left fun i hi => ?_))
  have hi2 := List.mem_range.1 (List.mem_filter.1 hi).1
  unfold classL
  congr 2
  refine List.filter_congr fun j hj => ?_
  rw [decide_eq_decide]
  exact h j i (List.mem_range.1 hj) hi2
end Go.Proofs.YtfkfpanhbanljaaGreatDoor.Twin
