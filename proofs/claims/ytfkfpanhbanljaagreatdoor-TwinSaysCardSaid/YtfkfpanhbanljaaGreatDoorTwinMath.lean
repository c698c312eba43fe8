/- Layer 47 (twin): which ones hang together: the plain law of joining and of marking. -/
import Derived.Test.YtfkfpanhbanljaaGreatDoorMem
namespace Go.Proofs.YtfkfpanhbanljaaGreatDoor.Twin

/-- there is a way from one to the other, among the first n -/
inductive Conn (n : Nat) (adj : Nat → Nat → Bool) : Nat → Nat → Prop
  | refl (x : Nat) : x < n → Conn n adj x x
  | step {x y z : Nat} : Conn n adj x y → z < n → adj y z = true → Conn n adj x z
section
variable {n : Nat} {adj : Nat → Nat → Bool}
theorem Conn.left {x y : Nat} (h : Conn n adj x y) : x < n := by induction h with | refl h => exact h | step _ _ _ ih => exact ih
theorem Conn.right {x y : Nat} (h : Conn n adj x y) : y < n := by cases h with | refl h => exact h | step _ h _ => exact h
theorem Conn.trans {x y z : Nat} (h : Conn n adj x y) (k : Conn n adj y z) : Conn n adj x z := by
  induction k with
  | refl _ => exact h
  | step _ h2 h3 ih => exact .step ih h2 h3
theorem Conn.one {x y : Nat} (hx : x < n) (hy : y < n) (h : adj x y = true) : Conn n adj x y := .step (.refl x hx) hy h
theorem Conn.symm (hs : ∀ i k, adj i k = adj k i) {x y : Nat} (h : Conn n adj x y) : Conn n adj y x := by
  induction h with
  | refl h => exact .refl x h
  | step h1 h2 h3 ih => exact (Conn.one h2 h1.right (by rw [hs]; exact h3)).trans ih
/-- a way out of a set has a step out of it -/
theorem Conn.out {P : Nat → Prop} {x y : Nat} (h : Conn n adj x y) (hx : P x) (hy : ¬ P y) : ∃ p q, P p ∧ ¬ P q ∧ adj p q = true ∧ Conn n adj x p ∧ q < n := by
  induction h with
  | refl h => exact absurd hx hy
  | @step b c h1 h2 h3 ih =>
    by_cases hb : P b
    · exact ⟨b, c, hb, hy, h3, h1, h2⟩
    · exact ih hb
/-! the program's way: each one has a head; two that are alike come under one -/
def joinR (R : Nat → Nat) (i k : Nat) : Nat → Nat := fun x => if R x = R i then R k else R x
def pairR (adj : Nat → Nat → Bool) (R : Nat → Nat) (p : Nat × Nat) : Nat → Nat := if adj p.1 p.2 = true then joinR R p.1 p.2 else R
def HeadOk (n : Nat) (adj : Nat → Nat → Bool) (R : Nat → Nat) : Prop := ∀ x, x < n → R x < n ∧ Conn n adj x (R x) ∧ R (R x) = R x
theorem head_id : HeadOk n adj id := fun x hx => ⟨hx, .refl x hx, rfl⟩
theorem head_join (hs : ∀ i k, adj i k = adj k i) {R : Nat → Nat} (h : HeadOk n adj R) {i k : Nat} (hi : i < n) (hk : k < n) (ha : adj i k = true) : HeadOk n adj (joinR R i k) := by
  intro x hx
  obtain ⟨h1, h2, h3⟩ := h x hx
  obtain ⟨k1, k2, k3⟩ := h k hk
  obtain ⟨i1, i2, i3⟩ := h i hi
  unfold joinR
  by_cases e : R x = R i
  · simp only [e, if_true]
    refine ⟨k1, ?_, ?_⟩
    · rw [e] at h2
      exact (h2.trans (i2.symm hs)).trans ((Conn.one hi hk ha).trans k2)
    · split
      · rfl
      · exact k3
  · simp only [if_neg e]
    refine ⟨h1, h2, ?_⟩
    rw [if_neg (by rw [h3]; exact e), h3]
theorem head_pair (hs : ∀ i k, adj i k = adj k i) {R : Nat → Nat} (h : HeadOk n adj R) {p : Nat × Nat} (hi : p.1 < n) (hk : p.2 < n) : HeadOk n adj (pairR adj R p) := by
  unfold pairR
  split
  · exact head_join hs h hi hk (by assumption)
  · exact h
theorem pair_keeps {R : Nat → Nat} {p : Nat × Nat} {x y : Nat} (h : R x = R y) : pairR adj R p x = pairR adj R p y := by
  unfold pairR joinR
  split
  · dsimp only; rw [h]
  · exact h
theorem pair_joins {R : Nat → Nat} {p : Nat × Nat} (ha : adj p.1 p.2 = true) : pairR adj R p p.1 = pairR adj R p p.2 := by
  unfold pairR joinR
  rw [if_pos ha]
  show (if R p.1 = R p.1 then R p.2 else R p.1) = (if R p.2 = R p.1 then R p.2 else R p.2)
  rw [if_pos rfl]
  split <;> rfl
theorem fold_keeps : ∀ (ps : List (Nat × Nat)) {R : Nat → Nat} {x y : Nat}, R x = R y → ps.foldl (pairR adj) R x = ps.foldl (pairR adj) R y
  | [], _, _, _, h => h
  | p :: ps, _, _, _, h => fold_keeps ps (pair_keeps h)
theorem fold_joins : ∀ (ps : List (Nat × Nat)) {R : Nat → Nat} {p : Nat × Nat}, p ∈ ps → adj p.1 p.2 = true → ps.foldl (pairR adj) R p.1 = ps.foldl (pairR adj) R p.2
  | [], _, _, h, _ => by cases h
  | q :: ps, R, p, h, ha => by
    rw [List.foldl_cons]
    rcases List.mem_cons.1 h with rfl | h
    · exact fold_keeps ps (pair_joins ha)
    · exact fold_joins ps h ha
theorem fold_head (hs : ∀ i k, adj i k = adj k i) : ∀ (ps : List (Nat × Nat)) {R : Nat → Nat}, HeadOk n adj R → (∀ p ∈ ps, p.1 < n ∧ p.2 < n) → HeadOk n adj (ps.foldl (pairR adj) R)
  | [], _, h, _ => h
  | p :: ps, _, h, hp => fold_head hs ps (head_pair hs h (hp p (List.mem_cons_self ..)).1 (hp p (List.mem_cons_self ..)).2) fun q hq => hp q (List.mem_cons_of_mem _ hq)
/-- the pairs that were looked at behind i rows and k of the next one -/
def lowPairs (i k : Nat) : List (Nat × Nat) := (List.range i).flatMap (fun a => (List.range a).map fun b => (a, b)) ++ (List.range k).map fun b => (i, b)
theorem low_mem {i k : Nat} {p : Nat × Nat} : p ∈ lowPairs i k ↔ (p.1 < i ∧ p.2 < p.1) ∨ (p.1 = i ∧ p.2 < k) := by
  unfold lowPairs
  simp only [List.mem_append, List.mem_flatMap, List.mem_range, List.mem_map]
  constructor
  · rintro (⟨a, h1, b, h2, rfl⟩ | ⟨b, h2, rfl⟩)
    · exact .inl ⟨h1, h2⟩
    · exact .inr ⟨rfl, h2⟩
  · rintro (⟨h1, h2⟩ | ⟨h1, h2⟩)
    · exact .inl ⟨p.1, h1, p.2, h2, rfl⟩
    · exact .inr ⟨p.2, h2, by rw [← h1]⟩
theorem low_next (i k : Nat) : lowPairs i (k + 1) = lowPairs i k ++ [(i, k)] := by unfold lowPairs; rw [List.range_succ, List.map_append, List.append_assoc]; rfl
theorem low_row (i : Nat) : lowPairs i i = lowPairs (i + 1) 0 := by unfold lowPairs; rw [List.range_succ, List.flatMap_append]; simp
def headR (adj : Nat → Nat → Bool) (i k : Nat) : Nat → Nat := (lowPairs i k).foldl (pairR adj) id
theorem headR_next (i k : Nat) : headR adj i (k + 1) = pairR adj (headR adj i k) (i, k) := by unfold headR; rw [low_next, List.foldl_append]; rfl
theorem headR_row (i : Nat) : headR adj i i = headR adj (i + 1) 0 := by unfold headR; rw [low_row]
theorem headR_ok (hs : ∀ i k, adj i k = adj k i) {i k : Nat} (h : i < n ∧ k ≤ i ∨ i ≤ n ∧ k = 0) : HeadOk n adj (headR adj i k) := fold_head hs _ head_id fun p hp => by
  rcases low_mem.1 hp with ⟨h1, h2⟩ | ⟨h1, h2⟩ <;> omega
/-- the heads tell which ones hang together -/
theorem headR_iff (hs : ∀ i k, adj i k = adj k i) {x y : Nat} (hx : x < n) (hy : y < n) : headR adj n 0 x = headR adj n 0 y ↔ Conn n adj x y := by
  have hok := headR_ok (n := n) (i := n) (k := 0) hs (.inr ⟨Nat.le_refl _, rfl⟩)
  constructor
  · intro h
    have h1 := (hok x hx).2.1
    have h2 := (hok y hy).2.1
    rw [h] at h1
    exact h1.trans (h2.symm hs)
  · intro h
    induction h with
    | refl _ => rfl
    | @step b c h1 h2 h3 ih =>
      rw [ih h1.right]
      rcases Nat.lt_trichotomy b c with hl | hl | hl
      · exact (fold_joins _ (p := (c, b)) (low_mem.2 (.inl ⟨h2, hl⟩)) (by rw [hs]; exact h3)).symm
      · rw [hl]
      · exact fold_joins _ (p := (b, c)) (low_mem.2 (.inl ⟨h1.right, hl⟩)) h3
/-! the document's way: each one has a mark, which becomes that of one that it is like, if this is less -/
def markS (adj : Nat → Nat → Bool) (M : Nat → Nat) (p : Nat × Nat) : Nat → Nat := if M p.2 < M p.1 ∧ adj p.1 p.2 = true then fun x => if x = p.1 then M p.2 else M x else M
theorem mark_le (M : Nat → Nat) (p : Nat × Nat) (x : Nat) : markS adj M p x ≤ M x := by
  unfold markS
  split
  · dsimp only; split
    · rename_i h e; subst e; omega
    · exact Nat.le_refl _
  · exact Nat.le_refl _
theorem marks_le : ∀ (ps : List (Nat × Nat)) (M : Nat → Nat) (x : Nat), ps.foldl (markS adj) M x ≤ M x
  | [], _, _ => Nat.le_refl _
  | p :: ps, M, x => Nat.le_trans (marks_le ps _ x) (mark_le M p x)
theorem marks_got : ∀ (ps : List (Nat × Nat)) (M : Nat → Nat) {p : Nat × Nat}, p ∈ ps → adj p.1 p.2 = true → ps.foldl (markS adj) M p.1 ≤ M p.2
  | [], _, _, h, _ => by cases h
  | q :: ps, M, p, h, ha => by
    rw [List.foldl_cons]
    rcases List.mem_cons.1 h with rfl | h
    · refine Nat.le_trans (marks_le ps _ _) ?_
      unfold markS
      split
      · dsimp only; rw [if_pos rfl]; exact Nat.le_refl _
      · rename_i hn
        rcases Nat.lt_or_ge (M p.2) (M p.1) with h1 | h1
        · exact absurd ⟨h1, ha⟩ hn
        · exact h1
    · exact Nat.le_trans (marks_got ps _ h ha) (mark_le M q _)
def MarkOk (n : Nat) (adj : Nat → Nat → Bool) (M : Nat → Nat) : Prop := ∀ x, x < n → Conn n adj x (M x)
theorem mark_ok {M : Nat → Nat} (h : MarkOk n adj M) {p : Nat × Nat} (h1 : p.1 < n) (h2 : p.2 < n) : MarkOk n adj (markS adj M p) := by
  intro x hx
  unfold markS
  split
  · rename_i hc
    dsimp only; split
    · rename_i e; subst e; exact (Conn.one h1 h2 hc.2).trans (h p.2 h2)
    · exact h x hx
  · exact h x hx
theorem marks_ok : ∀ (ps : List (Nat × Nat)) {M : Nat → Nat}, MarkOk n adj M → (∀ p ∈ ps, p.1 < n ∧ p.2 < n) → MarkOk n adj (ps.foldl (markS adj) M)
  | [], _, h, _ => h
  | p :: ps, _, h, hp => marks_ok ps (mark_ok h (hp p (List.mem_cons_self ..)).1 (hp p (List.mem_cons_self ..)).2) fun q hq => hp q (List.mem_cons_of_mem _ hq)
/-- the pairs of a turn: behind i rows, and k of the next one -/
def allPairs (n i k : Nat) : List (Nat × Nat) := (List.range i).flatMap (fun a => (List.range n).map fun b => (a, b)) ++ (List.range k).map fun b => (i, b)
theorem all_mem {i k : Nat} {p : Nat × Nat} : p ∈ allPairs n i k ↔ (p.1 < i ∧ p.2 < n) ∨ (p.1 = i ∧ p.2 < k) := by
  unfold allPairs
  simp only [List.mem_append, List.mem_flatMap, List.mem_range, List.mem_map]
  constructor
  · rintro (⟨a, h1, b, h2, rfl⟩ | ⟨b, h2, rfl⟩)
    · exact .inl ⟨h1, h2⟩
    · exact .inr ⟨rfl, h2⟩
  · rintro (⟨h1, h2⟩ | ⟨h1, h2⟩)
    · exact .inl ⟨p.1, h1, p.2, h2, rfl⟩
    · exact .inr ⟨p.2, h2, by rw [← h1]⟩
theorem all_next (i k : Nat) : allPairs n i (k + 1) = allPairs n i k ++ [(i, k)] := by unfold allPairs; rw [List.range_succ, List.map_append, List.append_assoc]; rfl
theorem all_row (i : Nat) : allPairs n i n = allPairs n (i + 1) 0 := by unfold allPairs; rw [List.range_succ, List.flatMap_append]; simp
/-- the marks behind t turns -/
def turns (n : Nat) (adj : Nat → Nat → Bool) : Nat → Nat → Nat
  | 0 => id
  | t + 1 => (allPairs n n 0).foldl (markS adj) (turns n adj t)
theorem turns_ok : ∀ t, MarkOk n adj (turns n adj t)
  | 0 => fun x hx => .refl x hx
  | t + 1 => marks_ok _ (turns_ok t) fun p hp => by rcases all_mem.1 hp with h | h <;> omega
theorem count_grows {P Q : Nat → Bool} : ∀ (l : List Nat), (∀ x ∈ l, P x = true → Q x = true) → (∃ x ∈ l, Q x = true ∧ P x = false) → l.countP P + 1 ≤ l.countP Q
  | [], _, ⟨x, hx, _⟩ => by cases hx
  | a :: l, h, ⟨x, hx, h1, h2⟩ => by
    have hm : ∀ l : List Nat, (∀ x ∈ l, P x = true → Q x = true) → l.countP P ≤ l.countP Q := fun l h => List.countP_mono_left h
    rw [List.countP_cons, List.countP_cons]
    rcases List.mem_cons.1 hx with rfl | hx
    · have := hm l fun y hy => h y (List.mem_cons_of_mem _ hy)
      rw [h1, h2]; simp; omega
    · have := count_grows l (fun y hy => h y (List.mem_cons_of_mem _ hy)) ⟨x, hx, h1, h2⟩
      by_cases ha : P a = true
      · rw [ha, h a (List.mem_cons_self ..) ha]; simp; omega
      · rw [if_neg ha]; omega
open Classical in
theorem turns_grow (hs : ∀ i k, adj i k = adj k i) {c : Nat} (hc : c < n) (hmin : ∀ z, Conn n adj c z → c ≤ z) (t : Nat) :
    (∀ z, Conn n adj c z → turns n adj t z = c) ∨ t + 1 ≤ (List.range n).countP fun z => decide (Conn n adj c z ∧ turns n adj t z = c) := by
  have hge : ∀ t z, Conn n adj c z → c ≤ turns n adj t z := fun t z h => hmin _ (h.trans (turns_ok t z h.right))
  have hnx : ∀ t z, Conn n adj c z → turns n adj t z = c → turns n adj (t + 1) z = c := fun t z h e => Nat.le_antisymm (e ▸ marks_le _ _ z) (hge (t + 1) z h)
  induction t with
  | zero =>
    refine .inr ?_
    have : 0 < (List.range n).countP fun z => decide (Conn n adj c z ∧ turns n adj 0 z = c) := List.countP_pos_iff.2 ⟨c, List.mem_range.2 hc, by simpa using ⟨Conn.refl c hc, rfl⟩⟩
    omega
  | succ t ih =>
    rcases ih with h | h
    · exact .inl fun z hz => hnx t z hz (h z hz)
    · by_cases hall : ∀ z, Conn n adj c z → turns n adj t z = c
      · exact .inl fun z hz => hnx t z hz (hall z hz)
      · refine .inr ?_
        obtain ⟨y, hy⟩ : ∃ y, Conn n adj c y ∧ turns n adj t y ≠ c := by
          refine Classical.byContradiction fun hn => hall fun z hz => Classical.byContradiction fun e => hn ⟨z, hz, e⟩
        have hc0 : turns n adj t c = c := by
          have := hge t c (.refl c hc)
          have h2 : ∀ t, turns n adj t c ≤ c := fun t => by
            induction t with
            | zero => exact Nat.le_refl _
            | succ t ih => exact Nat.le_trans (marks_le _ _ c) ih
          exact Nat.le_antisymm (h2 t) this
        obtain ⟨p, q, hp, hq, hpq, hcp, hqn⟩ := hy.1.out (P := fun z => turns n adj t z = c) hc0 hy.2
        have hcq : Conn n adj c q := .step hcp hqn hpq
        have hq2 : turns n adj (t + 1) q = c := Nat.le_antisymm (by
          have h1 := marks_got (adj := adj) (allPairs n n 0) (turns n adj t) (p := (q, p)) (all_mem.2 (.inl ⟨hqn, hcp.right⟩)) (by rw [hs]; exact hpq)
          rw [hp] at h1
          exact h1) (hge (t + 1) q hcq)
        have := count_grows (P := fun z => decide (Conn n adj c z ∧ turns n adj t z = c)) (Q := fun z => decide (Conn n adj c z ∧ turns n adj (t + 1) z = c)) (List.range n) (fun z _ hz => by
          have hz := of_decide_eq_true hz
          exact decide_eq_true ⟨hz.1, hnx t z hz.1 hz.2⟩) ⟨q, List.mem_range.2 hqn, decide_eq_true ⟨hcq, hq2⟩, decide_eq_false fun h => hq h.2⟩
        omega
theorem exists_min {P : Nat → Prop} : ∀ {x : Nat}, P x → ∃ c, P c ∧ c ≤ x ∧ ∀ z, P z → c ≤ z := by
  intro x
  induction x using Nat.strongRecOn with
  | ind x ih =>
    intro hx
    by_cases h : ∃ z, z < x ∧ P z
    · obtain ⟨z, hz, hp⟩ := h
      obtain ⟨c, h1, h2, h3⟩ := ih z hz hp
      exact ⟨c, h1, by omega, h3⟩
    · exact ⟨x, hx, Nat.le_refl _, fun z hz => Nat.le_of_not_lt fun hl => h ⟨z, hl, hz⟩⟩
open Classical in
/-- behind n turns the marks tell which ones hang together -/
theorem turns_iff (hs : ∀ i k, adj i k = adj k i) {x y : Nat} (hx : x < n) (hy : y < n) : turns n adj n x = turns n adj n y ↔ Conn n adj x y := by
  have hmin : ∀ x, x < n → ∃ c, Conn n adj x c ∧ (∀ z, Conn n adj x z → c ≤ z) ∧ ∀ z, Conn n adj x z → turns n adj n z = c := fun x hx => by
    obtain ⟨c, h1, -, h3⟩ := exists_min (P := fun z => Conn n adj x z) (x := x) (.refl x hx)
    refine ⟨c, h1, h3, fun z hz => ?_⟩
    rcases turns_grow hs h1.right (fun z hz => h3 z (h1.trans hz)) n with h | h
    · exact h z ((h1.symm hs).trans hz)
    · have := List.countP_le_length (p := fun z => decide (Conn n adj c z ∧ turns n adj n z = c)) (l := List.range n)
      rw [List.length_range] at this
      omega
  constructor
  · intro h
    have h1 := turns_ok (adj := adj) n x hx
    have h2 := turns_ok (adj := adj) n y hy
    rw [h] at h1
    exact h1.trans (h2.symm hs)
  · intro h
    obtain ⟨c, h1, h2, h3⟩ := hmin x hx
    rw [h3 x (.refl x hx), h3 y h]
end
end Go.Proofs.YtfkfpanhbanljaaGreatDoor.Twin
