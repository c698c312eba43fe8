import Derived.Test.YtfkfpanhbanljaaGreatDoorProg
import Derived.Test.YtfkfpanhbanljaaGreatDoorMem
import Derived.Outline
import Derived.Test.YtfkfpanhbanljaaGreatDoorSet49
/- []uint64 and []int in this translation: what reads as a list of words, of integers; append; what a call gives back. -/
namespace Go.Proofs.YtfkfpanhbanljaaGreatDoor.Mem
open Go.RowKit

theorem u64_info : (Tryz.prog.info? 28).map (fun i => (i.zero, i.size, i.bytes)) = some (some (.int .u64 0), 1, 8) := by kernel_rfl
theorem int_info : (Tryz.prog.info? 3).map (fun i => (i.zero, i.size, i.bytes)) = some (some (.int .i64 0), 1, 8) := by kernel_rfl
def WB (l : List Nat) : List Value := l.map fun x : Nat => Value.int .u64 (x : Int)
def IB (l : List Int) : List Value := l.map fun x : Int => Value.int .i64 x
theorem WB_length (l : List Nat) : (WB l).length = l.length := by simp [WB]
theorem WB_append (a b : List Nat) : WB (a ++ b) = WB a ++ WB b := by simp [WB]
theorem WB_take (l : List Nat) (k : Nat) : (WB l).take k = WB (l.take k) := by simp [WB]
theorem WB_get (l : List Nat) (k : Nat) (h : k < l.length) : (WB l)[k]? = some (.int .u64 (l.getD k 0 : Int)) := by
  simp [WB, List.getElem?_eq_getElem h]
theorem WB_one (l : List Nat) : ∀ u ∈ WB l, u.oneCell' = true := by
  intro u hu
  simp only [WB, List.mem_map] at hu
  obtain ⟨x, _, rfl⟩ := hu
  rfl
theorem IB_length (l : List Int) : (IB l).length = l.length := by simp [IB]
theorem IB_append (a b : List Int) : IB (a ++ b) = IB a ++ IB b := by simp [IB]
theorem IB_get (l : List Int) (k : Nat) (h : k < l.length) : (IB l)[k]? = some (.int .i64 (l.getD k 0 : Int)) := by
  simp [IB, List.getElem?_eq_getElem h]
theorem IB_one (l : List Int) : ∀ u ∈ IB l, u.oneCell' = true := by
  intro u hu
  simp only [IB, List.mem_map] at hu
  obtain ⟨x, _, rfl⟩ := hu
  rfl
/-- a call gives words, integers of its own, and turns nothing that was there -/
def GivesW (w : World) (l : List Nat) (en : Ending) (w' : World) : Prop :=
  ∃ A c, en = .returned (.slice A l.length c) ∧ Own w' w.heap.size 28 (.slice A l.length c) (WB l) ∧ l.length ≤ c ∧ Below w.heap.size w w'
def GivesI (w : World) (l : List Int) (en : Ending) (w' : World) : Prop :=
  ∃ A c, en = .returned (.slice A l.length c) ∧ Own w' w.heap.size 3 (.slice A l.length c) (IB l) ∧ l.length ≤ c ∧ Below w.heap.size w w'
theorem wpl_appW {w : World} {ops : Array Oper} {rest : List Oper} {o : Oper} {a : Act} {Q : Exit → Act → World → Prop} (hgd : o.guard = none) (s x : Operand)
    (ho : o.op = .call { callee := .builtin .append, args := #[s, x], argTypes := #[49, 49] })
    (base : Nat) (v : Value) (l : List Nat) (hs : a.eval s = v) (hown : Own w base 28 v (WB l))
    (B : Nat) (A : Option Addr) (m c : Nat) (news : List Nat) (hx : a.eval x = .slice A m c) (hm : m = news.length) (hr : Rd w B A (WB news))
    (hsz : l.length + news.length ≤ 17592186044416) (hbase : base ≤ w.heap.size)
    (h : ∀ A' c' w' r, Hid (r = l ++ news) → Own w' base 28 (.slice A' r.length c') (WB r) → w.grownBy w' v.ownBlock → Below base w w' → wpList Tryz.prog ops Q rest (a.put o.dst (.slice A' r.length c')) w') : wpList Tryz.prog ops Q (o :: rest) a w := by
  obtain ⟨i0, hi0, hz0, hz1, hz2⟩ := info_parts u64_info
  refine wpl_append_rd w hgd s x 49 ho base 28 i0 _ 8 Tryz.underlying49 hi0 hz0 hz1 hz2 rfl v (WB l) hs hown B A m c (WB news) hx (by rw [WB_length, hm]) hr (WB_one _) (by rw [WB_length, hm]; omega) (by decide) hbase ?_
  intro A' c' w' h1 h2 h3
  rw [WB_length, hm, ← WB_append] at h1
  rw [WB_length, hm]
  have := h A' c' w' (l ++ news) rfl (by rw [List.length_append]; exact h1) h2 h3
  rw [List.length_append] at this
  exact this
theorem wpl_appI {w : World} {ops : Array Oper} {rest : List Oper} {o : Oper} {a : Act} {Q : Exit → Act → World → Prop} (hgd : o.guard = none) (s x : Operand)
    (ho : o.op = .call { callee := .builtin .append, args := #[s, x], argTypes := #[53, 53] })
    (base : Nat) (v : Value) (l : List Int) (hs : a.eval s = v) (hown : Own w base 3 v (IB l))
    (B : Nat) (A : Option Addr) (m c : Nat) (news : List Int) (hx : a.eval x = .slice A m c) (hm : m = news.length) (hr : Rd w B A (IB news))
    (hsz : l.length + news.length ≤ 17592186044416) (hbase : base ≤ w.heap.size)
    (h : ∀ A' c' w' r, Hid (r = l ++ news) → Own w' base 3 (.slice A' r.length c') (IB r) → w.grownBy w' v.ownBlock → Below base w w' → wpList Tryz.prog ops Q rest (a.put o.dst (.slice A' r.length c')) w') : wpList Tryz.prog ops Q (o :: rest) a w := by
  obtain ⟨i0, hi0, hz0, hz1, hz2⟩ := info_parts int_info
  refine wpl_append_rd w hgd s x 53 ho base 3 i0 _ 8 Tryz.underlying53 hi0 hz0 hz1 hz2 rfl v (IB l) hs hown B A m c (IB news) hx (by rw [IB_length, hm]) hr (IB_one _) (by rw [IB_length, hm]; omega) (by decide) hbase ?_
  intro A' c' w' h1 h2 h3
  rw [IB_length, hm, ← IB_append] at h1
  rw [IB_length, hm]
  have := h A' c' w' (l ++ news) rfl (by rw [List.length_append]; exact h1) h2 h3
  rw [List.length_append] at this
  exact this
theorem givesW_mk {w w2 : World} {A : Option Addr} {c : Nat} {r l : List Nat} (h : r = l) (hown : Own w2 w.heap.size 28 (.slice A r.length c) (WB r)) (hb : Below w.heap.size w w2) : GivesW w l (.returned (.slice A r.length c)) w2 := by
  subst h
  obtain ⟨_, _, he, hle, _⟩ := hown.form
  rw [WB_length] at hle
  injection he with _ _ h3
  exact ⟨A, c, rfl, hown, by omega, hb⟩
theorem givesI_mk {w w2 : World} {A : Option Addr} {c : Nat} {r l : List Int} (h : r = l) (hown : Own w2 w.heap.size 3 (.slice A r.length c) (IB r)) (hb : Below w.heap.size w w2) : GivesI w l (.returned (.slice A r.length c)) w2 := by
  subst h
  obtain ⟨_, _, he, hle, _⟩ := hown.form
  rw [IB_length] at hle
  injection he with _ _ h3
  exact ⟨A, c, rfl, hown, by omega, hb⟩
/-- make([]uint64, n) -/
theorem make_words (w : World) (n : Nat) (hn : n ≤ 17592186044416) :
    ∃ w', (Instr.makeSlice 49 (.int .i64 (n : Int)) (.int .i64 (n : Int))).run Tryz.prog w = .ok (.slice (some ⟨w.heap.size, 0, none⟩) n n) w' ∧
      Own w' w.heap.size 28 (.slice (some ⟨w.heap.size, 0, none⟩) n n) (WB (List.replicate n 0)) ∧ Below w.heap.size w w' := by
  obtain ⟨i0, hi0, hz0, hz1, hz2⟩ := info_parts u64_info
  obtain ⟨w', h1, h2, h3⟩ := run_make_full (P := Tryz.prog) w w.heap.size 49 28 i0 _ 1 Tryz.underlying49 hi0 hz0 hz1 .i64 .i64 n (by rw [hz2]; omega) (by simp only [maxLen]; omega) (Nat.le_refl _)
  refine ⟨w', h1, ?_, (Below.refl _ _).grown h3 (Nat.le_refl _) (by simp)⟩
  have e : (madeCells (Value.int .u64 0).cells (n * 1)).toList = WB (List.replicate n 0) := by
    rw [Nat.mul_one]
    show (madeCells #[Value.int .u64 0] n).toList = _
    rw [toList_madeCells_one]
    simp [WB]
  rw [e] at h2
  unfold Own
  rw [WB_length, List.length_replicate]
  exact h2
/-- the one cell of 'append(s, x)' -/
theorem rd_oneW (w : World) (x : Nat) : Rd (w.alloc (.cells #[.int .u64 (x : Int)] 28)) (w.heap.size + 1) (some ⟨w.heap.size, 0, none⟩) (WB [x]) := Rd.new w [.int .u64 (x : Int)] 28
theorem rd_oneI (w : World) (x : Int) : Rd (w.alloc (.cells #[.int .i64 x] 3)) (w.heap.size + 1) (some ⟨w.heap.size, 0, none⟩) (IB [x]) := Rd.new w [.int .i64 x] 3
end Go.Proofs.YtfkfpanhbanljaaGreatDoor.Mem

/- Insertion by exchanges: the plain law. -/
namespace Go.Proofs.YtfkfpanhbanljaaGreatDoor.SortW

/-- an element and the one ahead of it, exchanged -/
def swapL (xs : List Nat) (j : Nat) : List Nat := (xs.set j (xs.getD (j - 1) 0)).set (j - 1) (xs.getD j 0)
theorem split2 {xs : List Nat} {j : Nat} (h1 : 1 ≤ j) (h2 : j < xs.length) : ∃ L a b R, xs = L ++ a :: b :: R ∧ L.length + 1 = j := by
  refine ⟨xs.take (j - 1), xs[j - 1]'(by omega), xs[j], xs.drop (j + 1), ?_, by rw [List.length_take]; omega⟩
  have e1 : xs.drop (j - 1) = xs[j - 1]'(by omega) :: xs.drop j := by
    rw [List.drop_eq_getElem_cons (by omega)]
    congr 2
    omega
  rw [← List.drop_eq_getElem_cons h2, ← e1, List.take_append_drop]
theorem swap_split (L R : List Nat) (a b : Nat) : swapL (L ++ a :: b :: R) (L.length + 1) = L ++ b :: a :: R := by
  unfold swapL
  rw [Nat.add_sub_cancel]
  have g1 : (L ++ a :: b :: R).getD L.length 0 = a := by simp [List.getD]
  have g2 : (L ++ a :: b :: R).getD (L.length + 1) 0 = b := by simp [List.getD, List.getElem?_append_right]
  rw [g1, g2, List.set_append_right _ _ (by omega), List.set_append_right _ _ (by omega)]
  simp
theorem swap_perm {xs : List Nat} {j : Nat} (h1 : 1 ≤ j) (h2 : j < xs.length) : (swapL xs j).Perm xs := by
  obtain ⟨L, a, b, R, rfl, rfl⟩ := split2 h1 h2
  rw [swap_split]
  exact (List.Perm.swap a b R).append_left L
theorem swap_get {xs : List Nat} {j : Nat} (h1 : 1 ≤ j) (h2 : j < xs.length) (q : Nat) : (swapL xs j).getD q 0 = if q = j then xs.getD (j - 1) 0 else if q = j - 1 then xs.getD j 0 else xs.getD q 0 := by
  unfold swapL
  simp only [List.getD_eq_getElem?_getD, List.getElem?_set, List.length_set]
  by_cases e1 : q = j
  · subst e1
    rw [if_neg (by omega), if_pos rfl, if_pos h2, if_pos rfl]; rfl
  · by_cases e2 : q = j - 1
    · subst e2
      rw [if_pos rfl, if_pos (by omega), if_neg (by omega), if_pos rfl]; rfl
    · rw [if_neg (fun e => e2 e.symm), if_neg (fun e => e1 e.symm), if_neg e1, if_neg e2]
theorem swap_len (xs : List Nat) (j : Nat) : (swapL xs j).length = xs.length := by simp [swapL]
/-- the first i are in order -/
def UpTo (xs : List Nat) (i : Nat) : Prop := ∀ p q, p < q → q < i → xs.getD p 0 ≤ xs.getD q 0
/-- all up to place i are in order, but that at place j with those ahead of it -/
def But (xs : List Nat) (i j : Nat) : Prop := ∀ p q, p < q → q ≤ i → q ≠ j → xs.getD p 0 ≤ xs.getD q 0
theorem but_start {xs : List Nat} {i : Nat} (h : UpTo xs i) : But xs i i := fun p q h1 h2 h3 => h p q h1 (by omega)
theorem but_end {xs : List Nat} {i j : Nat} (h : But xs i j) (hj : j ≤ i) (he : j = 0 ∨ xs.getD (j - 1) 0 ≤ xs.getD j 0) : UpTo xs (i + 1) := fun p q h1 h2 => by
  by_cases e : q = j
  · subst e
    rcases he with he | he
    · omega
    · by_cases e2 : p = q - 1
      · subst e2; exact he
      · exact Nat.le_trans (h p (q - 1) (by omega) (by omega) (by omega)) he
  · exact h p q h1 (by omega) e
theorem but_swap {xs : List Nat} {i j : Nat} (h : But xs i j) (h1 : 1 ≤ j) (hj : j ≤ i) (h2 : i < xs.length) (hl : xs.getD j 0 < xs.getD (j - 1) 0) : But (swapL xs j) i (j - 1) := fun p q hp hq hne => by
  rw [swap_get h1 (by omega), swap_get h1 (by omega)]
  rw [if_neg hne (c := q = j - 1)]
  by_cases e1 : q = j
  · subst e1
    rw [if_pos rfl, if_neg (show ¬ p = q by omega)]
    by_cases e2 : p = q - 1
    · rw [if_pos e2]; omega
    · rw [if_neg e2]; exact h p (q - 1) (by omega) (by omega) (by omega)
  · rw [if_neg e1]
    by_cases e2 : p = j
    · rw [if_pos e2]; exact h (j - 1) q (by omega) hq e1
    · rw [if_neg e2]
      by_cases e3 : p = j - 1
      · rw [if_pos e3]; exact h j q (by omega) hq e1
      · rw [if_neg e3]; exact h p q hp hq e1
theorem upTo_pairwise {xs : List Nat} (h : UpTo xs xs.length) : xs.Pairwise (· ≤ ·) := List.pairwise_iff_getElem.2 fun p q hp hq hpq => by
  have := h p q hpq hq
  simpa [List.getD, hp, hq] using this
end Go.Proofs.YtfkfpanhbanljaaGreatDoor.SortW

/- Layer 47 (twin): the heads as a forest in a row of numbers: the plain law. -/
namespace Go.Proofs.YtfkfpanhbanljaaGreatDoor.Twin

/-- each one's entry leads towards its head -/
def Forest (n : Nat) (up : List Nat) (R : Nat → Nat) : Prop := ∃ d : Nat → Nat, up.length = n ∧ ∀ x, x < n → (up.getD x 0 = x ∧ R x = x) ∨ (up.getD x 0 ≠ x ∧ R x ≠ x ∧ up.getD x 0 < n ∧ R (up.getD x 0) = R x ∧ d (up.getD x 0) < d x)
theorem forest_id (n : Nat) : Forest n (List.range n) id := ⟨fun _ => 0, List.length_range, fun x hx => .inl ⟨by simp [List.getD, hx], rfl⟩⟩
theorem set_getD {up : List Nat} {i v x : Nat} (hi : i < up.length) : (up.set i v).getD x 0 = if x = i then v else up.getD x 0 := by
  simp only [List.getD_eq_getElem?_getD, List.getElem?_set]
  by_cases e : x = i
  · subst e; rw [if_pos rfl, if_pos hi, if_pos rfl]; rfl
  · rw [if_neg (fun h => e h.symm), if_neg e]
theorem forest_join {n : Nat} {adj : Nat → Nat → Bool} {up : List Nat} {R : Nat → Nat} (h : Forest n up R) (hok : HeadOk n adj R) {i k : Nat} (hi : i < n) (hk : k < n) : Forest n (up.set (R i) (R k)) (joinR R i k) := by
  obtain ⟨d, hl, h⟩ := h
  obtain ⟨i1, -, i3⟩ := hok i hi
  obtain ⟨k1, -, k3⟩ := hok k hk
  have hlt : R i < up.length := by omega
  by_cases he : R i = R k
  · refine ⟨d, by rw [List.length_set]; exact hl, fun x hx => ?_⟩
    have e1 : ∀ y, joinR R i k y = R y := fun y => by unfold joinR; split <;> omega
    have e2 : (up.set (R i) (R k)).getD x 0 = up.getD x 0 := by
      rw [set_getD hlt]
      split
      · rename_i e
        subst e
        rcases h (R i) hx with h1 | h1
        · omega
        · omega
      · rfl
    rw [e1, e2, e1]
    exact h x hx
  · refine ⟨fun x => if R x = R i then d x + d (R k) + 1 else d x, by rw [List.length_set]; exact hl, fun x hx => ?_⟩
    dsimp only
    rw [set_getD hlt]
    by_cases e : x = R i
    · subst e
      rw [if_pos rfl]
      refine .inr ⟨fun e2 => he e2.symm, ?_, k1, ?_, ?_⟩
      · unfold joinR; rw [if_pos i3]; exact fun e2 => he e2.symm
      · unfold joinR
        rw [if_pos i3]
        split
        · rfl
        · exact k3
      · rw [k3, if_neg (fun e2 => he e2.symm), if_pos i3]; omega
    · rw [if_neg e]
      rcases h x hx with ⟨h1, h2⟩ | ⟨h1, h2, h3, h4, h5⟩
      · refine .inl ⟨h1, ?_⟩
        unfold joinR
        rw [if_neg (by omega)]
        exact h2
      · refine .inr ⟨h1, ?_, h3, ?_, ?_⟩
        · unfold joinR
          split
          · intro e2
            rw [← e2] at h2
            exact h2 k3
          · exact h2
        · unfold joinR; rw [h4]
        · rw [h4]
          split <;> omega
theorem forest_pair {n : Nat} {adj : Nat → Nat → Bool} {up : List Nat} {R : Nat → Nat} (h : Forest n up R) (hok : HeadOk n adj R) {i k : Nat} (hi : i < n) (hk : k < n) (ha : adj i k = true) : Forest n (up.set (R i) (R k)) (pairR adj R (i, k)) := by
  unfold pairR
  rw [if_pos ha]
  exact forest_join h hok hi hk
end Go.Proofs.YtfkfpanhbanljaaGreatDoor.Twin
