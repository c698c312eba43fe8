/- Rows of the call's own whose elements have several cells each: append, a cut, a store. Over any program. -/
import Derived.Test.YtfkfpanhbanljaaGreatMem
namespace Go.Proofs.YtfkfpanhbanljaaGreat.Mem
open Go.RowKit

/-- a slice of n elements of 'size' cells each, in a block of its own from 'base' on (or nil), holds the cells xs -/
def OwnK (size : Nat) (w : World) (base : Nat) (e : TypeId) (v : Value) (n : Nat) (xs : List Value) : Prop := w.ownsRow base e size v n xs
section
variable {size : Nat} {w w' : World} {base : Nat} {e : TypeId} {v : Value} {n : Nat} {xs : List Value}
theorem OwnK.len (h : OwnK size w base e v n xs) : xs.length = n * size := h.1
theorem OwnK.form (h : OwnK size w base e v n xs) : ∃ A c, v = .slice A n c ∧ n ≤ c ∧ c ≤ maxLen ∧ Rd w w.heap.size A xs := by
  rcases h.2 with ⟨rfl, h0⟩ | ⟨g, cap, cur, rfl, _, hg, hnc, hcm, _, htake⟩
  · have hl := h.1
    have : xs = [] := List.eq_nil_of_length_eq_zero (by rw [hl, h0, Nat.zero_mul])
    subst this h0
    exact ⟨none, 0, rfl, by simp, by simp [maxLen], Rd.nil⟩
  · refine ⟨_, cap, rfl, hnc, hcm, fun _ => ⟨g, 0, rfl, (Array.getElem?_eq_some_iff.1 hg).1, fun j u hu => ?_⟩⟩
    have := World.ownsRow.cells (w := w) h (g := g) rfl j u hu
    rwa [add_plain] at this
theorem OwnK.rd {A : Option Addr} {m c : Nat} (h : OwnK size w base e (.slice A m c) n xs) : Rd w w.heap.size A xs := by
  obtain ⟨A', c', he, _, _, hr⟩ := h.form
  injection he with h1 h2 h3
  subst h1
  exact hr
theorem OwnK.num {A : Option Addr} {m c : Nat} (h : OwnK size w base e (.slice A m c) n xs) : m = n := by
  obtain ⟨A', c', he, _, _, hr⟩ := h.form
  injection he
theorem OwnK.cap {A : Option Addr} {m c : Nat} (h : OwnK size w base e (.slice A m c) n xs) : n ≤ c := by
  obtain ⟨A', c', he, hle, _, hr⟩ := h.form
  injection he with _ _ h3
  omega
theorem OwnK.nilv (size : Nat) (w : World) (base : Nat) (e : TypeId) : OwnK size w base e (.slice none 0 0) 0 [] := World.ownsRow_nil w base e size
theorem OwnK.alloc (h : OwnK size w base e v n xs) (o : Obj) : OwnK size (w.alloc o) base e v n xs := World.ownsRow.alloc h o
theorem OwnK.mono {b' : Nat} (h : OwnK size w base e v n xs) (hb : b' ≤ base) : OwnK size w b' e v n xs := by
  refine ⟨h.1, ?_⟩
  rcases h.2 with h1 | ⟨g, cap, cur, a, b, r⟩
  · exact .inl h1
  · exact .inr ⟨g, cap, cur, a, by omega, r⟩
theorem OwnK.below {B : Nat} (h : OwnK size w base e v n xs) (hb : Below B w w') (hB : w.heap.size ≤ B) : OwnK size w' base e v n xs := by
  refine ⟨h.1, ?_⟩
  rcases h.2 with h1 | ⟨g, cap, cur, a, b, hg, r⟩
  · exact .inl h1
  · refine .inr ⟨g, cap, cur, a, b, ?_, r⟩
    rw [hb.block g (by have := (Array.getElem?_eq_some_iff.1 hg).1; omega)]
    exact hg
theorem OwnK.drewN (h : OwnK size w base e v n xs) (k : Nat) : OwnK size (w.drewN k) base e v n xs := h
theorem OwnK.new (size : Nat) (w : World) (base : Nat) (e : TypeId) (cs : List Value) (n : Nat) (hb : base ≤ w.heap.size) (hm : n ≤ maxLen) (hl : cs.length = n * size) :
    OwnK size (w.alloc (.cells cs.toArray e)) base e (.slice (some ⟨w.heap.size, 0, none⟩) n n) n cs := by
  refine ⟨hl, .inr ⟨w.heap.size, n, cs.toArray, rfl, hb, heap_alloc_new w _, Nat.le_refl _, hm, by simpa using hl, ?_⟩⟩
  rw [← hl]; simp
/-- one cell of such a row: what it holds; a store there -/
theorem OwnK.spot {A : Option Addr} {m c : Nat} (h : OwnK size w base e (.slice A m c) n xs) {k : Nat} {u : Value} (hk : xs[k]? = some u) :
    ∃ g, A = some ⟨g, 0, none⟩ ∧ base ≤ g ∧ g < w.heap.size ∧ w.cell? ⟨g, k, none⟩ = some u ∧ w.frozen? ⟨g, k, none⟩ = false ∧
      ∀ y : Value, OwnK size (w.setCell ⟨g, k, none⟩ y) base e (.slice (some ⟨g, 0, none⟩) m c) n (xs.set k y) ∧ w.grownBy (w.setCell ⟨g, k, none⟩ y) (some g) := by
  have hlt : k < xs.length := (List.getElem?_eq_some_iff.1 hk).1
  have hn := h.num
  subst hn
  have hpos : 0 < m := by
    rcases Nat.eq_zero_or_pos m with e0 | e0
    · have := h.1; rw [e0, Nat.zero_mul] at this; omega
    · exact e0
  obtain ⟨g, cap, hv, hbg, hgl⟩ := World.ownsRow.form h hpos
  injection hv with h1 h2 h3
  subst h1 h3
  have hl := h.1
  refine ⟨g, rfl, hbg, hgl, ?_, World.ownsRow.frozenAt h k, fun y => ?_⟩
  · rw [World.ownsRow.cellAt h k (by omega)]; exact hk
  · obtain ⟨s1, s2⟩ := World.ownsRow.stored h k y
    exact ⟨s1, s2⟩
end
section
variable {P : Program} (w : World)
theorem run_append_nonek (size base : Nat) (t ty e : TypeId) (i : TypeInfo) (ht : P.underlying t = some (.slice e)) (hi : P.info? e = some i)
    (v : Value) (n : Nat) (xs : List Value) (hown : OwnK size w base e v n xs) (c : Nat) : (Builtin.append_ #[t, t] ty #[v, .slice none 0 c]).run P w = .ok v w := by
  rcases hown.2 with ⟨rfl, h0⟩ | ⟨g, cap, cur, rfl, _, _, hnc, _⟩
  · simp [Builtin.append_, run_underlying ht, sizeOf, typeInfo, hi, Builtin.lenOf, Builtin.firstCells]
  · simp [Builtin.append_, run_underlying ht, sizeOf, typeInfo, hi, Builtin.lenOf, Builtin.firstCells, hnc, storeCells]
theorem run_append_rdk (size base : Nat) (t ty e : TypeId) (i : TypeInfo) (z : Value) (bytes : Nat) (ht : P.underlying t = some (.slice e)) (hi : P.info? e = some i) (hz : i.zero = some z)
    (hsize : i.size = size) (hby : i.bytes = bytes) (hzs : z.cells.size = size) (hsz : 0 < size)
    (v : Value) (n : Nat) (xs : List Value) (hown : OwnK size w base e v n xs)
    (B : Nat) (A : Option Addr) (m c : Nat) (news : List Value) (hm : news.length = m * size) (hr : Rd w B A news) (h1 : ∀ u ∈ news, u.oneCell' = true)
    (hbytes : (n + m) * bytes ≤ 140737488355328) (hb1 : 1 ≤ bytes) (hbase : base ≤ w.heap.size) :
    ∃ A' c' w', (Builtin.append_ #[t, t] ty #[v, .slice A m c]).run P w = .ok (.slice A' (n + m) c') w' ∧ OwnK size w' base e (.slice A' (n + m) c') (n + m) (xs ++ news) ∧ w.grownBy w' v.ownBlock ∧
      ((Value.slice A' (n + m) c').ownBlock = v.ownBlock ∨ (Value.slice A' (n + m) c').ownBlock = some w.heap.size) := by
  have hmx : n + m ≤ maxLen := by simp only [maxLen]; have := Nat.le_trans (Nat.le_mul_of_pos_right (n + m) hb1) hbytes; omega
  have fin : ∀ v' w', w'.ownsRow base e size v' (n + m) (xs ++ news) → (Builtin.append_ #[t, t] ty #[v, .slice A m c]).run P w = .ok v' w' → w.grownBy w' v.ownBlock → (v'.ownBlock = v.ownBlock ∨ v'.ownBlock = some w.heap.size) →
      ∃ A' c' w', (Builtin.append_ #[t, t] ty #[v, .slice A m c]).run P w = .ok (.slice A' (n + m) c') w' ∧ OwnK size w' base e (.slice A' (n + m) c') (n + m) (xs ++ news) ∧ w.grownBy w' v.ownBlock ∧
        ((Value.slice A' (n + m) c').ownBlock = v.ownBlock ∨ (Value.slice A' (n + m) c').ownBlock = some w.heap.size) := by
    intro v' w' ho hrun hg hat
    have ho' : OwnK size w' base e v' (n + m) (xs ++ news) := ho
    obtain ⟨A', c', rfl, _⟩ := ho'.form
    exact ⟨A', c', w', hrun, ho', hg, hat⟩
  by_cases hn : news = []
  · subst hn
    have hm0 : m = 0 := by
      rcases Nat.eq_zero_or_pos m with e0 | e0
      · exact e0
      · have : 0 < m * size := Nat.mul_pos e0 hsz
        simp at hm
        omega
    subst hm0
    rcases A with _ | ad
    · exact fin v w (by simpa [OwnK] using hown) (run_append_nonek w size base t ty e i ht hi v n xs hown c) (World.grownBy.refl w _) (.inl rfl)
    · obtain ⟨v', w', hrun, h2, h3, _, h5⟩ := run_append_own_at (P := P) w base t ty e i z size bytes ht hi hz hsize hby hzs hsz v n xs hown ad 0 c [] (by simp) (by simp) (by simp) hmx hbytes hbase
      exact fin v' w' h2 hrun h3 h5
  · obtain ⟨b, o, rfl, hb, hc⟩ := hr hn
    obtain ⟨v', w', hrun, h2, h3, _, h5⟩ := run_append_own_at (P := P) w base t ty e i z size bytes ht hi hz hsize hby hzs hsz v n xs hown ⟨b, o, none⟩ m c news hm (by intro j u hu; rw [add_plain]; exact hc j u hu) h1 hmx hbytes hbase
    exact fin v' w' h2 hrun h3 h5
theorem below_grownk {size base : Nat} {w w' : World} {e : TypeId} {v : Value} {n : Nat} {xs : List Value} (h : OwnK size w base e v n xs) (hg : w.grownBy w' v.ownBlock) (hb : base ≤ w.heap.size) : Below base w w' :=
  (Below.refl base w).grown hg hb (fun k hk => (World.ownsRow.lt h k hk).1)
theorem wp_append_rdk {o : Oper} {a : Act} {K : Act → World → Prop} {Q : Exit → Act → World → Prop} (s x : Operand) (t : TypeId)
    (ho : o.op = .call { callee := .builtin .append, args := #[s, x], argTypes := #[t, t] })
    (size base : Nat) (e : TypeId) (i : TypeInfo) (z : Value) (bytes : Nat) (ht : P.underlying t = some (.slice e)) (hi : P.info? e = some i) (hz : i.zero = some z)
    (hsize : i.size = size) (hby : i.bytes = bytes) (hzs : z.cells.size = size) (hsz : 0 < size)
    (v : Value) (n : Nat) (xs : List Value) (hs : a.eval s = v) (hown : OwnK size w base e v n xs)
    (B : Nat) (A : Option Addr) (m c : Nat) (news : List Value) (hx : a.eval x = .slice A m c) (hm : news.length = m * size) (hr : Rd w B A news) (h1 : ∀ u ∈ news, u.oneCell' = true)
    (hbytes : (n + m) * bytes ≤ 140737488355328) (hb1 : 1 ≤ bytes) (hbase : base ≤ w.heap.size)
    (h : ∀ A' c' w', OwnK size w' base e (.slice A' (n + m) c') (n + m) (xs ++ news) → w.grownBy w' v.ownBlock → Below base w w' → K (a.put o.dst (.slice A' (n + m) c')) w') : o.wp P a w K Q := by
  obtain ⟨A', c', w', hrun, h2, h3, h4⟩ := run_append_rdk (P := P) w size base t o.type e i z bytes ht hi hz hsize hby hzs hsz v n xs hown B A m c news hm hr h1 hbytes hb1 hbase
  unfold Oper.wp execOp
  simp only [ho, resolve, invoke, builtin, Sem.run_bind, Sem.run_pure, Result.andThen_ok, List.map_toArray, List.map_cons, List.map_nil, hs, hx, hrun]
  exact h A' c' w' h2 h3 (below_grownk hown h3 hbase)
theorem wpl_append_rdk {ops : Array Oper} {rest : List Oper} {o : Oper} {a : Act} {Q : Exit → Act → World → Prop} (hgd : o.guard = none) (s x : Operand) (t : TypeId)
    (ho : o.op = .call { callee := .builtin .append, args := #[s, x], argTypes := #[t, t] })
    (size base : Nat) (e : TypeId) (i : TypeInfo) (z : Value) (bytes : Nat) (ht : P.underlying t = some (.slice e)) (hi : P.info? e = some i) (hz : i.zero = some z)
    (hsize : i.size = size) (hby : i.bytes = bytes) (hzs : z.cells.size = size) (hsz : 0 < size)
    (v : Value) (n : Nat) (xs : List Value) (hs : a.eval s = v) (hown : OwnK size w base e v n xs)
    (B : Nat) (A : Option Addr) (m c : Nat) (news : List Value) (hx : a.eval x = .slice A m c) (hm : news.length = m * size) (hr : Rd w B A news) (h1 : ∀ u ∈ news, u.oneCell' = true)
    (hbytes : (n + m) * bytes ≤ 140737488355328) (hb1 : 1 ≤ bytes) (hbase : base ≤ w.heap.size)
    (h : ∀ A' c' w', OwnK size w' base e (.slice A' (n + m) c') (n + m) (xs ++ news) → w.grownBy w' v.ownBlock → Below base w w' → wpList P ops Q rest (a.put o.dst (.slice A' (n + m) c')) w') : wpList P ops Q (o :: rest) a w :=
  wpList_plain hgd fun _ hK => wp_append_rdk w s x t ho size base e i z bytes ht hi hz hsize hby hzs hsz v n xs hs hown B A m c news hx hm hr h1 hbytes hb1 hbase fun A' c' w' h2 h3 h4 => hK _ _ (h A' c' w' h2 h3 h4)
end
/-- elements of k cells each, as cells: an element put in another's place; all but the first ones -/
theorem flat_set {α : Type} (g : α → List Value) (k : Nat) (hg : ∀ x, (g x).length = k) : ∀ (ls : List α) (i j : Nat) (x y : α) (u : Value), ls[i]? = some x → j < k → g y = (g x).set j u → (ls.flatMap g).set (i * k + j) u = (ls.set i y).flatMap g
  | [], i, j, x, y, u, h, _, _ => by simp at h
  | z :: ls, 0, j, x, y, u, h, hj, hy => by
    simp at h
    subst h
    rw [List.flatMap_cons, Nat.zero_mul, Nat.zero_add, List.set_append_left _ _ (by rw [hg]; exact hj), List.set_cons_zero, List.flatMap_cons, hy]
  | z :: ls, i + 1, j, x, y, u, h, hj, hy => by
    rw [List.flatMap_cons, List.set_append_right _ _ (by rw [hg, Nat.add_mul]; omega), hg, List.set_cons_succ, List.flatMap_cons, show (i + 1) * k + j - k = i * k + j from by rw [Nat.add_mul]; omega,
      flat_set g k hg ls i j x y u (by simpa using h) hj hy]
/-- block g holds the cells cs, of type t, none of them frozen -/
def Blk (w : World) (g : Nat) (cs : List Value) (t : TypeId) : Prop := w.heap[g]? = some (.cells cs.toArray t (0, 0))
section
variable {w w' : World} {g : Nat} {cs : List Value} {t : TypeId}
theorem Blk.lt (h : Blk w g cs t) : g < w.heap.size := (Array.getElem?_eq_some_iff.1 h).1
theorem Blk.cell (h : Blk w g cs t) {j : Nat} {u : Value} (hj : cs[j]? = some u) : w.cell? ⟨g, j, none⟩ = some u := by
  rw [cell_of_row w g j cs.toArray t (0, 0) h]; simpa using hj
theorem Blk.frozen (h : Blk w g cs t) (j : Nat) : w.frozen? ⟨g, j, none⟩ = false := by
  unfold Blk at h
  simp [World.frozen?, h]
theorem Blk.below {B : Nat} (h : Blk w g cs t) (hb : Below B w w') (hg : g < B) : Blk w' g cs t := (hb.block g hg).trans h
theorem Blk.next (h : Blk w g cs t) (hb : Below w.heap.size w w') : Blk w' g cs t := h.below hb h.lt
theorem Blk.alloc (h : Blk w g cs t) (o : Obj) : Blk (w.alloc o) g cs t := (Below.heap_alloc w o g h.lt).trans h
theorem Blk.drewN (h : Blk w g cs t) (q : Nat) : Blk (w.drewN q) g cs t := h
theorem Blk.drew (h : Blk w g cs t) : Blk w.drew g cs t := h
theorem Blk.new (w : World) (cs : List Value) (t : TypeId) : Blk (w.alloc (.cells cs.toArray t)) w.heap.size cs t := heap_alloc_new w _
theorem Blk.newAt (w : World) (cs : List Value) (t : TypeId) (hg : g = w.heap.size) : Blk (w.alloc (.cells cs.toArray t)) g cs t := by
  subst hg; exact Blk.new w cs t
theorem Blk.set (h : Blk w g cs t) (j : Nat) (u : Value) : Blk (w.setCell ⟨g, j, none⟩ u) g (cs.set j u) t := by
  unfold Blk at h ⊢
  obtain ⟨hlt, he⟩ := Array.getElem?_eq_some_iff.1 h
  simp only [World.setCell, Array.getElem?_modify, if_pos trivial, h, Option.map_some]
  simp
theorem Blk.other (h : Blk w g cs t) {p : Addr} (hp : p.block ≠ g) (u : Value) : Blk (w.setCell p u) g cs t := (Below.heap_setCell w p u g (fun e => hp e.symm)).trans h
theorem Blk.rd (h : Blk w g cs t) : Mem.Rd w w.heap.size (some ⟨g, 0, none⟩) cs := fun _ => ⟨g, 0, rfl, h.lt, fun j u hu => by rw [Nat.zero_add]; exact h.cell hu⟩
end
/-- what is owned in another block than the one that was written -/
theorem OwnK.kept {size : Nat} {w w' : World} {base : Nat} {e : TypeId} {v : Value} {n : Nat} {xs : List Value} {row : Option Nat} (h : OwnK size w base e v n xs) (hg : w.grownBy w' row) (hne : v.ownBlock = none ∨ v.ownBlock ≠ row) : OwnK size w' base e v n xs := World.ownsRow.kept h hg hne
/-- blocks of elements of unlike types are unlike -/
theorem OwnK.apart {s1 s2 : Nat} {w : World} {b1 b2 : Nat} {e1 e2 : TypeId} {v : Value} {n1 n2 m2 c2 : Nat} {xs1 xs2 : List Value} {g : Nat} (h : OwnK s1 w b1 e1 v n1 xs1) (h2 : OwnK s2 w b2 e2 (.slice (some ⟨g, 0, none⟩) m2 c2) n2 xs2) (hne : e1 ≠ e2) : v.ownBlock = none ∨ v.ownBlock ≠ some g := by
  rcases h.2 with ⟨rfl, _⟩ | ⟨g1, cap, cur, rfl, _, hg1, _⟩
  · exact .inl rfl
  · refine .inr fun e => ?_
    have hgg : g1 = g := Option.some.inj e
    subst hgg
    rcases h2.2 with ⟨h3, _⟩ | ⟨g2, cap2, cur2, h3, _, hg2, _⟩
    · cases h3
    · injection h3 with h4
      have : g1 = g2 := congrArg Addr.block (Option.some.inj h4)
      subst this
      rw [hg1] at hg2
      injection Option.some.inj hg2 with _ h5
      exact hne h5
/-- a store below what is owned -/
theorem OwnK.low {size : Nat} {w : World} {base : Nat} {e : TypeId} {v : Value} {n : Nat} {xs : List Value} (h : OwnK size w base e v n xs) {p : Addr} (hp : p.block < base) (u : Value) : OwnK size (w.setCell p u) base e v n xs := by
  refine ⟨h.1, ?_⟩
  rcases h.2 with h1 | ⟨g, cap, cur, a, b, hg, r⟩
  · exact .inl h1
  · exact .inr ⟨g, cap, cur, a, b, (Below.heap_setCell w p u g (by omega)).trans hg, r⟩
/-- a store into another block -/
theorem OwnK.other {size : Nat} {w : World} {base : Nat} {e : TypeId} {v : Value} {n : Nat} {xs : List Value} (h : OwnK size w base e v n xs) {p : Addr} (hne : v.ownBlock = none ∨ v.ownBlock ≠ some p.block) (u : Value) : OwnK size (w.setCell p u) base e v n xs := by
  refine ⟨h.1, ?_⟩
  rcases h.2 with h1 | ⟨g, cap, cur, a, b, hg, r⟩
  · exact .inl h1
  · refine .inr ⟨g, cap, cur, a, b, (Below.heap_setCell w p u g (fun e => ?_)).trans hg, r⟩
    subst a
    rcases hne with h1 | h1
    · cases h1
    · exact h1 (congrArg some e)
theorem OwnK.under {size : Nat} {w : World} {base : Nat} {e : TypeId} {v : Value} {n : Nat} {xs : List Value} (h : OwnK size w base e v n xs) : ∀ k, v.ownBlock = some k → base ≤ k ∧ k < w.heap.size := World.ownsRow.lt h
/-- a block of another type is another block -/
theorem OwnK.apartB {size : Nat} {w : World} {base : Nat} {e t : TypeId} {v : Value} {n : Nat} {xs cs : List Value} {g : Nat} (h : OwnK size w base e v n xs) (hk : Blk w g cs t) (hne : e ≠ t) : v.ownBlock = none ∨ v.ownBlock ≠ some g := by
  rcases h.2 with ⟨rfl, _⟩ | ⟨g1, cap, cur, rfl, _, hg1, _⟩
  · exact .inl rfl
  · refine .inr fun e => ?_
    have hgg : g1 = g := Option.some.inj e
    subst hgg
    unfold Blk at hk
    rw [hg1] at hk
    injection Option.some.inj hk with _ h5
    exact hne h5
theorem Blk.set2 {w : World} {g : Nat} {u0 u1 v0 v1 : Value} {t : TypeId} (h : Blk w g [u0, u1] t) : Blk ((w.setCell ⟨g, 0, none⟩ v0).setCell ⟨g, 1, none⟩ v1) g [v0, v1] t := (h.set 0 v0).set 1 v1
theorem Blk.other2 {w : World} {g g' : Nat} {cs : List Value} {t : TypeId} (h : Blk w g cs t) (hne : g' ≠ g) (v0 v1 : Value) : Blk ((w.setCell ⟨g', 0, none⟩ v0).setCell ⟨g', 1, none⟩ v1) g cs t := (h.other hne v0).other hne v1
theorem below_set {w w1 : World} (h : Below w.heap.size w w1) {p : Addr} (hp : w.heap.size ≤ p.block) (u : Value) : Below w.heap.size w (w1.setCell p u) := h.setCell hp u
theorem below_set2 {w w1 : World} (h : Below w.heap.size w w1) {g : Nat} (hp : w.heap.size ≤ g) (v0 v1 : Value) : Below w.heap.size w ((w1.setCell ⟨g, 0, none⟩ v0).setCell ⟨g, 1, none⟩ v1) := (h.setCell (p := ⟨g, 0, none⟩) hp v0).setCell (p := ⟨g, 1, none⟩) hp v1
/-! lists of whatever elements: g says the cells of one, k how many these are -/
structure Elem (α : Type) where
  g : α → List Value
  k : Nat
  pos : 0 < k
  len : ∀ x, (g x).length = k
  one : ∀ x, ∀ u ∈ g x, u.oneCell' = true
section
variable {α : Type} (E : Elem α)
def Elem.cells (l : List α) : List Value := l.flatMap E.g
theorem Elem.cells_length (l : List α) : (E.cells l).length = l.length * E.k := by
  unfold Elem.cells
  induction l with
  | nil => simp
  | cons y ls ih => rw [List.flatMap_cons, List.length_append, E.len, ih, List.length_cons, Nat.add_mul]; omega
theorem Elem.cells_append (a b : List α) : E.cells (a ++ b) = E.cells a ++ E.cells b := by unfold Elem.cells; rw [List.flatMap_append]
theorem Elem.cells_one (l : List α) : ∀ u ∈ E.cells l, u.oneCell' = true := by
  intro u hu
  simp only [Elem.cells, List.mem_flatMap] at hu
  obtain ⟨x, _, hx⟩ := hu
  exact E.one x u hx
theorem Elem.cells_get {l : List α} {i j : Nat} {x : α} (h : l[i]? = some x) (hj : j < E.k) : (E.cells l)[i * E.k + j]? = (E.g x)[j]? := by
  have : ∀ (ls : List α) (i : Nat), ls[i]? = some x → (ls.flatMap E.g)[i * E.k + j]? = (E.g x)[j]? := by
    intro ls
    induction ls with
    | nil => intro i h; simp at h
    | cons y ls ih =>
      intro i h
      rcases i with _ | i
      · simp at h
        subst h
        rw [List.flatMap_cons, Nat.zero_mul, Nat.zero_add, List.getElem?_append_left (by rw [E.len]; exact hj)]
      · rw [List.flatMap_cons, List.getElem?_append_right (by rw [E.len, Nat.add_mul]; omega), E.len, show (i + 1) * E.k + j - E.k = i * E.k + j from by rw [Nat.add_mul]; omega]
        exact ih i (by simpa using h)
  exact this l i h
theorem Elem.cells_take (l : List α) (i : Nat) : (E.cells l).take (i * E.k) = E.cells (l.take i) := by
  by_cases h : i ≤ l.length
  · have e : E.cells l = E.cells (l.take i) ++ E.cells (l.drop i) := by rw [← E.cells_append, List.take_append_drop]
    have hl : (E.cells (l.take i)).length = i * E.k := by rw [E.cells_length, List.length_take, Nat.min_eq_left h]
    rw [e, ← hl, List.take_left]
  · have h2 : l.length ≤ i := by omega
    rw [List.take_of_length_le h2, List.take_of_length_le (by rw [E.cells_length]; exact Nat.mul_le_mul_right _ h2)]
theorem Elem.cells_drop (l : List α) (i : Nat) : (E.cells l).drop (i * E.k) = E.cells (l.drop i) := by
  by_cases h : i ≤ l.length
  · have e : E.cells l = E.cells (l.take i) ++ E.cells (l.drop i) := by rw [← E.cells_append, List.take_append_drop]
    have hl : (E.cells (l.take i)).length = i * E.k := by rw [E.cells_length, List.length_take, Nat.min_eq_left h]
    rw [e, ← hl, List.drop_left]
  · have h2 : l.length ≤ i := by omega
    rw [List.drop_eq_nil_of_le h2, List.drop_eq_nil_of_le (by rw [E.cells_length]; exact Nat.mul_le_mul_right _ h2)]; rfl
theorem Elem.cells_set {l : List α} {i j : Nat} {x y : α} {u : Value} (h : l[i]? = some x) (hj : j < E.k) (hy : E.g y = (E.g x).set j u) : (E.cells l).set (i * E.k + j) u = E.cells (l.set i y) :=
  flat_set E.g E.k E.len l i j x y u h hj hy
/-- a slice that reads the elements l -/
def Elem.Rd (w : World) (B : Nat) (A : Option Addr) (l : List α) : Prop := Mem.Rd w B A (E.cells l)
/-- one that owns them -/
def Elem.Own (w : World) (base : Nat) (e : TypeId) (v : Value) (l : List α) : Prop := OwnK E.k w base e v l.length (E.cells l)
/-- a call gives elements of its own -/
def Elem.Gives (e : TypeId) (w : World) (l : List α) (en : Ending) (w' : World) : Prop :=
  ∃ A c, en = .returned (.slice A l.length c) ∧ E.Own w' w.heap.size e (.slice A l.length c) l ∧ l.length ≤ c ∧ Below w.heap.size w w'
variable {E}
theorem Elem.Rd.nil (E : Elem α) {w : World} {B : Nat} {A : Option Addr} : E.Rd w B A [] := Mem.Rd.nil
theorem Elem.Rd.keep {w w' : World} {B : Nat} {A : Option Addr} {l : List α} (h : E.Rd w B A l) (hk : ∀ p : Addr, p.block < B → w'.cell? p = w.cell? p) : E.Rd w' B A l := Mem.Rd.keep h hk
theorem Elem.Rd.more {w : World} {B B' : Nat} {A : Option Addr} {l : List α} (h : E.Rd w B A l) (hB : B ≤ B') : E.Rd w B' A l := Mem.Rd.more h hB
theorem Elem.Rd.below {w w' : World} {B : Nat} {A : Option Addr} {l : List α} (h : E.Rd w B A l) (hb : Below B w w') : E.Rd w' B A l := Mem.Rd.below h hb
theorem Elem.Rd.next {w w' : World} {A : Option Addr} {l : List α} (h : E.Rd w w.heap.size A l) (hb : Below w.heap.size w w') : E.Rd w' w'.heap.size A l := Mem.Rd.next h hb
theorem Elem.Rd.alloc {w : World} {B : Nat} {A : Option Addr} {l : List α} (h : E.Rd w B A l) (hB : B ≤ w.heap.size) (o : Obj) : E.Rd (w.alloc o) B A l := Mem.Rd.alloc h hB o
theorem Elem.Rd.drewN {w : World} {B : Nat} {A : Option Addr} {l : List α} (h : E.Rd w B A l) (q : Nat) : E.Rd (w.drewN q) B A l := h
theorem Elem.Rd.none {w : World} {B : Nat} {l : List α} (h : E.Rd w B none l) : l = [] := by
  by_cases he : E.cells l = []
  · have := E.cells_length l
    rw [he] at this
    rcases Nat.eq_zero_or_pos l.length with e0 | e0
    · exact List.eq_nil_of_length_eq_zero e0
    · have h2 := Nat.mul_pos e0 E.pos
      simp at this
      omega
  · obtain ⟨_, _, h1, _⟩ := h he
    cases h1
/-- an element: where its cells lie -/
theorem Elem.Rd.at_ {w : World} {B : Nat} {A : Option Addr} {l : List α} (h : E.Rd w B A l) {i : Nat} {x : α} (hi : l[i]? = some x) :
    ∃ b o, A = some ⟨b, o, Option.none⟩ ∧ b < B ∧ ∀ j u, (E.g x)[j]? = some u → w.cell? ⟨b, o + (i * E.k + j), Option.none⟩ = some u := by
  have hlt := (List.getElem?_eq_some_iff.1 hi).1
  have hne : E.cells l ≠ [] := by
    intro e
    have h0 := E.cells_length l
    rw [e] at h0
    have := Nat.mul_pos (show 0 < l.length by omega) E.pos
    simp at h0
    omega
  obtain ⟨b, o, e, hb, hc⟩ := h hne
  refine ⟨b, o, e, hb, fun j u hu => hc _ _ ?_⟩
  have hj : j < E.k := by have := (List.getElem?_eq_some_iff.1 hu).1; rwa [E.len] at this
  rw [E.cells_get hi hj]
  exact hu
theorem Elem.Own.rd {w : World} {base : Nat} {e : TypeId} {A : Option Addr} {n c : Nat} {l : List α} (h : E.Own w base e (.slice A n c) l) : E.Rd w w.heap.size A l := OwnK.rd h
theorem Elem.Own.len {w : World} {base : Nat} {e : TypeId} {A : Option Addr} {n c : Nat} {l : List α} (h : E.Own w base e (.slice A n c) l) : n = l.length := OwnK.num h
theorem Elem.Own.cap {w : World} {base : Nat} {e : TypeId} {A : Option Addr} {n c : Nat} {l : List α} (h : E.Own w base e (.slice A n c) l) : l.length ≤ c := OwnK.cap h
theorem Elem.Own.nilv (E : Elem α) (w : World) (base : Nat) (e : TypeId) : E.Own w base e (.slice none 0 0) [] := OwnK.nilv E.k w base e
theorem Elem.Own.alloc {w : World} {base : Nat} {e : TypeId} {v : Value} {l : List α} (h : E.Own w base e v l) (o : Obj) : E.Own (w.alloc o) base e v l := OwnK.alloc h o
theorem Elem.Own.drewN {w : World} {base : Nat} {e : TypeId} {v : Value} {l : List α} (h : E.Own w base e v l) (q : Nat) : E.Own (w.drewN q) base e v l := h
theorem Elem.Own.mono {w : World} {base b' : Nat} {e : TypeId} {v : Value} {l : List α} (h : E.Own w base e v l) (hb : b' ≤ base) : E.Own w b' e v l := OwnK.mono h hb
theorem Elem.Own.below {w w' : World} {base B : Nat} {e : TypeId} {v : Value} {l : List α} (h : E.Own w base e v l) (hb : Below B w w') (hB : w.heap.size ≤ B) : E.Own w' base e v l := OwnK.below h hb hB
theorem Elem.Own.new (E : Elem α) (w : World) (base : Nat) (e : TypeId) (l : List α) (hb : base ≤ w.heap.size) (hm : l.length ≤ maxLen) :
    E.Own (w.alloc (.cells (E.cells l).toArray e)) base e (.slice (some ⟨w.heap.size, 0, Option.none⟩) l.length l.length) l := OwnK.new E.k w base e (E.cells l) l.length hb hm (E.cells_length l)
theorem Elem.gives {e : TypeId} {w w2 : World} {A : Option Addr} {c : Nat} {r l : List α} (h : r = l) (hown : E.Own w2 w.heap.size e (.slice A r.length c) r) (hb : Below w.heap.size w w2) : E.Gives e w l (.returned (.slice A r.length c)) w2 := by
  subst h
  exact ⟨A, c, rfl, hown, hown.cap, hb⟩
/-- a cell of an element of one's own: a store there makes another element of it -/
theorem Elem.Own.spot {w : World} {base : Nat} {e : TypeId} {A : Option Addr} {n c : Nat} {l : List α} (h : E.Own w base e (.slice A n c) l) {i j : Nat} {x : α} {u : Value} (hi : l[i]? = some x) (hu : (E.g x)[j]? = some u) :
    ∃ g, A = some ⟨g, 0, Option.none⟩ ∧ base ≤ g ∧ g < w.heap.size ∧ w.cell? ⟨g, i * E.k + j, Option.none⟩ = some u ∧ w.frozen? ⟨g, i * E.k + j, Option.none⟩ = false ∧
      ∀ (y : α) (z : Value), E.g y = (E.g x).set j z → E.Own (w.setCell ⟨g, i * E.k + j, Option.none⟩ z) base e (.slice (some ⟨g, 0, Option.none⟩) n c) (l.set i y) ∧ w.grownBy (w.setCell ⟨g, i * E.k + j, Option.none⟩ z) (some g) := by
  have hj : j < E.k := by have := (List.getElem?_eq_some_iff.1 hu).1; rwa [E.len] at this
  obtain ⟨g, h1, h2, h3, h4, h5, h6⟩ := OwnK.spot h (k := i * E.k + j) (u := u) (by rw [E.cells_get hi hj]; exact hu)
  refine ⟨g, h1, h2, h3, h4, h5, fun y z hy => ?_⟩
  obtain ⟨s1, s2⟩ := h6 z
  rw [E.cells_set hi hj hy] at s1
  refine ⟨?_, s2⟩
  unfold Elem.Own
  rw [List.length_set]
  exact s1
end
section
variable {P : Program} (w : World) {α : Type} (E : Elem α)
theorem wpl_appE {ops : Array Oper} {rest : List Oper} {o : Oper} {a : Act} {Q : Exit → Act → World → Prop} (hgd : o.guard = none) (s x : Operand) (t : TypeId)
    (ho : o.op = .call { callee := .builtin .append, args := #[s, x], argTypes := #[t, t] })
    (base : Nat) (e : TypeId) {z : Value} {bytes : Nat} (ht : P.underlying t = some (.slice e)) (hinfo : (P.info? e).map (fun i => (i.zero, i.size, i.bytes)) = some (some z, E.k, bytes)) (hzs : z.cells.size = E.k)
    (v : Value) (l : List α) (hs : a.eval s = v) (hown : E.Own w base e v l)
    (B : Nat) (A : Option Addr) (m c : Nat) (news : List α) (hx : a.eval x = .slice A m c) (hm : m = news.length) (hr : E.Rd w B A news)
    (hbytes : (l.length + news.length) * bytes ≤ 140737488355328) (hb1 : 1 ≤ bytes) (hbase : base ≤ w.heap.size)
    (h : ∀ A' c' w' r, Kept (r = l ++ news) → E.Own w' base e (.slice A' r.length c') r → Below base w w' → wpList P ops Q rest (a.put o.dst (.slice A' r.length c')) w') : wpList P ops Q (o :: rest) a w := by
  obtain ⟨i0, hi0, hz0, hz1, hz2⟩ := info_parts hinfo
  subst hm
  refine wpl_append_rdk w hgd s x t ho E.k base e i0 z bytes ht hi0 hz0 hz1 hz2 hzs E.pos v l.length (E.cells l) hs hown B A news.length c (E.cells news) hx (E.cells_length news) hr (E.cells_one _) hbytes hb1 hbase ?_
  intro A' c' w' h1 _ h3
  rw [← E.cells_append, ← List.length_append] at h1
  have := h A' c' w' (l ++ news) ⟨rfl⟩ h1 h3
  rwa [List.length_append] at this
/-- the same inside a region that draws its order -/
theorem step_appE {ops : Array Oper} {o : Oper} {a : Act} {K : Act → World → Prop} {Q : Exit → Act → World → Prop} {F : Prop} (hgd : o.guard = none) (s x : Operand) (t : TypeId)
    (ho : o.op = .call { callee := .builtin .append, args := #[s, x], argTypes := #[t, t] })
    (base : Nat) (e : TypeId) {z : Value} {bytes : Nat} (ht : P.underlying t = some (.slice e)) (hinfo : (P.info? e).map (fun i => (i.zero, i.size, i.bytes)) = some (some z, E.k, bytes)) (hzs : z.cells.size = E.k)
    (v : Value) (l : List α) (hs : a.eval s = v) (hown : E.Own w base e v l)
    (B : Nat) (A : Option Addr) (m c : Nat) (news : List α) (hx : a.eval x = .slice A m c) (hm : m = news.length) (hr : E.Rd w B A news)
    (hbytes : (l.length + news.length) * bytes ≤ 140737488355328) (hb1 : 1 ≤ bytes) (hbase : base ≤ w.heap.size)
    (h : ∀ A' c' w' r, Kept (r = l ++ news) → E.Own w' base e (.slice A' r.length c') r → Below base w w' → K (a.put o.dst (.slice A' r.length c')) w') :
    if Region.wanted o (yielded ops a.tmps) = true then Oper.wp P o a w K Q else F := by
  have hw : Region.wanted o (yielded ops a.tmps) = true := by simp [Region.wanted, hgd]
  rw [if_pos hw]
  obtain ⟨i0, hi0, hz0, hz1, hz2⟩ := info_parts hinfo
  subst hm
  refine wp_append_rdk w s x t ho E.k base e i0 z bytes ht hi0 hz0 hz1 hz2 hzs E.pos v l.length (E.cells l) hs hown B A news.length c (E.cells news) hx (E.cells_length news) hr (E.cells_one _) hbytes hb1 hbase ?_
  intro A' c' w' h1 _ h3
  rw [← E.cells_append, ← List.length_append] at h1
  have := h A' c' w' (l ++ news) ⟨rfl⟩ h1 h3
  rwa [List.length_append] at this
end
end Go.Proofs.YtfkfpanhbanljaaGreat.Mem
