import Derived.Test.YtfkfpanhbanljaaGreatHold
import Derived.Laws.Tables
import Derived.Laws.Rows
import Derived.Deep.MidRow
import Derived.Test.YtfkfpanhbanljaaGreatMemK
/- Words for a whole struct in a block of its own, over any program: loaded, stored and handed back as one step. -/
namespace Go.Proofs.YtfkfpanhbanljaaGreat.Mem
open Go.RowKit

theorem bnext {w w1 w2 : World} (h : Below w.heap.size w w1) (h2 : Below w1.heap.size w1 w2) : Below w.heap.size w w2 := h.trans (h2.mono h.size)
theorem bnew {w w1 : World} (h : Below w.heap.size w w1) (o : Obj) : Below w.heap.size w (w1.alloc o) := h.alloc h.size o
section
variable {P : Program} {w : World}
theorem blk_setRow {g : Nat} {old cs : List Value} {t : TypeId} (h : Blk w g old t) : Blk (w.setRow g cs.toArray) g cs t := setRow_heap w g old.toArray cs.toArray t (0, 0) h
theorem upd_setRow (g : Nat) (cs : Array Value) : Upd (fun k => k = g) w (w.setRow g cs) :=
  ⟨setRow_os w g cs, setRow_tape w g cs, setRow_output w g cs, by rw [setRow_size]; exact Nat.le_refl _, fun k _ hk => setRow_other w g k cs hk⟩
theorem wpl_loadB {ops : Array Oper} {rest : List Oper} {o : Oper} {a : Act} {Q : Exit → Act → World → Prop} (hgd : o.guard = none) (ty : TypeId) (x : Operand) (ho : o.op = .load ty x)
    (g : Nat) (hx : a.eval x = .pointer (some ⟨g, 0, none⟩)) (t : TypeId) (cs : List Value) (hk : Blk w g cs t) (d : TypeDesc)
    (hu : P.underlying ty = some d) (hd : (match d with | .struct _ | .array _ _ => true | _ => false) = true) (hi : (P.info? ty).map (·.size) = some cs.length)
    (h : wpList P ops Q rest (a.put o.dst (.agg cs.toArray)) w) : wpList P ops Q (o :: rest) a w :=
  wpList_load_row hgd ty x ho g hx t cs.toArray (0, 0) d hk hu hd (by simpa using hi) h
theorem wpl_storeB {ops : Array Oper} {rest : List Oper} {o : Oper} {a : Act} {Q : Exit → Act → World → Prop} (hgd : o.guard = none) (ty : TypeId) (x y : Operand) (ho : o.op = .store ty x y)
    (g : Nat) (cells : List Value) (hx : a.eval x = .pointer (some ⟨g, 0, none⟩)) (hy : a.eval y = .agg cells.toArray)
    (t : TypeId) (old : List Value) (hk : Blk w g old t) (hi : (P.info? ty).map (·.size) = some cells.length)
    (hold : old.length = cells.length) (h1 : cells.all (·.oneCell') = true)
    (h : ∀ w', Blk w' g cells t → Upd (fun k => k = g) w w' → wpList P ops Q rest (a.put o.dst undef) w') : wpList P ops Q (o :: rest) a w :=
  wpList_store_row hgd ty x y ho g cells.toArray hx hy t old.toArray hk (by simpa using hi) (by simpa using hold) (by simpa using h1) (h _ (blk_setRow hk) (upd_setRow g _))
/-- the same where the operation is guarded, and is wanted -/
theorem wpl_loadBG {ops : Array Oper} {rest : List Oper} {o : Oper} {a : Act} {Q : Exit → Act → World → Prop} (hw : Region.wanted o (yielded ops a.tmps) = true) (ty : TypeId) (x : Operand) (ho : o.op = .load ty x)
    (g : Nat) (hx : a.eval x = .pointer (some ⟨g, 0, none⟩)) (t : TypeId) (cs : List Value) (hk : Blk w g cs t) (d : TypeDesc)
    (hu : P.underlying ty = some d) (hd : (match d with | .struct _ | .array _ _ => true | _ => false) = true) (hi : (P.info? ty).map (·.size) = some cs.length)
    (h : wpList P ops Q rest (a.put o.dst (.agg cs.toArray)) w) : wpList P ops Q (o :: rest) a w :=
  wpList_step fun K hK => by
    rw [if_pos hw]
    exact wp_load_row ty x ho g hx t cs.toArray (0, 0) d hk hu hd (by simpa using hi) (hK _ _ h)
/-- the same inside a region that draws its order -/
theorem step_loadB {ops : Array Oper} {o : Oper} {a : Act} {K : Act → World → Prop} {Q : Exit → Act → World → Prop} {F : Prop} (hgd : o.guard = none) (ty : TypeId) (x : Operand) (ho : o.op = .load ty x)
    (g : Nat) (hx : a.eval x = .pointer (some ⟨g, 0, none⟩)) (t : TypeId) (cs : List Value) (hk : Blk w g cs t) (d : TypeDesc)
    (hu : P.underlying ty = some d) (hd : (match d with | .struct _ | .array _ _ => true | _ => false) = true) (hi : (P.info? ty).map (·.size) = some cs.length)
    (h : K (a.put o.dst (.agg cs.toArray)) w) : if Region.wanted o (yielded ops a.tmps) = true then Oper.wp P o a w K Q else F := by
  rw [if_pos (by simp [Region.wanted, hgd])]
  exact wp_load_row ty x ho g hx t cs.toArray (0, 0) d hk hu hd (by simpa using hi) h
/-- a struct, and a number beside it, handed back -/
theorem res_cell_tmp {fn : Func} {p q : Tmp} {ty : TypeId} (h : fn.results = #[.cell p ty, .tmp q]) (tmps : Array Value) (g : Nat) (t : TypeId) (cs : List Value) (d : TypeDesc)
    (hp : tmps.getD p undef = .pointer (some ⟨g, 0, none⟩)) (hk : Blk w g cs t)
    (hu : P.underlying ty = some d) (hd : (match d with | .struct _ | .array _ _ => true | _ => false) = true) (hi : (P.info? ty).map (·.size) = some cs.length) :
    (results fn tmps).run P w = .ok (.tuple #[.agg cs.toArray, tmps.getD q undef]) w := by
  have hp' : tmps[p]?.getD undef = .pointer (some ⟨g, 0, none⟩) := by simpa using hp
  simp [results, h, hp', asAddr, run_loadVar_row w g t ty cs.toArray (0, 0) d hk hu hd (by simpa using hi)]
theorem res_cell_one {fn : Func} {p : Tmp} {ty : TypeId} (h : fn.results = #[.cell p ty]) (tmps : Array Value) (g : Nat) (t : TypeId) (cs : List Value) (d : TypeDesc)
    (hp : tmps.getD p undef = .pointer (some ⟨g, 0, none⟩)) (hk : Blk w g cs t)
    (hu : P.underlying ty = some d) (hd : (match d with | .struct _ | .array _ _ => true | _ => false) = true) (hi : (P.info? ty).map (·.size) = some cs.length) :
    (results fn tmps).run P w = .ok (.agg cs.toArray) w :=
  results_cell_row h tmps w g t cs.toArray (0, 0) d hp hk hu hd (by simpa using hi)
end
end Go.Proofs.YtfkfpanhbanljaaGreat.Mem

/- Words for the first cells of a block, over any program: a struct at the head of a greater one is loaded and stored as one step. -/
namespace Go.Proofs.YtfkfpanhbanljaaGreat.Mem
open Go.RowKit

theorem setCells_set (b : Nat) : ∀ (vs : List Value) (o : Nat) (w : World) (old : List Value) (t : TypeId), Blk w b old t → o + vs.length ≤ old.length → Blk (w.setCells b o vs) b (old.take o ++ vs ++ old.drop (o + vs.length)) t
  | [], o, w, old, t, h, ho => by simpa [World.setCells] using h
  | v :: r, o, w, old, t, h, ho => by
    simp only [List.length_cons] at ho
    have h1 := setCells_set b r (o + 1) (w.setCell ⟨b, o, none⟩ v) (old.set o v) t (h.set o v) (by rw [List.length_set]; omega)
    rw [World.setCells]
    have e : (old.set o v).take (o + 1) ++ r ++ (old.set o v).drop (o + 1 + r.length) = old.take o ++ v :: r ++ old.drop (o + (v :: r).length) := by
      have e1 : (old.set o v).take (o + 1) = old.take o ++ [v] := by
        rw [List.take_succ_eq_append_getElem (by rw [List.length_set]; omega), List.take_set_of_le (Nat.le_refl o)]
        simp
      have e2 : (old.set o v).drop (o + 1 + r.length) = old.drop (o + (v :: r).length) := by
        rw [List.drop_set_of_lt (by omega), List.length_cons, Nat.add_assoc, Nat.add_comm 1]
      rw [e1, e2]; simp
    rw [e] at h1
    exact h1
theorem setCells_upd (b : Nat) : ∀ (vs : List Value) (o : Nat) (w : World), Upd (fun k => k = b) w (w.setCells b o vs)
  | [], _, w => Upd.refl _ w
  | v :: r, o, w => by
    rw [World.setCells]
    exact (Upd.setCell (S := fun k => k = b) (Upd.refl _ w) (p := ⟨b, o, none⟩) (.inl rfl) v).trans (setCells_upd b r (o + 1) _)
section
variable {P : Program} {w : World}
theorem blk_range {g : Nat} {cs more : List Value} {t : TypeId} (h : Blk w g (cs ++ more) t) : w.rangeAt g 0 cs := fun j v hv => by
  rw [Nat.zero_add]
  exact h.cell (by rw [List.getElem?_append_left (List.getElem?_eq_some_iff.1 hv).1]; exact hv)
theorem blk_there {g : Nat} {old : List Value} {t : TypeId} (h : Blk w g old t) {n : Nat} (hn : n ≤ old.length) : w.there g 0 n := fun j hj => by
  rw [Nat.zero_add]
  exact ⟨by rw [h.cell (u := old[j]'(by omega)) (List.getElem?_eq_getElem (by omega))]; rfl, h.frozen j⟩
theorem wpl_loadP {ops : Array Oper} {rest : List Oper} {o : Oper} {a : Act} {Q : Exit → Act → World → Prop} (hgd : o.guard = none) (ty : TypeId) (x : Operand) (ho : o.op = .load ty x)
    (g : Nat) (hx : a.eval x = .pointer (some ⟨g, 0, none⟩)) (t : TypeId) (cs more : List Value) (hk : Blk w g (cs ++ more) t) (d : TypeDesc)
    (hu : P.underlying ty = some d) (hd : d.isRow = true) (hi : (P.info? ty).map (·.size) = some cs.length)
    (h : wpList P ops Q rest (a.put o.dst (.agg cs.toArray)) w) : wpList P ops Q (o :: rest) a w :=
  wpList_load_mid hgd ty x ho g 0 hx cs d (blk_range hk) hu hd hi h
theorem wpl_storeP {ops : Array Oper} {rest : List Oper} {o : Oper} {a : Act} {Q : Exit → Act → World → Prop} (hgd : o.guard = none) (ty : TypeId) (x y : Operand) (ho : o.op = .store ty x y)
    (g : Nat) (cells : List Value) (hx : a.eval x = .pointer (some ⟨g, 0, none⟩)) (hy : a.eval y = .agg cells.toArray)
    (t : TypeId) (old more : List Value) (hk : Blk w g (old ++ more) t) (hold : old.length = cells.length) (hi : (P.info? ty).map (·.size) = some cells.length) (h1 : cells.all (·.oneCell') = true)
    (h : ∀ w', Blk w' g (cells ++ more) t → Upd (fun k => k = g) w w' → wpList P ops Q rest (a.put o.dst undef) w') : wpList P ops Q (o :: rest) a w := by
  have hb := setCells_set g cells 0 w (old ++ more) t hk (by rw [List.length_append]; omega)
  have e : (old ++ more).take 0 ++ cells ++ (old ++ more).drop (0 + cells.length) = cells ++ more := by
    rw [Nat.zero_add, ← hold, List.drop_left]; rfl
  rw [e] at hb
  refine wpList_store_mid hgd ty x y ho g 0 cells.toArray hx hy (blk_there hk (by rw [List.length_append]; simp; omega)) (by simpa using hi) (by simpa using h1) ?_
  exact h _ hb (setCells_upd g cells 0 w)
theorem step_loadP {ops : Array Oper} {o : Oper} {a : Act} {K : Act → World → Prop} {Q : Exit → Act → World → Prop} {F : Prop} (hgd : o.guard = none) (ty : TypeId) (x : Operand) (ho : o.op = .load ty x)
    (g : Nat) (hx : a.eval x = .pointer (some ⟨g, 0, none⟩)) (t : TypeId) (cs more : List Value) (hk : Blk w g (cs ++ more) t) (d : TypeDesc)
    (hu : P.underlying ty = some d) (hd : d.isRow = true) (hi : (P.info? ty).map (·.size) = some cs.length)
    (h : K (a.put o.dst (.agg cs.toArray)) w) : if Region.wanted o (yielded ops a.tmps) = true then Oper.wp P o a w K Q else F := by
  rw [if_pos (by simp [Region.wanted, hgd])]
  exact wp_load_mid ty x ho g 0 hx cs d (blk_range hk) hu hd hi h
theorem step_storeP {ops : Array Oper} {o : Oper} {a : Act} {K : Act → World → Prop} {Q : Exit → Act → World → Prop} {F : Prop} (hgd : o.guard = none) (ty : TypeId) (x y : Operand) (ho : o.op = .store ty x y)
    (g : Nat) (cells : List Value) (hx : a.eval x = .pointer (some ⟨g, 0, none⟩)) (hy : a.eval y = .agg cells.toArray)
    (t : TypeId) (old more : List Value) (hk : Blk w g (old ++ more) t) (hold : old.length = cells.length) (hi : (P.info? ty).map (·.size) = some cells.length) (h1 : cells.all (·.oneCell') = true)
    (h : ∀ w', Blk w' g (cells ++ more) t → Upd (fun k => k = g) w w' → K (a.put o.dst undef) w') : if Region.wanted o (yielded ops a.tmps) = true then Oper.wp P o a w K Q else F := by
  have hb := setCells_set g cells 0 w (old ++ more) t hk (by rw [List.length_append]; omega)
  have e : (old ++ more).take 0 ++ cells ++ (old ++ more).drop (0 + cells.length) = cells ++ more := by
    rw [Nat.zero_add, ← hold, List.drop_left]; rfl
  rw [e] at hb
  rw [if_pos (by simp [Region.wanted, hgd])]
  refine wp_store_mid ty x y ho g 0 cells.toArray hx hy (blk_there hk (by rw [List.length_append]; simp; omega)) (by simpa using hi) (by simpa using h1) ?_
  exact h _ hb (setCells_upd g cells 0 w)
theorem step_storeB {ops : Array Oper} {o : Oper} {a : Act} {K : Act → World → Prop} {Q : Exit → Act → World → Prop} {F : Prop} (hgd : o.guard = none) (ty : TypeId) (x y : Operand) (ho : o.op = .store ty x y)
    (g : Nat) (cells : List Value) (hx : a.eval x = .pointer (some ⟨g, 0, none⟩)) (hy : a.eval y = .agg cells.toArray)
    (t : TypeId) (old : List Value) (hk : Blk w g old t) (hold : old.length = cells.length) (hi : (P.info? ty).map (·.size) = some cells.length) (h1 : cells.all (·.oneCell') = true)
    (h : ∀ w', Blk w' g cells t → Upd (fun k => k = g) w w' → K (a.put o.dst undef) w') : if Region.wanted o (yielded ops a.tmps) = true then Oper.wp P o a w K Q else F :=
  step_storeP hgd ty x y ho g cells hx hy t old [] (by rw [List.append_nil]; exact hk) hold hi h1 fun w' h2 h3 => h w' (by rw [List.append_nil] at h2; exact h2) h3
end
end Go.Proofs.YtfkfpanhbanljaaGreat.Mem

/- The builtin clear at the end of a row of the call's own, over any program. -/
namespace Go.Proofs.YtfkfpanhbanljaaGreat.Mem
open Go.RowKit

theorem ownK_past {size : Nat} {w : World} {base : Nat} {e : TypeId} {r n c : Nat} {xs : List Value} (h : OwnK size w base e (.slice (some ⟨r, 0, none⟩) n c) n xs) {j : Nat} (hj : n * size ≤ j) (v : Value) : OwnK size (w.setCell ⟨r, j, none⟩ v) base e (.slice (some ⟨r, 0, none⟩) n c) n xs := by
  rcases h.2 with ⟨h0, _⟩ | ⟨g, cap, cur, hv, hbg, hg, hnc, hcm, hcs, htake⟩
  · cases h0
  · cases hv
    have hk : Blk w r cur.toList e := by show w.heap[r]? = _; simpa using hg
    refine ⟨h.1, .inr ⟨r, c, (cur.toList.set j v).toArray, rfl, hbg, hk.set j v, hnc, hcm, by simpa using hcs, ?_⟩⟩
    rw [← htake]
    show ((cur.toList.set j v).toArray.toList).take _ = _
    simp only [List.take_set]
    rw [List.set_eq_of_length_le]
    rw [List.length_take]
    omega
theorem ownK_pasts {size : Nat} {base : Nat} {e : TypeId} {r n c : Nat} {xs : List Value} : ∀ (vs : List Value) (o : Nat) (w : World), OwnK size w base e (.slice (some ⟨r, 0, none⟩) n c) n xs → n * size ≤ o → OwnK size (w.setCells r o vs) base e (.slice (some ⟨r, 0, none⟩) n c) n xs
  | [], _, _, h, _ => h
  | v :: vs, o, w, h, ho => by
    rw [World.setCells]
    exact ownK_pasts vs (o + 1) _ (ownK_past h ho v) (by omega)
theorem ownK_there {size : Nat} {w : World} {base : Nat} {e : TypeId} {r n c : Nat} {xs : List Value} (h : OwnK size w base e (.slice (some ⟨r, 0, none⟩) n c) n xs) {j : Nat} (hj : j < c * size) : (w.cell? ⟨r, j, none⟩).isSome = true := by
  rcases h.2 with ⟨h0, _⟩ | ⟨g, cap, cur, hv, hbg, hg, hnc, hcm, hcs, htake⟩
  · cases h0
  · cases hv
    have hk : Blk w r cur.toList e := by show w.heap[r]? = _; simpa using hg
    have hj2 : j < cur.toList.length := by simp [hcs]; exact hj
    rw [hk.cell (List.getElem?_eq_getElem hj2)]
    rfl
theorem ownK_cut {size : Nat} {w : World} {base : Nat} {e : TypeId} {r n c i : Nat} {xs : List Value} (h : OwnK size w base e (.slice (some ⟨r, 0, none⟩) n c) n xs) (hi : i ≤ n) : OwnK size w base e (.slice (some ⟨r, 0, none⟩) i c) i (xs.take (i * size)) := by
  rcases h.2 with ⟨h0, _⟩ | ⟨g, cap, cur, hv, hbg, hg, hnc, hcm, hcs, htake⟩
  · cases h0
  · cases hv
    have hle : i * size ≤ n * size := Nat.mul_le_mul_right _ hi
    refine ⟨by rw [List.length_take, h.1]; omega, .inr ⟨r, c, cur, rfl, hbg, hg, by omega, hcm, hcs, ?_⟩⟩
    rw [← htake, List.take_take, Nat.min_eq_left hle]
section
variable {P : Program}
/-- clear of a slice of n elements -/
theorem run_clear_any (W : World) (t e ty : TypeId) (ht : P.underlying t = some (.slice e)) (v : Value) (hz : (zeroValue e).run P W = .ok v W) (h1 : ∀ u ∈ v.cells.toList, u.oneCell' = true) (b o n c : Nat) (hn : n ≠ 0)
    (hc : ∀ j, j < n * v.cells.size → (W.cell? ⟨b, o + j, none⟩).isSome = true) (hf : ∀ j, j < n * v.cells.size → W.frozen? ⟨b, o + j, none⟩ = false) :
    (Builtin.clear_ #[t] ty #[.slice (some ⟨b, o, none⟩) n c]).run P W = .ok (.tuple #[]) (W.setCells b o (Builtin.zeroCells v.cells n).toList) := by
  have hl : (Builtin.zeroCells v.cells n).toList.length = n * v.cells.size := by simp [Builtin.zeroCells]
  have hst := run_storeCells_cells (P := P) b o (Builtin.zeroCells v.cells n).toList 0 W (by rw [hl]; intro j hj; rw [Nat.add_zero]; exact hc j hj) (by rw [hl]; intro j hj; rw [Nat.add_zero]; exact hf j hj) (by
    intro u hu
    unfold Builtin.zeroCells at hu
    simp only [Array.toList_map, List.mem_map, Array.mem_toList_iff, Array.mem_range] at hu
    obtain ⟨k, hk, rfl⟩ := hu
    have hs : 0 < v.cells.size := by
      rcases Nat.eq_zero_or_pos v.cells.size with e0 | e0
      · rw [e0] at hk; simp at hk
      · exact e0
    have hlt := Nat.mod_lt k hs
    rw [getElem!_pos v.cells (k % v.cells.size) hlt]
    exact h1 _ (by simp))
  rw [Nat.add_zero] at hst
  have hn' : n = (n - 1) + 1 := by omega
  rw [hn'] at hst ⊢
  simp [Builtin.clear_, run_underlying ht, hz, hst]
end
/-- a row of elements of one's own is cleared from element i on, and cut there -/
theorem Elem.Own.cleared {α : Type} {E : Elem α} {P : Program} {w : World} {base : Nat} {e : TypeId} {r n c : Nat} {l : List α} (h : E.Own w base e (.slice (some ⟨r, 0, none⟩) n c) l) {i : Nat} (hi : i < n)
    (t : TypeId) (ht : P.underlying t = some (.slice e)) (v : Value) (hz : (zeroValue e).run P w = .ok v w) (h1 : ∀ u ∈ v.cells.toList, u.oneCell' = true) (hk : v.cells.size = E.k) (c' : Nat) :
    (∀ ty, (Builtin.clear_ #[t] ty #[.slice (some ⟨r, i * E.k, none⟩) (n - i) c']).run P w = .ok (.tuple #[]) (w.setCells r (i * E.k) (Builtin.zeroCells v.cells (n - i)).toList)) ∧
    E.Own (w.setCells r (i * E.k) (Builtin.zeroCells v.cells (n - i)).toList) base e (.slice (some ⟨r, 0, none⟩) i c) (l.take i) ∧ Upd (fun k => k = r) w (w.setCells r (i * E.k) (Builtin.zeroCells v.cells (n - i)).toList) := by
  have hn : n = l.length := h.len
  subst hn
  have hcap := h.cap
  have h0 : OwnK E.k w base e (.slice (some ⟨r, 0, none⟩) l.length c) l.length (E.cells l) := h
  have hle : i * E.k + (l.length - i) * E.k = l.length * E.k := by rw [← Nat.add_mul]; congr 1; omega
  have hcc : l.length * E.k ≤ c * E.k := Nat.mul_le_mul_right _ hcap
  refine ⟨fun ty => run_clear_any w t e ty ht v hz h1 r (i * E.k) (l.length - i) c' (by omega) (fun j hj => ownK_there h0 (by rw [hk] at hj; omega)) (fun j _ => World.ownsRow.frozenAt h0 _), ?_, setCells_upd r _ _ w⟩
  have h2 := ownK_cut (i := i) h0 (by omega)
  rw [E.cells_take] at h2
  have h3 := ownK_pasts (Builtin.zeroCells v.cells (l.length - i)).toList (i * E.k) w h2 (Nat.le_refl _)
  have hl : (l.take i).length = i := by rw [List.length_take]; omega
  unfold Elem.Own
  rw [hl]
  exact h3
end Go.Proofs.YtfkfpanhbanljaaGreat.Mem
