/- Words for the first cells of a block, over any program: a struct at the head of a greater one is loaded and stored as one step. -/
import Derived.Test.YtnmcclkpgbdenaaBlkOps
import Derived.Deep.MidRow
namespace Go.Proofs.Ytnmcclkpgbdenaa.Mem
open Go.RowKit

theorem setCells_set (b : Nat) : ∀ (vs : List Value) (o : Nat) (w : World) (old : List Value) (t : TypeId), Blk w b old t → o + vs.length ≤ old.length → Blk (w.setCells b o vs) b (old.take o ++ vs ++ old.drop (o + vs.length)) t
  | [], o, w, old, t, h, ho => by simpa [World.setCells] using h
  | v :: r, o, w, old, t, h, ho => by
    simp only [List.length_cons] at ho
    have h1 := setCells_set b r (o + 1) (w.setCell ⟨b, o, none⟩ v) (old.set o v) t (h.set o v) (by rw [List.length_set]; omega)
    rw [World.setCells]
    have e : (old.set o v).take (o + 1) ++ r ++ (old.set o v).drop (o + 1 + r.length) = old.take o ++ v :: r ++ old.drop (o + (v :: r).length) := by
      have e1 : (old.set o v).take (o + 1) = old.take o ++ [v] := by
        rw [List.take_succ_eq_append_getElem (by rw [List.length_set]; omega), List.take_set_of_le (Nat.le_refl o)]
        simp
      have e2 : (old.set o v).drop (o + 1 + r.length) = old.drop (o + (v :: r).length) := by
        rw [List.drop_set_of_lt (by omega), List.length_cons, Nat.add_assoc, Nat.add_comm 1]
      rw [e1, e2]; simp
    rw [e] at h1
    exact h1
theorem setCells_upd (b : Nat) : ∀ (vs : List Value) (o : Nat) (w : World), Upd (fun k => k = b) w (w.setCells b o vs)
  | [], _, w => Upd.refl _ w
  | v :: r, o, w => by
    rw [World.setCells]
    exact (Upd.setCell (S := fun k => k = b) (Upd.refl _ w) (p := ⟨b, o, none⟩) (.inl rfl) v).trans (setCells_upd b r (o + 1) _)
section
variable {P : Program} {w : World}
theorem blk_range {g : Nat} {cs more : List Value} {t : TypeId} (h : Blk w g (cs ++ more) t) : w.rangeAt g 0 cs := fun j v hv => by
  rw [Nat.zero_add]
  exact h.cell (by rw [List.getElem?_append_left (List.getElem?_eq_some_iff.1 hv).1]; exact hv)
theorem blk_there {g : Nat} {old : List Value} {t : TypeId} (h : Blk w g old t) {n : Nat} (hn : n ≤ old.length) : w.there g 0 n := fun j hj => by
  rw [Nat.zero_add]
  exact ⟨by rw [h.cell (u := old[j]'(by omega)) (List.getElem?_eq_getElem (by omega))]; rfl, h.frozen j⟩
theorem wpl_loadP {ops : Array Oper} {rest : List Oper} {o : Oper} {a : Act} {Q : Exit → Act → World → Prop} (hgd : o.guard = none) (ty : TypeId) (x : Operand) (ho : o.op = .load ty x)
    (g : Nat) (hx : a.eval x = .pointer (some ⟨g, 0, none⟩)) (t : TypeId) (cs more : List Value) (hk : Blk w g (cs ++ more) t) (d : TypeDesc)
    (hu : P.underlying ty = some d) (hd : d.isRow = true) (hi : (P.info? ty).map (·.size) = some cs.length)
    (h : wpList P ops Q rest (a.put o.dst (.agg cs.toArray)) w) : wpList P ops Q (o :: rest) a w :=
  wpList_load_mid hgd ty x ho g 0 hx cs d (blk_range hk) hu hd hi h
theorem wpl_storeP {ops : Array Oper} {rest : List Oper} {o : Oper} {a : Act} {Q : Exit → Act → World → Prop} (hgd : o.guard = none) (ty : TypeId) (x y : Operand) (ho : o.op = .store ty x y)
    (g : Nat) (cells : List Value) (hx : a.eval x = .pointer (some ⟨g, 0, none⟩)) (hy : a.eval y = .agg cells.toArray)
    (t : TypeId) (old more : List Value) (hk : Blk w g (old ++ more) t) (hold : old.length = cells.length) (hi : (P.info? ty).map (·.size) = some cells.length) (h1 : cells.all (·.oneCell') = true)
    (h : ∀ w', Blk w' g (cells ++ more) t → Upd (fun k => k = g) w w' → wpList P ops Q rest (a.put o.dst undef) w') : wpList P ops Q (o :: rest) a w := by
  have hb := setCells_set g cells 0 w (old ++ more) t hk (by rw [List.length_append]; omega)
  have e : (old ++ more).take 0 ++ cells ++ (old ++ more).drop (0 + cells.length) = cells ++ more := by
    rw [Nat.zero_add, ← hold, List.drop_left]; rfl
  rw [e] at hb
  refine wpList_store_mid hgd ty x y ho g 0 cells.toArray hx hy (blk_there hk (by rw [List.length_append]; simp; omega)) (by simpa using hi) (by simpa using h1) ?_
  exact h _ hb (setCells_upd g cells 0 w)
theorem step_loadP {ops : Array Oper} {o : Oper} {a : Act} {K : Act → World → Prop} {Q : Exit → Act → World → Prop} {F : Prop} (hgd : o.guard = none) (ty : TypeId) (x : Operand) (ho : o.op = .load ty x)
    (g : Nat) (hx : a.eval x = .pointer (some ⟨g, 0, none⟩)) (t : TypeId) (cs more : List Value) (hk : Blk w g (cs ++ more) t) (d : TypeDesc)
    (hu : P.underlying ty = some d) (hd : d.isRow = true) (hi : (P.info? ty).map (·.size) = some cs.length)
    (h : K (a.put o.dst (.agg cs.toArray)) w) : if Region.wanted o (yielded ops a.tmps) = true then Oper.wp P o a w K Q else F := by
  rw [if_pos (by simp [Region.wanted, hgd])]
  exact wp_load_mid ty x ho g 0 hx cs d (blk_range hk) hu hd hi h
theorem step_storeP {ops : Array Oper} {o : Oper} {a : Act} {K : Act → World → Prop} {Q : Exit → Act → World → Prop} {F : Prop} (hgd : o.guard = none) (ty : TypeId) (x y : Operand) (ho : o.op = .store ty x y)
    (g : Nat) (cells : List Value) (hx : a.eval x = .pointer (some ⟨g, 0, none⟩)) (hy : a.eval y = .agg cells.toArray)
    (t : TypeId) (old more : List Value) (hk : Blk w g (old ++ more) t) (hold : old.length = cells.length) (hi : (P.info? ty).map (·.size) = some cells.length) (h1 : cells.all (·.oneCell') = true)
    (h : ∀ w', Blk w' g (cells ++ more) t → Upd (fun k => k = g) w w' → K (a.put o.dst undef) w') : if Region.wanted o (yielded ops a.tmps) = true then Oper.wp P o a w K Q else F := by
  have hb := setCells_set g cells 0 w (old ++ more) t hk (by rw [List.length_append]; omega)
  have e : (old ++ more).take 0 ++ cells ++ (old ++ more).drop (0 + cells.length) = cells ++ more := by
    rw [Nat.zero_add, ← hold, List.drop_left]; rfl
  rw [e] at hb
  rw [if_pos (by simp [Region.wanted, hgd])]
  refine wp_store_mid ty x y ho g 0 cells.toArray hx hy (blk_there hk (by rw [List.length_append]; simp; omega)) (by simpa using hi) (by simpa using h1) ?_
  exact h _ hb (setCells_upd g cells 0 w)
theorem step_storeB {ops : Array Oper} {o : Oper} {a : Act} {K : Act → World → Prop} {Q : Exit → Act → World → Prop} {F : Prop} (hgd : o.guard = none) (ty : TypeId) (x y : Operand) (ho : o.op = .store ty x y)
    (g : Nat) (cells : List Value) (hx : a.eval x = .pointer (some ⟨g, 0, none⟩)) (hy : a.eval y = .agg cells.toArray)
    (t : TypeId) (old : List Value) (hk : Blk w g old t) (hold : old.length = cells.length) (hi : (P.info? ty).map (·.size) = some cells.length) (h1 : cells.all (·.oneCell') = true)
    (h : ∀ w', Blk w' g cells t → Upd (fun k => k = g) w w' → K (a.put o.dst undef) w') : if Region.wanted o (yielded ops a.tmps) = true then Oper.wp P o a w K Q else F :=
  step_storeP hgd ty x y ho g cells hx hy t old [] (by rw [List.append_nil]; exact hk) hold hi h1 fun w' h2 h3 => h w' (by rw [List.append_nil] at h2; exact h2) h3
end
end Go.Proofs.Ytnmcclkpgbdenaa.Mem
