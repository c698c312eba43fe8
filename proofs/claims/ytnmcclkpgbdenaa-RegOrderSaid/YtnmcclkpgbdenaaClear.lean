/- The builtin clear at the end of a row of the call's own, over any program. -/
import Derived.Test.YtnmcclkpgbdenaaBlkPart
import Derived.Test.YtnmcclkpgbdenaaMemK
namespace Go.Proofs.Ytnmcclkpgbdenaa.Mem
open Go.RowKit

theorem ownK_past {size : Nat} {w : World} {base : Nat} {e : TypeId} {r n c : Nat} {xs : List Value} (h : OwnK size w base e (.slice (some ⟨r, 0, none⟩) n c) n xs) {j : Nat} (hj : n * size ≤ j) (v : Value) : OwnK size (w.setCell ⟨r, j, none⟩ v) base e (.slice (some ⟨r, 0, none⟩) n c) n xs := by
  rcases h.2 with ⟨h0, _⟩ | ⟨g, cap, cur, hv, hbg, hg, hnc, hcm, hcs, htake⟩
  · cases h0
  · cases hv
    have hk : Blk w r cur.toList e := by show w.heap[r]? = _; simpa using hg
    refine ⟨h.1, .inr ⟨r, c, (cur.toList.set j v).toArray, rfl, hbg, hk.set j v, hnc, hcm, by simpa using hcs, ?_⟩⟩
    rw [← htake]
    show ((cur.toList.set j v).toArray.toList).take _ = _
    simp only [List.take_set]
    rw [List.set_eq_of_length_le]
    rw [List.length_take]
    omega
theorem ownK_pasts {size : Nat} {base : Nat} {e : TypeId} {r n c : Nat} {xs : List Value} : ∀ (vs : List Value) (o : Nat) (w : World), OwnK size w base e (.slice (some ⟨r, 0, none⟩) n c) n xs → n * size ≤ o → OwnK size (w.setCells r o vs) base e (.slice (some ⟨r, 0, none⟩) n c) n xs
  | [], _, _, h, _ => h
  | v :: vs, o, w, h, ho => by
    rw [World.setCells]
    exact ownK_pasts vs (o + 1) _ (ownK_past h ho v) (by omega)
theorem ownK_there {size : Nat} {w : World} {base : Nat} {e : TypeId} {r n c : Nat} {xs : List Value} (h : OwnK size w base e (.slice (some ⟨r, 0, none⟩) n c) n xs) {j : Nat} (hj : j < c * size) : (w.cell? ⟨r, j, none⟩).isSome = true := by
  rcases h.2 with ⟨h0, _⟩ | ⟨g, cap, cur, hv, hbg, hg, hnc, hcm, hcs, htake⟩
  · cases h0
  · cases hv
    have hk : Blk w r cur.toList e := by show w.heap[r]? = _; simpa using hg
    have hj2 : j < cur.toList.length := by simp [hcs]; exact hj
    rw [hk.cell (List.getElem?_eq_getElem hj2)]
    rfl
theorem ownK_cut {size : Nat} {w : World} {base : Nat} {e : TypeId} {r n c i : Nat} {xs : List Value} (h : OwnK size w base e (.slice (some ⟨r, 0, none⟩) n c) n xs) (hi : i ≤ n) : OwnK size w base e (.slice (some ⟨r, 0, none⟩) i c) i (xs.take (i * size)) := by
  rcases h.2 with ⟨h0, _⟩ | ⟨g, cap, cur, hv, hbg, hg, hnc, hcm, hcs, htake⟩
  · cases h0
  · cases hv
    have hle : i * size ≤ n * size := Nat.mul_le_mul_right _ hi
    refine ⟨by rw [List.length_take, h.1]; omega, .inr ⟨r, c, cur, rfl, hbg, hg, by omega, hcm, hcs, ?_⟩⟩
    rw [← htake, List.take_take, Nat.min_eq_left hle]
section
variable {P : Program}
/-- clear of a slice of n elements -/
theorem run_clear_any (W : World) (t e ty : TypeId) (ht : P.underlying t = some (.slice e)) (v : Value) (hz : (zeroValue e).run P W = .ok v W) (h1 : ∀ u ∈ v.cells.toList, u.oneCell' = true) (b o n c : Nat) (hn : n ≠ 0)
    (hc : ∀ j, j < n * v.cells.size → (W.cell? ⟨b, o + j, none⟩).isSome = true) (hf : ∀ j, j < n * v.cells.size → W.frozen? ⟨b, o + j, none⟩ = false) :
    (Builtin.clear_ #[t] ty #[.slice (some ⟨b, o, none⟩) n c]).run P W = .ok (.tuple #[]) (W.setCells b o (Builtin.zeroCells v.cells n).toList) := by
  have hl : (Builtin.zeroCells v.cells n).toList.length = n * v.cells.size := by simp [Builtin.zeroCells]
  have hst := run_storeCells_cells (P := P) b o (Builtin.zeroCells v.cells n).toList 0 W (by rw [hl]; intro j hj; rw [Nat.add_zero]; exact hc j hj) (by rw [hl]; intro j hj; rw [Nat.add_zero]; exact hf j hj) (by
    intro u hu
    unfold Builtin.zeroCells at hu
    simp only [Array.toList_map, List.mem_map, Array.mem_toList_iff, Array.mem_range] at hu
    obtain ⟨k, hk, rfl⟩ := hu
    have hs : 0 < v.cells.size := by
      rcases Nat.eq_zero_or_pos v.cells.size with e0 | e0
      · rw [e0] at hk; simp at hk
      · exact e0
    have hlt := Nat.mod_lt k hs
    rw [getElem!_pos v.cells (k % v.cells.size) hlt]
    exact h1 _ (by simp))
  rw [Nat.add_zero] at hst
  have hn' : n = (n - 1) + 1 := by omega
  rw [hn'] at hst ⊢
  simp [Builtin.clear_, run_underlying ht, hz, hst]
end
/-- a row of elements of one's own is cleared from element i on, and cut there -/
theorem Elem.Own.cleared {α : Type} {E : Elem α} {P : Program} {w : World} {base : Nat} {e : TypeId} {r n c : Nat} {l : List α} (h : E.Own w base e (.slice (some ⟨r, 0, none⟩) n c) l) {i : Nat} (hi : i < n)
    (t : TypeId) (ht : P.underlying t = some (.slice e)) (v : Value) (hz : (zeroValue e).run P w = .ok v w) (h1 : ∀ u ∈ v.cells.toList, u.oneCell' = true) (hk : v.cells.size = E.k) (c' : Nat) :
    (∀ ty, (Builtin.clear_ #[t] ty #[.slice (some ⟨r, i * E.k, none⟩) (n - i) c']).run P w = .ok (.tuple #[]) (w.setCells r (i * E.k) (Builtin.zeroCells v.cells (n - i)).toList)) ∧
    E.Own (w.setCells r (i * E.k) (Builtin.zeroCells v.cells (n - i)).toList) base e (.slice (some ⟨r, 0, none⟩) i c) (l.take i) ∧ Upd (fun k => k = r) w (w.setCells r (i * E.k) (Builtin.zeroCells v.cells (n - i)).toList) := by
  have hn : n = l.length := h.len
  subst hn
  have hcap := h.cap
  have h0 : OwnK E.k w base e (.slice (some ⟨r, 0, none⟩) l.length c) l.length (E.cells l) := h
  have hle : i * E.k + (l.length - i) * E.k = l.length * E.k := by rw [← Nat.add_mul]; congr 1; omega
  have hcc : l.length * E.k ≤ c * E.k := Nat.mul_le_mul_right _ hcap
  refine ⟨fun ty => run_clear_any w t e ty ht v hz h1 r (i * E.k) (l.length - i) c' (by omega) (fun j hj => ownK_there h0 (by rw [hk] at hj; omega)) (fun j _ => World.ownsRow.frozenAt h0 _), ?_, setCells_upd r _ _ w⟩
  have h2 := ownK_cut (i := i) h0 (by omega)
  rw [E.cells_take] at h2
  have h3 := ownK_pasts (Builtin.zeroCells v.cells (l.length - i)).toList (i * E.k) w h2 (Nat.le_refl _)
  have hl : (l.take i).length = i := by rw [List.length_take]; omega
  unfold Elem.Own
  rw [hl]
  exact h3
end Go.Proofs.Ytnmcclkpgbdenaa.Mem
