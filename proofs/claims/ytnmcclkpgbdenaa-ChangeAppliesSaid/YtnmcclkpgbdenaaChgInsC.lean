/- Layer 50 (change): slices.Insert of one card in its midst. (printed by tools/genins.py) -/
import Derived.Test.YtnmcclkpgbdenaaSet21
import Derived.Deep.RegionLaw
namespace Go.Proofs.Ytnmcclkpgbdenaa.Chg
open Go.RowKit Go.Proofs.Ytnmcclkpgbdenaa.Mem Go.Proofs.Ytnmcclkpgbdenaa.Card

set_option maxRecDepth 100000 in
set_option maxHeartbeats 4000000 in
theorem insc_room (base r n c i vb : Nat) (xs : List CardM) (x : CardM) (tv : TypeId) (w : World) (hN : xs.length = n) (h : cardE.Own w base 38 (.slice (some ⟨r, 0, none⟩) n c) xs) (hk : Blk w vb (cardE.g x) tv) (hvb : vb ≠ r) (hi : i < n) (hroom : n + 1 ≤ c) (hn : n ≤ 1000000) :
    Calls Try.prog 82 #[.slice (some ⟨r, 0, none⟩) n c, .int .i64 (i : Int), .slice (some ⟨vb, 0, none⟩) 1 1] w fun e w' =>
      e = .returned (.slice (some ⟨r, 0, none⟩) (n + 1) c) ∧ cardE.Own w' base 38 (.slice (some ⟨r, 0, none⟩) (n + 1) c) (xs.take i ++ x :: xs.drop i) ∧ Upd (fun k => k = r) w w' := by
  have hown : OwnK 2 w base 38 (.slice (some ⟨r, 0, none⟩) n c) n (cardE.cells xs) := by
    have : OwnK cardE.k w base 38 (.slice (some ⟨r, 0, none⟩) n c) xs.length (cardE.cells xs) := h
    rwa [hN] at this
  obtain ⟨cs, kr, hcl, htk, hnc, hcm, hbr⟩ := hown.blk
  have hxl : (cardE.cells xs).length = n * 2 := by rw [cardE.cells_length, hN]; rfl
  have hvl : (cardE.g x).length = 2 := cardE.len x
  have hvk : kr = kr := rfl
  have hc63 : c ≤ 9223372036854775807 := hcm
  have hdl : ((cardE.cells xs).drop (i * 2)).length = (n - i) * 2 := by rw [List.length_drop, hxl, Nat.sub_mul]
  have hcp1 : ∀ ty dc sc, (Builtin.copy_ #[22, 22] ty #[.slice (some ⟨r, (i + 1) * 2, none⟩) (n - i) dc, .slice (some ⟨r, i * 2, none⟩) (n + 1 - i) sc]).run Try.prog w.drew = .ok (goInt ((n - i : Nat) : Int)) (w.drew.setCells r ((i + 1) * 2) ((cardE.cells xs).drop (i * 2))) := fun ty dc sc => by
    have hm : Nat.min (n + 1 - i) (n - i) = n - i := by simp only [Nat.min_def]; split <;> omega
    have h0 := run_copy_k (P := Try.prog) w.drew 22 22 ty 38 2 r ((i + 1) * 2) (n - i) dc ⟨r, i * 2, none⟩ (n + 1 - i) sc ((cardE.cells xs).drop (i * 2)) Try.underlying22 (by kernel_rfl) (by rw [hdl, hm])
      (fun j v hj => by
        rw [add_plain]
        have hj2 : cs[i * 2 + j]? = some v := by
          rw [List.getElem?_drop, ← htk, List.getElem?_take] at hj
          split at hj
          · exact hj
          · cases hj
        exact kr.cell hj2)
      (fun j hj => kr.some (by rw [hdl] at hj; rw [hcl]; omega)) (fun j _ => kr.frozen _) (fun v hv => cardE.cells_one xs v (List.mem_of_mem_drop hv))
    rw [hm] at h0
    exact h0
  have k1 := (kr.drew).cells (o := (i + 1) * 2) ((cardE.cells xs).drop (i * 2)) (by rw [hdl, hcl]; omega)
  have hkv : Blk (w.drew.setCells r ((i + 1) * 2) ((cardE.cells xs).drop (i * 2))) vb (cardE.g x) tv := blk_other (o := 0) hk.drew (fun e => hvb e.symm) _ _ _ hk.drew
  have hcp2 : ∀ ty dc, (Builtin.copy_ #[22, 22] ty #[.slice (some ⟨r, i * 2, none⟩) (n + 1 - i) dc, .slice (some ⟨vb, 0, none⟩) 1 1]).run Try.prog (w.drew.setCells r ((i + 1) * 2) ((cardE.cells xs).drop (i * 2))) = .ok (goInt ((1 : Nat) : Int)) ((w.drew.setCells r ((i + 1) * 2) ((cardE.cells xs).drop (i * 2))).setCells r (i * 2) (cardE.g x)) := fun ty dc => by
    have hm : Nat.min 1 (n + 1 - i) = 1 := by simp only [Nat.min_def]; split <;> omega
    have h0 := run_copy_k (P := Try.prog) (w.drew.setCells r ((i + 1) * 2) ((cardE.cells xs).drop (i * 2))) 22 22 ty 38 2 r (i * 2) (n + 1 - i) dc ⟨vb, 0, none⟩ 1 1 (cardE.g x) Try.underlying22 (by kernel_rfl) (by rw [hvl, hm])
      (fun j v hj => by rw [add_plain, Nat.zero_add]; exact hkv.cell hj)
      (fun j hj => k1.some (by simp only [List.length_append, List.length_take, List.length_drop, hcl, hdl]; rw [hvl] at hj; rw [Nat.sub_mul]; omega)) (fun j _ => k1.frozen _) (cardE.one x)
    rw [hm] at h0
    exact h0
  have hov : ∀ lb cb, (callFunc 107 #[.slice (some ⟨vb, 0, none⟩) 1 1, .slice (some ⟨r, (i + 1) * 2, none⟩) lb cb]).run Try.prog w = .ok (.value (.bool false)) w := fun lb cb => by
    rw [run_callFunc_extern Try.func107 (by kernel_rfl) (by kernel_rfl) (by kernel_rfl) (e := Extern.SlicesOverlaps.overlaps #[22, 22] #[4]) (by kernel_rfl),
      Lib.run_overlaps_apart w 22 4 38 Try.underlying22 2 (fun _ => by kernel_rfl) ⟨vb, 0, none⟩ ⟨r, (i + 1) * 2, none⟩ 1 1 lb cb hvb tv 38 _ _ hk.shape kr.shape (by rw [hcl]; omega) (hk.frozen _) (hk.frozen _)]
    rfl
  have hfin := ownK_insert (size := 2) (w := w.drew) (i := i) (vs := cardE.g x) hown hroom (by omega) hvl
  have hcells : (cardE.cells xs).take (i * 2) ++ cardE.g x ++ (cardE.cells xs).drop (i * 2) = cardE.cells (xs.take i ++ x :: xs.drop i) := by
    rw [cardE.cells_append, show x :: xs.drop i = [x] ++ xs.drop i from rfl, cardE.cells_append, ← List.append_assoc]
    have e1 : cardE.cells (xs.take i) = (cardE.cells xs).take (i * 2) := (cardE.cells_take xs i).symm
    have e2 : cardE.cells (xs.drop i) = (cardE.cells xs).drop (i * 2) := (cardE.cells_drop xs i).symm
    have e3 : cardE.cells [x] = cardE.g x := by unfold Elem.cells; rw [List.flatMap_singleton]
    rw [e1, e2, e3]
  have hln : (xs.take i ++ x :: xs.drop i).length = n + 1 := by simp only [List.length_append, List.length_take, List.length_cons, List.length_drop, hN]; omega
  rw [hcells] at hfin
  have HFIN : Kept (cardE.Own ((w.drew.setCells r ((i + 1) * 2) ((cardE.cells xs).drop (i * 2))).setCells r (i * 2) (cardE.g x)) base 38 (.slice (some ⟨r, 0, none⟩) (n + 1) c) (xs.take i ++ x :: xs.drop i) ∧ Upd (fun k => k = r) w ((w.drew.setCells r ((i + 1) * 2) ((cardE.cells xs).drop (i * 2))).setCells r (i * 2) (cardE.g x))) := by
    refine ⟨?_, Upd.setCells (S := fun k => k = r) (.inl rfl) _ _ _ (Upd.setCells (S := fun k => k = r) (.inl rfl) _ _ _ (Upd.refl _ w).drew)⟩
    show OwnK 2 _ base 38 _ (xs.take i ++ x :: xs.drop i).length _
    rw [hln]
    exact hfin
  clear hfin hcells hln k1 hkv kr h hown hk hdl hxl hvl htk hcl hvk hN
  generalize (cardE.cells xs).drop (i * 2) = D at *
  generalize cardE.g x = V at *
  have hw1 : IntKind.i64.wrap ((i : Int) + 1) = (i : Int) + 1 := by rw [IntKind.wrap_i64]; omega
  have hz2 : ¬ ((i : Int) = (n : Int)) := by omega
  have hz3 : ¬ ((c : Int) < (n : Int) + 1) := by omega
  have hb1 : (0 : Int) ≤ (i : Int) + 1 := by omega
  have hin : i ≤ n := by omega
  have htn : ((i : Int) + 1).toNat = i + 1 := by omega
  have hb2 : ¬ (c = i + 1) := by omega
  have hb3 : (i : Int) ≤ (n : Int) + 1 := by omega
  have hb4 : ¬ (c = i) := by omega
  have hb5 : i + 1 ≤ n + 1 := by omega
  have hb6 : i ≤ n + 1 := by omega
  have hb7 : (i : Int) + 1 ≤ (n : Int) + 1 := by omega
  have hb8 : (n : Int) + 1 ≤ (c : Int) := by omega
  have hb9 : (0 : Int) ≤ (n : Int) + 1 := by omega
  have hb10 : ((n : Int) + 1).toNat = n + 1 := by omega
  go_enter Try.func82, Try.ntmps82
  go_wp2_with (simp only [hov])
  go_region_law (refine step_copyI rfl _ _ 22 22 rfl _ _ (by simp [Act.eval, Act.put]) (by simp [Act.eval, Act.put]) (hcp1 _ _ _) ?_)
  go_wp2_with (at_builtin; refine wpl_copyI _ rfl _ _ 22 22 rfl _ _ rfl rfl (hcp2 _ _) ?_)
  go_ret
  exact ⟨rfl, HFIN.out.1, HFIN.out.2⟩
set_option maxRecDepth 100000 in
set_option maxHeartbeats 4000000 in
theorem insc_grow (base r n c i vb : Nat) (xs : List CardM) (x : CardM) (tv : TypeId) (w : World) (hN : xs.length = n) (h : cardE.Own w base 38 (.slice (some ⟨r, 0, none⟩) n c) xs) (hk : Blk w vb (cardE.g x) tv) (hi : i < n) (hroom : c < n + 1) (hn : n ≤ 1000000) (hbs : base ≤ w.heap.size) :
    Calls Try.prog 82 #[.slice (some ⟨r, 0, none⟩) n c, .int .i64 (i : Int), .slice (some ⟨vb, 0, none⟩) 1 1] w fun e w' =>
      ∃ G, e = .returned (.slice (some ⟨w.heap.size, 0, none⟩) (n + 1) G) ∧ cardE.Own w' base 38 (.slice (some ⟨w.heap.size, 0, none⟩) (n + 1) G) (xs.take i ++ x :: xs.drop i) ∧ Upd (fun k => k = r) w w' := by
  have hown : OwnK 2 w base 38 (.slice (some ⟨r, 0, none⟩) n c) n (cardE.cells xs) := by
    have : OwnK cardE.k w base 38 (.slice (some ⟨r, 0, none⟩) n c) xs.length (cardE.cells xs) := h
    rwa [hN] at this
  obtain ⟨cs, kr, hcl, htk, hnc, hcm, hbr⟩ := hown.blk
  obtain ⟨i0, hi0, hz0, hzs, hzb⟩ := info_parts card_info
  have hxl : (cardE.cells xs).length = n * 2 := by rw [cardE.cells_length, hN]; rfl
  have hvl : (cardE.g x).length = 2 := cardE.len x
  have hdl : ((cardE.cells xs).drop (i * 2)).length = (n - i) * 2 := by rw [List.length_drop, hxl, Nat.sub_mul]
  have htl : ((cardE.cells xs).take (i * 2)).length = i * 2 := by rw [List.length_take, hxl]; omega
  have hrw : r < w.heap.size := kr.lt
  have hvw : vb < w.heap.size := hk.lt
  have hget : ∀ (j : Nat) v, (cardE.cells xs)[j]? = some v → cs[j]? = some v := fun j v hj => by
    rw [← htk, List.getElem?_take] at hj
    split at hj
    · exact hj
    · cases hj
  have hold : (Builtin.firstCells i0.size i (.slice (some ⟨r, 0, none⟩) i c)).run Try.prog w.drew = .ok ((cardE.cells xs).take (i * 2)).toArray w.drew := by
    rw [hzs]
    exact run_firstCells_some w.drew 2 i ⟨r, 0, none⟩ i c ((cardE.cells xs).take (i * 2)) htl (fun j v hj => by
      rw [add_plain, Nat.zero_add]
      rw [List.getElem?_take] at hj
      split at hj
      · exact kr.cell (hget j v hj)
      · cases hj)
  have hkk : (n : Int) + 1 - (i : Int) = ((n + 1 - i : Nat) : Int) := by omega
  have hik : i + (n + 1 - i) = n + 1 := by omega
  obtain ⟨G, hG⟩ : ∃ G, G = grownCap w (n + 1) c 38 := ⟨_, rfl⟩
  obtain ⟨ROW, hROW⟩ : ∃ ROW : Array Value, ROW = ((cardE.cells xs).take (i * 2)).toArray ++ Builtin.zeroCells (Value.agg #[.int .u64 0, .slice none 0 0]).cells (n + 1 - i) ++ Builtin.zeroCells (Value.agg #[.int .u64 0, .slice none 0 0]).cells (G - (n + 1)) := ⟨_, rfl⟩
  have hrz : ∀ ty, (Builtin.append_ #[22, 3] ty #[.slice (some ⟨r, 0, none⟩) i c, .int .i64 ((n : Int) + 1 - (i : Int))]).run Try.prog w =
      .ok (.slice (some ⟨w.heap.size, 0, none⟩) (n + 1) G) (w.drew.alloc (.cells ROW 38)) := fun ty => by
    have h := Lib.run_append_grow_zeros w 22 3 ty 38 i0 _ .i64 .i64 Try.underlying22 Try.underlying3 hi0 hz0 (some ⟨r, 0, none⟩) i c ((cardE.cells xs).take (i * 2)) hold (n + 1 - i) (by omega) (by rw [hzs]; decide) (by omega) (by omega) (by rw [hzb]; omega) (by rw [hzb, hik]; exact growslice_fits hroom (by omega))
    rw [hik] at h
    rw [hkk, hROW, hG]
    exact h
  have hGn : n + 1 ≤ G := by rw [hG]; exact grownCap_ge w _ _ _
  have hG63 : G ≤ maxLen := by rw [hG]; exact grownCap_le_maxLen w (n + 1) c 38 (by unfold maxLen; omega)
  have hzc : (Value.agg #[.int .u64 0, .slice none 0 0]).cells.size = 2 := by kernel_rfl
  have hRl : ROW.toList.length = G * 2 := by
    rw [hROW]
    simp only [Array.length_toList, Array.size_append, size_zeroCells, hzc, List.size_toArray, htl]
    omega
  have hRt : ROW.toList.take (i * 2) = (cardE.cells xs).take (i * 2) := by
    rw [hROW]
    simp only [Array.toList_append, List.append_assoc]
    rw [List.take_append_of_le_length (by omega), List.take_of_length_le (by omega)]
  have kA : Blk (w.alloc (.cells ROW 38)) w.heap.size ROW.toList 38 := by
    have := Blk.new w ROW.toList 38
    simpa using this
  have kV : Blk (w.alloc (.cells ROW 38)) vb (cardE.g x) tv := hk.alloc _
  have kR : Blk (w.alloc (.cells ROW 38)) r cs 38 := kr.alloc _
  have hcells : (cardE.cells xs).take (i * 2) ++ cardE.g x ++ (cardE.cells xs).drop (i * 2) = cardE.cells (xs.take i ++ x :: xs.drop i) := by
    rw [cardE.cells_append, show x :: xs.drop i = [x] ++ xs.drop i from rfl, cardE.cells_append, ← List.append_assoc]
    have e1 : cardE.cells (xs.take i) = (cardE.cells xs).take (i * 2) := (cardE.cells_take xs i).symm
    have e2 : cardE.cells (xs.drop i) = (cardE.cells xs).drop (i * 2) := (cardE.cells_drop xs i).symm
    have e3 : cardE.cells [x] = cardE.g x := by unfold Elem.cells; rw [List.flatMap_singleton]
    rw [e1, e2, e3]
  have hln : (xs.take i ++ x :: xs.drop i).length = n + 1 := by simp only [List.length_append, List.length_take, List.length_cons, List.length_drop, hN]; omega
  obtain ⟨V, hV⟩ : ∃ V, V = cardE.g x := ⟨_, rfl⟩
  obtain ⟨D, hD⟩ : ∃ D, D = (cardE.cells xs).drop (i * 2) := ⟨_, rfl⟩
  have hcpA : ∀ W : World, Blk W w.heap.size ROW.toList 38 → Blk W vb (cardE.g x) tv → ∀ ty dc, (Builtin.copy_ #[22, 22] ty #[.slice (some ⟨w.heap.size, i * 2, none⟩) (n + 1 - i) dc, .slice (some ⟨vb, 0, none⟩) 1 1]).run Try.prog W = .ok (goInt ((1 : Nat) : Int)) (W.setCells w.heap.size (i * 2) V) := fun W b1 b2 ty dc => by
    have hm : Nat.min 1 (n + 1 - i) = 1 := by simp only [Nat.min_def]; split <;> omega
    have h0 := run_copy_k (P := Try.prog) W 22 22 ty 38 2 w.heap.size (i * 2) (n + 1 - i) dc ⟨vb, 0, none⟩ 1 1 (cardE.g x) Try.underlying22 (by kernel_rfl) (by rw [hvl, hm])
      (fun j v hj => by rw [add_plain, Nat.zero_add]; exact b2.cell hj)
      (fun j hj => b1.some (by rw [hRl]; rw [hvl] at hj; omega)) (fun j _ => b1.frozen _) (cardE.one x)
    rw [hm, ← hV] at h0
    exact h0
  have hcpB : ∀ (W : World) (L : List Value), Blk W w.heap.size L 38 → L.length = G * 2 → Blk W r cs 38 → ∀ ty dc sc, (Builtin.copy_ #[22, 22] ty #[.slice (some ⟨w.heap.size, (i + 1) * 2, none⟩) (n - i) dc, .slice (some ⟨r, i * 2, none⟩) (n - i) sc]).run Try.prog W = .ok (goInt ((n - i : Nat) : Int)) (W.setCells w.heap.size ((i + 1) * 2) D) := fun W L b1 hL b2 ty dc sc => by
    have hm : Nat.min (n - i) (n - i) = n - i := Nat.min_self _
    have h0 := run_copy_k (P := Try.prog) W 22 22 ty 38 2 w.heap.size ((i + 1) * 2) (n - i) dc ⟨r, i * 2, none⟩ (n - i) sc ((cardE.cells xs).drop (i * 2)) Try.underlying22 (by kernel_rfl) (by rw [hdl, hm])
      (fun j v hj => by rw [add_plain]; exact b2.cell (hget _ _ (by rwa [List.getElem?_drop] at hj)))
      (fun j hj => b1.some (by rw [hdl] at hj; rw [hL]; omega)) (fun j _ => b1.frozen _) (fun v hv => cardE.cells_one xs v (List.mem_of_mem_drop hv))
    rw [hm, ← hD] at h0
    exact h0
  have HBLK : Kept (∀ W : World, Blk W w.heap.size ROW.toList 38 → Blk W r cs 38 → ∃ L, Blk (W.setCells w.heap.size (i * 2) V) w.heap.size L 38 ∧ L.length = G * 2 ∧ Blk (W.setCells w.heap.size (i * 2) V) r cs 38) := ⟨fun W b1 b2 => by
    have hl : i * 2 + (cardE.g x).length ≤ ROW.toList.length := by rw [hRl, hvl]; omega
    refine ⟨ROW.toList.take (i * 2) ++ cardE.g x ++ ROW.toList.drop (i * 2 + (cardE.g x).length), by rw [hV]; exact b1.cells (cardE.g x) hl, ?_, blk_other (o := 0) b2 (by omega) _ _ _ b2⟩
    simp only [List.length_append, List.length_take, List.length_drop, hRl]; omega⟩
  have HFIN : Kept (∀ W : World, Blk W w.heap.size ROW.toList 38 → Upd (fun k => k = r) w W → cardE.Own ((W.setCells w.heap.size (i * 2) V).setCells w.heap.size ((i + 1) * 2) D) base 38 (.slice (some ⟨w.heap.size, 0, none⟩) (n + 1) G) (xs.take i ++ x :: xs.drop i) ∧ Upd (fun k => k = r) w ((W.setCells w.heap.size (i * 2) V).setCells w.heap.size ((i + 1) * 2) D)) := ⟨fun W b1 hu => by
    refine ⟨?_, Upd.setCells (S := fun k => k = r) (.inr (Nat.le_refl _)) _ _ _ (Upd.setCells (S := fun k => k = r) (.inr (Nat.le_refl _)) _ _ _ hu)⟩
    have h0 := ownK_grow (size := 2) (base := base) (cap := G) (n := n) (i := i) (xs := cardE.cells xs) (vs := cardE.g x) b1 hbs hRl hG63 hGn (by omega) hxl hvl hRt
    rw [hcells] at h0
    show OwnK 2 _ base 38 _ (xs.take i ++ x :: xs.drop i).length _
    rw [hln, hV, hD]
    exact h0⟩
  have HU : Kept (Upd (fun k => k = r) w (w.alloc (.cells ROW 38)).drew) := ⟨((Upd.refl _ w).alloc _).drew⟩
  have HA := kept kA.drew
  have HV2 := kept kV.drew
  have HR2 := kept kR.drew
  clear hV hD hcells hln kA kV kR h hown hk hdl hxl hvl htk hcl kr hN hold hget hROW hG hRl hRt hi0 hz0 hzs hzb hzc htl hkk hik
  generalize hX : (cardE.cells xs) = XS at *
  have hw1 : IntKind.i64.wrap ((i : Int) + 1) = (i : Int) + 1 := by rw [IntKind.wrap_i64]; omega
  have hz2 : ¬ ((i : Int) = (n : Int)) := by omega
  have hz3 : (c : Int) < (n : Int) + 1 := by omega
  have hb1 : (0 : Int) ≤ (i : Int) + 1 := by omega
  have hin : i ≤ n := by omega
  have htn : ((i : Int) + 1).toNat = i + 1 := by omega
  have hG63' : G ≤ 9223372036854775807 := hG63
  have hGi : ¬ (G = i) := by omega
  have hGim : ¬ (G = i + 1) := by omega
  have hci : ¬ (c = i) := by omega
  have hb3 : (i : Int) ≤ (n : Int) := by omega
  have hb4 : (i : Int) ≤ (n : Int) + 1 := by omega
  have hb5 : i ≤ n + 1 := by omega
  go_enter Try.func82, Try.ntmps82
  have hA1 := hcpA _ HA.out HV2.out
  clear hcpA
  go_wp2_with (at_builtin; refine Lib.wpList_append_run _ rfl _ _ _ _ rfl _ _ rfl rfl _ _ (hrz _) ?_)
  obtain ⟨L, kL, hL, kR3⟩ := HBLK.out _ HA.out HR2.out
  have hB1 := hcpB _ L kL.drew hL kR3.drew
  clear hcpB
  go_region
  go_wp2
  go_ret
  refine ⟨G, rfl, ?_⟩
  first | exact HFIN.out _ HA.out HU.out | (rw [drew_setCells]; exact HFIN.out _ HA.out HU.out.drew)
set_option maxRecDepth 100000 in
set_option maxHeartbeats 2000000 in
theorem insc_end (base : Nat) (A : Option Addr) (c : Nat) (l : List CardM) (x : CardM) (B : Nat) (X : Option Addr) (w : World) (h : cardE.Own w base 38 (.slice A l.length c) l) (hx : cardE.Rd w B X [x]) (hbs : base ≤ w.heap.size) (hsz : l.length ≤ 1000000) :
    Calls Try.prog 82 #[.slice A l.length c, .int .i64 (l.length : Int), .slice X 1 1] w fun e w' =>
      ∃ A' c', e = .returned (.slice A' (l ++ [x]).length c') ∧ cardE.Own w' base 38 (.slice A' (l ++ [x]).length c') (l ++ [x]) ∧ Upd (fun k => (Value.slice A l.length c).ownBlock = some k) w w' := by
  have hcap : l.length ≤ c := h.cap
  have hcm : c ≤ 9223372036854775807 := by
    obtain ⟨A', c', he, _, h2, _⟩ := OwnK.form h
    injection he with _ _ e3
    subst e3
    exact h2
  have e1 : (l.length : Int) ≤ (c : Int) := by omega
  have e2 : (0 : Int) ≤ (l.length : Int) := by omega
  have hz : (l.length + [x].length) * 32 ≤ 140737488355328 := by simp; omega
  have HQ : Kept (∀ r : List CardM, r = l ++ [x] → r.length = (l ++ [x]).length) := ⟨fun r h => by rw [h]⟩
  obtain ⟨X2, hX2⟩ : ∃ X2, (if c = l.length then A else A.map (fun p => p.add (l.length * 2))) = X2 := ⟨_, rfl⟩
  go_enter Try.func82, Try.ntmps82
  go_wp2_with (at_builtin; refine wpl_appEU _ cardE rfl (.tmp 23) (.tmp 24) 22 rfl base 38 Try.underlying22 card_info rfl _ l rfl h _ _ _ _ [x] rfl rfl hx hz (by decide) hbs ?_; intro A9 c9 w9 r9 hr9 hown9 hu9 hx9)
  have HU := kept (hu9 (fun k => (Value.slice A l.length c).ownBlock = some k) fun _ h => h)
  have HO := kept hown9
  have HR := kept hr9.out
  clear hu9 hown9 hx9
  go_wp2_with fail
  go_ret
  exact ⟨A9, c9, by rw [← HR.out]; rfl, by rw [← HR.out]; exact HO.out, HU.out⟩
theorem insc_any (base : Nat) (A : Option Addr) (c i vb : Nat) (l : List CardM) (x : CardM) (tv : TypeId) (w : World) (h : cardE.Own w base 38 (.slice A l.length c) l) (hk : Blk w vb (cardE.g x) tv) (hvb : ∀ k, (Value.slice A l.length c).ownBlock = some k → vb ≠ k) (hi : i ≤ l.length) (hbs : base ≤ w.heap.size) (hsz : l.length ≤ 1000000) :
    Calls Try.prog 82 #[.slice A l.length c, .int .i64 (i : Int), .slice (some ⟨vb, 0, none⟩) 1 1] w fun e w' =>
      ∃ A' c', e = .returned (.slice A' (l.take i ++ x :: l.drop i).length c') ∧ cardE.Own w' base 38 (.slice A' (l.take i ++ x :: l.drop i).length c') (l.take i ++ x :: l.drop i) ∧ Upd (fun k => (Value.slice A l.length c).ownBlock = some k) w w' := by
  have hr : cardE.Rd w w.heap.size (some ⟨vb, 0, none⟩) [x] := by
    have := hk.rd
    unfold Elem.Rd Elem.cells
    rw [List.flatMap_singleton]
    exact this
  rcases Nat.lt_or_ge i l.length with hlt | hge
  · have hz := List.getElem?_eq_getElem hlt
    obtain ⟨r, rfl, hbr, hrw, -, -, -⟩ := h.spot (i := i) (j := 0) hz rfl
    have hln : (l.take i ++ x :: l.drop i).length = l.length + 1 := by simp only [List.length_append, List.length_take, List.length_cons, List.length_drop]; omega
    rw [hln]
    by_cases hroom : l.length + 1 ≤ c
    · refine (insc_room base r l.length c i vb l x tv w rfl h hk (hvb r rfl) hlt hroom hsz).mono ?_
      rintro e w' ⟨rfl, ho, hu⟩
      exact ⟨_, c, rfl, ho, hu.mono fun k _ e => congrArg some e.symm⟩
    · refine (insc_grow base r l.length c i vb l x tv w rfl h hk hlt (by omega) hsz hbs).mono ?_
      rintro e w' ⟨G, rfl, ho, hu⟩
      exact ⟨_, G, rfl, ho, hu.mono fun k _ e => congrArg some e.symm⟩
  · obtain rfl : i = l.length := by omega
    rw [List.take_length, List.drop_length]
    exact insc_end base A c l x w.heap.size (some ⟨vb, 0, none⟩) w h hr hbs hsz
end Go.Proofs.Ytnmcclkpgbdenaa.Chg
