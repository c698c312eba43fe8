/- Layer 50 (change): slices.Insert of one line in its midst. (printed by tools/genins.py) -/
import Derived.Test.YtnmcclkpgbdenaaSet21
import Derived.Deep.RegionLaw
namespace Go.Proofs.Ytnmcclkpgbdenaa.Chg
open Go.RowKit Go.Proofs.Ytnmcclkpgbdenaa.Mem Go.Proofs.Ytnmcclkpgbdenaa.Card

set_option maxRecDepth 100000 in
set_option maxHeartbeats 4000000 in
theorem insl_room (base r n c i vb : Nat) (xs : List LineM) (x : LineM) (tv : TypeId) (w : World) (hN : xs.length = n) (h : lineE.Own w base 41 (.slice (some ⟨r, 0, none⟩) n c) xs) (hk : Blk w vb (lineE.g x) tv) (hvb : vb ≠ r) (hi : i < n) (hroom : n + 1 ≤ c) (hn : n ≤ 1000000) :
    Calls Try.prog 114 #[.slice (some ⟨r, 0, none⟩) n c, .int .i64 (i : Int), .slice (some ⟨vb, 0, none⟩) 1 1] w fun e w' =>
      e = .returned (.slice (some ⟨r, 0, none⟩) (n + 1) c) ∧ lineE.Own w' base 41 (.slice (some ⟨r, 0, none⟩) (n + 1) c) (xs.take i ++ x :: xs.drop i) ∧ Upd (fun k => k = r) w w' := by
  have hown : OwnK 3 w base 41 (.slice (some ⟨r, 0, none⟩) n c) n (lineE.cells xs) := by
    have : OwnK lineE.k w base 41 (.slice (some ⟨r, 0, none⟩) n c) xs.length (lineE.cells xs) := h
    rwa [hN] at this
  obtain ⟨cs, kr, hcl, htk, hnc, hcm, hbr⟩ := hown.blk
  have hxl : (lineE.cells xs).length = n * 3 := by rw [lineE.cells_length, hN]; rfl
  have hvl : (lineE.g x).length = 3 := lineE.len x
  have hvk : kr = kr := rfl
  have hc63 : c ≤ 9223372036854775807 := hcm
  have hdl : ((lineE.cells xs).drop (i * 3)).length = (n - i) * 3 := by rw [List.length_drop, hxl, Nat.sub_mul]
  have hcp1 : ∀ ty dc sc, (Builtin.copy_ #[36, 36] ty #[.slice (some ⟨r, (i + 1) * 3, none⟩) (n - i) dc, .slice (some ⟨r, i * 3, none⟩) (n + 1 - i) sc]).run Try.prog w.drew = .ok (goInt ((n - i : Nat) : Int)) (w.drew.setCells r ((i + 1) * 3) ((lineE.cells xs).drop (i * 3))) := fun ty dc sc => by
    have hm : Nat.min (n + 1 - i) (n - i) = n - i := by simp only [Nat.min_def]; split <;> omega
    have h0 := run_copy_k (P := Try.prog) w.drew 36 36 ty 41 3 r ((i + 1) * 3) (n - i) dc ⟨r, i * 3, none⟩ (n + 1 - i) sc ((lineE.cells xs).drop (i * 3)) Try.underlying36 (by kernel_rfl) (by rw [hdl, hm])
      (fun j v hj => by
        rw [add_plain]
        have hj2 : cs[i * 3 + j]? = some v := by
          rw [List.getElem?_drop, ← htk, List.getElem?_take] at hj
          split at hj
          · exact hj
          · cases hj
        exact kr.cell hj2)
      (fun j hj => kr.some (by rw [hdl] at hj; rw [hcl]; omega)) (fun j _ => kr.frozen _) (fun v hv => lineE.cells_one xs v (List.mem_of_mem_drop hv))
    rw [hm] at h0
    exact h0
  have k1 := (kr.drew).cells (o := (i + 1) * 3) ((lineE.cells xs).drop (i * 3)) (by rw [hdl, hcl]; omega)
  have hkv : Blk (w.drew.setCells r ((i + 1) * 3) ((lineE.cells xs).drop (i * 3))) vb (lineE.g x) tv := blk_other (o := 0) hk.drew (fun e => hvb e.symm) _ _ _ hk.drew
  have hcp2 : ∀ ty dc, (Builtin.copy_ #[36, 36] ty #[.slice (some ⟨r, i * 3, none⟩) (n + 1 - i) dc, .slice (some ⟨vb, 0, none⟩) 1 1]).run Try.prog (w.drew.setCells r ((i + 1) * 3) ((lineE.cells xs).drop (i * 3))) = .ok (goInt ((1 : Nat) : Int)) ((w.drew.setCells r ((i + 1) * 3) ((lineE.cells xs).drop (i * 3))).setCells r (i * 3) (lineE.g x)) := fun ty dc => by
    have hm : Nat.min 1 (n + 1 - i) = 1 := by simp only [Nat.min_def]; split <;> omega
    have h0 := run_copy_k (P := Try.prog) (w.drew.setCells r ((i + 1) * 3) ((lineE.cells xs).drop (i * 3))) 36 36 ty 41 3 r (i * 3) (n + 1 - i) dc ⟨vb, 0, none⟩ 1 1 (lineE.g x) Try.underlying36 (by kernel_rfl) (by rw [hvl, hm])
      (fun j v hj => by rw [add_plain, Nat.zero_add]; exact hkv.cell hj)
      (fun j hj => k1.some (by simp only [List.length_append, List.length_take, List.length_drop, hcl, hdl]; rw [hvl] at hj; rw [Nat.sub_mul]; omega)) (fun j _ => k1.frozen _) (lineE.one x)
    rw [hm] at h0
    exact h0
  have hov : ∀ lb cb, (callFunc 133 #[.slice (some ⟨vb, 0, none⟩) 1 1, .slice (some ⟨r, (i + 1) * 3, none⟩) lb cb]).run Try.prog w = .ok (.value (.bool false)) w := fun lb cb => by
    rw [run_callFunc_extern Try.func133 (by kernel_rfl) (by kernel_rfl) (by kernel_rfl) (e := Extern.SlicesOverlaps.overlaps #[36, 36] #[4]) (by kernel_rfl),
      Lib.run_overlaps_apart w 36 4 41 Try.underlying36 3 (fun _ => by kernel_rfl) ⟨vb, 0, none⟩ ⟨r, (i + 1) * 3, none⟩ 1 1 lb cb hvb tv 41 _ _ hk.shape kr.shape (by rw [hcl]; omega) (hk.frozen _) (hk.frozen _)]
    rfl
  have hfin := ownK_insert (size := 3) (w := w.drew) (i := i) (vs := lineE.g x) hown hroom (by omega) hvl
  have hcells : (lineE.cells xs).take (i * 3) ++ lineE.g x ++ (lineE.cells xs).drop (i * 3) = lineE.cells (xs.take i ++ x :: xs.drop i) := by
    rw [lineE.cells_append, show x :: xs.drop i = [x] ++ xs.drop i from rfl, lineE.cells_append, ← List.append_assoc]
    have e1 : lineE.cells (xs.take i) = (lineE.cells xs).take (i * 3) := (lineE.cells_take xs i).symm
    have e2 : lineE.cells (xs.drop i) = (lineE.cells xs).drop (i * 3) := (lineE.cells_drop xs i).symm
    have e3 : lineE.cells [x] = lineE.g x := by unfold Elem.cells; rw [List.flatMap_singleton]
    rw [e1, e2, e3]
  have hln : (xs.take i ++ x :: xs.drop i).length = n + 1 := by simp only [List.length_append, List.length_take, List.length_cons, List.length_drop, hN]; omega
  rw [hcells] at hfin
  have HFIN : Kept (lineE.Own ((w.drew.setCells r ((i + 1) * 3) ((lineE.cells xs).drop (i * 3))).setCells r (i * 3) (lineE.g x)) base 41 (.slice (some ⟨r, 0, none⟩) (n + 1) c) (xs.take i ++ x :: xs.drop i) ∧ Upd (fun k => k = r) w ((w.drew.setCells r ((i + 1) * 3) ((lineE.cells xs).drop (i * 3))).setCells r (i * 3) (lineE.g x))) := by
    refine ⟨?_, Upd.setCells (S := fun k => k = r) (.inl rfl) _ _ _ (Upd.setCells (S := fun k => k = r) (.inl rfl) _ _ _ (Upd.refl _ w).drew)⟩
    show OwnK 3 _ base 41 _ (xs.take i ++ x :: xs.drop i).length _
    rw [hln]
    exact hfin
  clear hfin hcells hln k1 hkv kr h hown hk hdl hxl hvl htk hcl hvk hN
  generalize (lineE.cells xs).drop (i * 3) = D at *
  generalize lineE.g x = V at *
  have hw1 : IntKind.i64.wrap ((i : Int) + 1) = (i : Int) + 1 := by rw [IntKind.wrap_i64]; omega
  have hz2 : ¬ ((i : Int) = (n : Int)) := by omega
  have hz3 : ¬ ((c : Int) < (n : Int) + 1) := by omega
  have hb1 : (0 : Int) ≤ (i : Int) + 1 := by omega
  have hin : i ≤ n := by omega
  have htn : ((i : Int) + 1).toNat = i + 1 := by omega
  have hb2 : ¬ (c = i + 1) := by omega
  have hb3 : (i : Int) ≤ (n : Int) + 1 := by omega
  have hb4 : ¬ (c = i) := by omega
  have hb5 : i + 1 ≤ n + 1 := by omega
  have hb6 : i ≤ n + 1 := by omega
  have hb7 : (i : Int) + 1 ≤ (n : Int) + 1 := by omega
  have hb8 : (n : Int) + 1 ≤ (c : Int) := by omega
  have hb9 : (0 : Int) ≤ (n : Int) + 1 := by omega
  have hb10 : ((n : Int) + 1).toNat = n + 1 := by omega
  go_enter Try.func114, Try.ntmps114
  go_wp2_with (simp only [hov])
  go_region_law (refine step_copyI rfl _ _ 36 36 rfl _ _ (by simp [Act.eval, Act.put]) (by simp [Act.eval, Act.put]) (hcp1 _ _ _) ?_)
  go_wp2_with (at_builtin; refine wpl_copyI _ rfl _ _ 36 36 rfl _ _ rfl rfl (hcp2 _ _) ?_)
  go_ret
  exact ⟨rfl, HFIN.out.1, HFIN.out.2⟩
set_option maxRecDepth 100000 in
set_option maxHeartbeats 4000000 in
theorem insl_grow (base r n c i vb : Nat) (xs : List LineM) (x : LineM) (tv : TypeId) (w : World) (hN : xs.length = n) (h : lineE.Own w base 41 (.slice (some ⟨r, 0, none⟩) n c) xs) (hk : Blk w vb (lineE.g x) tv) (hi : i < n) (hroom : c < n + 1) (hn : n ≤ 1000000) (hbs : base ≤ w.heap.size) :
    Calls Try.prog 114 #[.slice (some ⟨r, 0, none⟩) n c, .int .i64 (i : Int), .slice (some ⟨vb, 0, none⟩) 1 1] w fun e w' =>
      ∃ G, e = .returned (.slice (some ⟨w.heap.size, 0, none⟩) (n + 1) G) ∧ lineE.Own w' base 41 (.slice (some ⟨w.heap.size, 0, none⟩) (n + 1) G) (xs.take i ++ x :: xs.drop i) ∧ Upd (fun k => k = r) w w' := by
  have hown : OwnK 3 w base 41 (.slice (some ⟨r, 0, none⟩) n c) n (lineE.cells xs) := by
    have : OwnK lineE.k w base 41 (.slice (some ⟨r, 0, none⟩) n c) xs.length (lineE.cells xs) := h
    rwa [hN] at this
  obtain ⟨cs, kr, hcl, htk, hnc, hcm, hbr⟩ := hown.blk
  obtain ⟨i0, hi0, hz0, hzs, hzb⟩ := info_parts line_info
  have hxl : (lineE.cells xs).length = n * 3 := by rw [lineE.cells_length, hN]; rfl
  have hvl : (lineE.g x).length = 3 := lineE.len x
  have hdl : ((lineE.cells xs).drop (i * 3)).length = (n - i) * 3 := by rw [List.length_drop, hxl, Nat.sub_mul]
  have htl : ((lineE.cells xs).take (i * 3)).length = i * 3 := by rw [List.length_take, hxl]; omega
  have hrw : r < w.heap.size := kr.lt
  have hvw : vb < w.heap.size := hk.lt
  have hget : ∀ (j : Nat) v, (lineE.cells xs)[j]? = some v → cs[j]? = some v := fun j v hj => by
    rw [← htk, List.getElem?_take] at hj
    split at hj
    · exact hj
    · cases hj
  have hold : (Builtin.firstCells i0.size i (.slice (some ⟨r, 0, none⟩) i c)).run Try.prog w.drew = .ok ((lineE.cells xs).take (i * 3)).toArray w.drew := by
    rw [hzs]
    exact run_firstCells_some w.drew 3 i ⟨r, 0, none⟩ i c ((lineE.cells xs).take (i * 3)) htl (fun j v hj => by
      rw [add_plain, Nat.zero_add]
      rw [List.getElem?_take] at hj
      split at hj
      · exact kr.cell (hget j v hj)
      · cases hj)
  have hkk : (n : Int) + 1 - (i : Int) = ((n + 1 - i : Nat) : Int) := by omega
  have hik : i + (n + 1 - i) = n + 1 := by omega
  obtain ⟨G, hG⟩ : ∃ G, G = grownCap w (n + 1) c 41 := ⟨_, rfl⟩
  obtain ⟨ROW, hROW⟩ : ∃ ROW : Array Value, ROW = ((lineE.cells xs).take (i * 3)).toArray ++ Builtin.zeroCells (Value.agg #[.int .u8 0, .string ByteArray.empty, .slice none 0 0]).cells (n + 1 - i) ++ Builtin.zeroCells (Value.agg #[.int .u8 0, .string ByteArray.empty, .slice none 0 0]).cells (G - (n + 1)) := ⟨_, rfl⟩
  have hrz : ∀ ty, (Builtin.append_ #[36, 3] ty #[.slice (some ⟨r, 0, none⟩) i c, .int .i64 ((n : Int) + 1 - (i : Int))]).run Try.prog w =
      .ok (.slice (some ⟨w.heap.size, 0, none⟩) (n + 1) G) (w.drew.alloc (.cells ROW 41)) := fun ty => by
    have h := Lib.run_append_grow_zeros w 36 3 ty 41 i0 _ .i64 .i64 Try.underlying36 Try.underlying3 hi0 hz0 (some ⟨r, 0, none⟩) i c ((lineE.cells xs).take (i * 3)) hold (n + 1 - i) (by omega) (by rw [hzs]; decide) (by omega) (by omega) (by rw [hzb]; omega) (by rw [hzb, hik]; exact growslice_fits hroom (by omega))
    rw [hik] at h
    rw [hkk, hROW, hG]
    exact h
  have hGn : n + 1 ≤ G := by rw [hG]; exact grownCap_ge w _ _ _
  have hG63 : G ≤ maxLen := by rw [hG]; exact grownCap_le_maxLen w (n + 1) c 41 (by unfold maxLen; omega)
  have hzc : (Value.agg #[.int .u8 0, .string ByteArray.empty, .slice none 0 0]).cells.size = 3 := by kernel_rfl
  have hRl : ROW.toList.length = G * 3 := by
    rw [hROW]
    simp only [Array.length_toList, Array.size_append, size_zeroCells, hzc, List.size_toArray, htl]
    omega
  have hRt : ROW.toList.take (i * 3) = (lineE.cells xs).take (i * 3) := by
    rw [hROW]
    simp only [Array.toList_append, List.append_assoc]
    rw [List.take_append_of_le_length (by omega), List.take_of_length_le (by omega)]
  have kA : Blk (w.alloc (.cells ROW 41)) w.heap.size ROW.toList 41 := by
    have := Blk.new w ROW.toList 41
    simpa using this
  have kV : Blk (w.alloc (.cells ROW 41)) vb (lineE.g x) tv := hk.alloc _
  have kR : Blk (w.alloc (.cells ROW 41)) r cs 41 := kr.alloc _
  have hcells : (lineE.cells xs).take (i * 3) ++ lineE.g x ++ (lineE.cells xs).drop (i * 3) = lineE.cells (xs.take i ++ x :: xs.drop i) := by
    rw [lineE.cells_append, show x :: xs.drop i = [x] ++ xs.drop i from rfl, lineE.cells_append, ← List.append_assoc]
    have e1 : lineE.cells (xs.take i) = (lineE.cells xs).take (i * 3) := (lineE.cells_take xs i).symm
    have e2 : lineE.cells (xs.drop i) = (lineE.cells xs).drop (i * 3) := (lineE.cells_drop xs i).symm
    have e3 : lineE.cells [x] = lineE.g x := by unfold Elem.cells; rw [List.flatMap_singleton]
    rw [e1, e2, e3]
  have hln : (xs.take i ++ x :: xs.drop i).length = n + 1 := by simp only [List.length_append, List.length_take, List.length_cons, List.length_drop, hN]; omega
  obtain ⟨V, hV⟩ : ∃ V, V = lineE.g x := ⟨_, rfl⟩
  obtain ⟨D, hD⟩ : ∃ D, D = (lineE.cells xs).drop (i * 3) := ⟨_, rfl⟩
  have hcpA : ∀ W : World, Blk W w.heap.size ROW.toList 41 → Blk W vb (lineE.g x) tv → ∀ ty dc, (Builtin.copy_ #[36, 36] ty #[.slice (some ⟨w.heap.size, i * 3, none⟩) (n + 1 - i) dc, .slice (some ⟨vb, 0, none⟩) 1 1]).run Try.prog W = .ok (goInt ((1 : Nat) : Int)) (W.setCells w.heap.size (i * 3) V) := fun W b1 b2 ty dc => by
    have hm : Nat.min 1 (n + 1 - i) = 1 := by simp only [Nat.min_def]; split <;> omega
    have h0 := run_copy_k (P := Try.prog) W 36 36 ty 41 3 w.heap.size (i * 3) (n + 1 - i) dc ⟨vb, 0, none⟩ 1 1 (lineE.g x) Try.underlying36 (by kernel_rfl) (by rw [hvl, hm])
      (fun j v hj => by rw [add_plain, Nat.zero_add]; exact b2.cell hj)
      (fun j hj => b1.some (by rw [hRl]; rw [hvl] at hj; omega)) (fun j _ => b1.frozen _) (lineE.one x)
    rw [hm, ← hV] at h0
    exact h0
  have hcpB : ∀ (W : World) (L : List Value), Blk W w.heap.size L 41 → L.length = G * 3 → Blk W r cs 41 → ∀ ty dc sc, (Builtin.copy_ #[36, 36] ty #[.slice (some ⟨w.heap.size, (i + 1) * 3, none⟩) (n - i) dc, .slice (some ⟨r, i * 3, none⟩) (n - i) sc]).run Try.prog W = .ok (goInt ((n - i : Nat) : Int)) (W.setCells w.heap.size ((i + 1) * 3) D) := fun W L b1 hL b2 ty dc sc => by
    have hm : Nat.min (n - i) (n - i) = n - i := Nat.min_self _
    have h0 := run_copy_k (P := Try.prog) W 36 36 ty 41 3 w.heap.size ((i + 1) * 3) (n - i) dc ⟨r, i * 3, none⟩ (n - i) sc ((lineE.cells xs).drop (i * 3)) Try.underlying36 (by kernel_rfl) (by rw [hdl, hm])
      (fun j v hj => by rw [add_plain]; exact b2.cell (hget _ _ (by rwa [List.getElem?_drop] at hj)))
      (fun j hj => b1.some (by rw [hdl] at hj; rw [hL]; omega)) (fun j _ => b1.frozen _) (fun v hv => lineE.cells_one xs v (List.mem_of_mem_drop hv))
    rw [hm, ← hD] at h0
    exact h0
  have HBLK : Kept (∀ W : World, Blk W w.heap.size ROW.toList 41 → Blk W r cs 41 → ∃ L, Blk (W.setCells w.heap.size (i * 3) V) w.heap.size L 41 ∧ L.length = G * 3 ∧ Blk (W.setCells w.heap.size (i * 3) V) r cs 41) := ⟨fun W b1 b2 => by
    have hl : i * 3 + (lineE.g x).length ≤ ROW.toList.length := by rw [hRl, hvl]; omega
    refine ⟨ROW.toList.take (i * 3) ++ lineE.g x ++ ROW.toList.drop (i * 3 + (lineE.g x).length), by rw [hV]; exact b1.cells (lineE.g x) hl, ?_, blk_other (o := 0) b2 (by omega) _ _ _ b2⟩
    simp only [List.length_append, List.length_take, List.length_drop, hRl]; omega⟩
  have HFIN : Kept (∀ W : World, Blk W w.heap.size ROW.toList 41 → Upd (fun k => k = r) w W → lineE.Own ((W.setCells w.heap.size (i * 3) V).setCells w.heap.size ((i + 1) * 3) D) base 41 (.slice (some ⟨w.heap.size, 0, none⟩) (n + 1) G) (xs.take i ++ x :: xs.drop i) ∧ Upd (fun k => k = r) w ((W.setCells w.heap.size (i * 3) V).setCells w.heap.size ((i + 1) * 3) D)) := ⟨fun W b1 hu => by
    refine ⟨?_, Upd.setCells (S := fun k => k = r) (.inr (Nat.le_refl _)) _ _ _ (Upd.setCells (S := fun k => k = r) (.inr (Nat.le_refl _)) _ _ _ hu)⟩
    have h0 := ownK_grow (size := 3) (base := base) (cap := G) (n := n) (i := i) (xs := lineE.cells xs) (vs := lineE.g x) b1 hbs hRl hG63 hGn (by omega) hxl hvl hRt
    rw [hcells] at h0
    show OwnK 3 _ base 41 _ (xs.take i ++ x :: xs.drop i).length _
    rw [hln, hV, hD]
    exact h0⟩
  have HU : Kept (Upd (fun k => k = r) w (w.alloc (.cells ROW 41)).drew) := ⟨((Upd.refl _ w).alloc _).drew⟩
  have HA := kept kA.drew
  have HV2 := kept kV.drew
  have HR2 := kept kR.drew
  clear hV hD hcells hln kA kV kR h hown hk hdl hxl hvl htk hcl kr hN hold hget hROW hG hRl hRt hi0 hz0 hzs hzb hzc htl hkk hik
  generalize hX : (lineE.cells xs) = XS at *
  have hw1 : IntKind.i64.wrap ((i : Int) + 1) = (i : Int) + 1 := by rw [IntKind.wrap_i64]; omega
  have hz2 : ¬ ((i : Int) = (n : Int)) := by omega
  have hz3 : (c : Int) < (n : Int) + 1 := by omega
  have hb1 : (0 : Int) ≤ (i : Int) + 1 := by omega
  have hin : i ≤ n := by omega
  have htn : ((i : Int) + 1).toNat = i + 1 := by omega
  have hG63' : G ≤ 9223372036854775807 := hG63
  have hGi : ¬ (G = i) := by omega
  have hGim : ¬ (G = i + 1) := by omega
  have hci : ¬ (c = i) := by omega
  have hb3 : (i : Int) ≤ (n : Int) := by omega
  have hb4 : (i : Int) ≤ (n : Int) + 1 := by omega
  have hb5 : i ≤ n + 1 := by omega
  go_enter Try.func114, Try.ntmps114
  have hA1 := hcpA _ HA.out HV2.out
  clear hcpA
  go_wp2_with (at_builtin; refine Lib.wpList_append_run _ rfl _ _ _ _ rfl _ _ rfl rfl _ _ (hrz _) ?_)
  obtain ⟨L, kL, hL, kR3⟩ := HBLK.out _ HA.out HR2.out
  have hB1 := hcpB _ L kL.drew hL kR3.drew
  clear hcpB
  go_region
  go_wp2
  go_ret
  refine ⟨G, rfl, ?_⟩
  first | exact HFIN.out _ HA.out HU.out | (rw [drew_setCells]; exact HFIN.out _ HA.out HU.out.drew)
theorem insl_any (base : Nat) (A : Option Addr) (c i vb : Nat) (l : List LineM) (x : LineM) (tv : TypeId) (w : World) (h : lineE.Own w base 41 (.slice A l.length c) l) (hk : Blk w vb (lineE.g x) tv) (hvb : ∀ k, (Value.slice A l.length c).ownBlock = some k → vb ≠ k) (hi : i ≤ l.length) (hbs : base ≤ w.heap.size) (hsz : l.length ≤ 1000000) :
    Calls Try.prog 114 #[.slice A l.length c, .int .i64 (i : Int), .slice (some ⟨vb, 0, none⟩) 1 1] w fun e w' =>
      ∃ A' c', e = .returned (.slice A' (l.take i ++ x :: l.drop i).length c') ∧ lineE.Own w' base 41 (.slice A' (l.take i ++ x :: l.drop i).length c') (l.take i ++ x :: l.drop i) ∧ Upd (fun k => (Value.slice A l.length c).ownBlock = some k) w w' := by
  have hr : lineE.Rd w w.heap.size (some ⟨vb, 0, none⟩) [x] := by
    have := hk.rd
    unfold Elem.Rd Elem.cells
    rw [List.flatMap_singleton]
    exact this
  rcases Nat.lt_or_ge i l.length with hlt | hge
  · have hz := List.getElem?_eq_getElem hlt
    obtain ⟨r, rfl, hbr, hrw, -, -, -⟩ := h.spot (i := i) (j := 0) hz rfl
    have hln : (l.take i ++ x :: l.drop i).length = l.length + 1 := by simp only [List.length_append, List.length_take, List.length_cons, List.length_drop]; omega
    rw [hln]
    by_cases hroom : l.length + 1 ≤ c
    · refine (insl_room base r l.length c i vb l x tv w rfl h hk (hvb r rfl) hlt hroom hsz).mono ?_
      rintro e w' ⟨rfl, ho, hu⟩
      exact ⟨_, c, rfl, ho, hu.mono fun k _ e => congrArg some e.symm⟩
    · refine (insl_grow base r l.length c i vb l x tv w rfl h hk hlt (by omega) hsz hbs).mono ?_
      rintro e w' ⟨G, rfl, ho, hu⟩
      exact ⟨_, G, rfl, ho, hu.mono fun k _ e => congrArg some e.symm⟩
  · obtain rfl : i = l.length := by omega
    rw [List.take_length, List.drop_length]
    exact insl_end base A c l x w.heap.size (some ⟨vb, 0, none⟩) w h hr hbs hsz
end Go.Proofs.Ytnmcclkpgbdenaa.Chg
