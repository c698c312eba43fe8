/- Layer 44 (list): how two cards stand. (printed by tools/genlc.py) -/
import Derived.Test.YtfkfpanhbanljaaGreatDoorTwinAlike
import Derived.Test.YtfkfpanhbanljaaGreatDoorSet22
import Derived.Test.YtfkfpanhbanljaaGreatDoorSet44
import Derived.Test.YtfkfpanhbanljaaGreatDoorStabMath
import Derived.Test.YtfkfpanhbanljaaGreatDoorSet25
import Derived.BigQuiet
import Derived.Deep.DeepCutAuto
namespace Go.Proofs.YtfkfpanhbanljaaGreatDoor.List44
open Go.RowKit Go.Proofs.YtfkfpanhbanljaaGreatDoor.Mem Go.Proofs.YtfkfpanhbanljaaGreatDoor.Card Go.Proofs.YtfkfpanhbanljaaGreatDoor.Fold Go.Proofs.YtfkfpanhbanljaaGreatDoor.Laid Go.Proofs.YtfkfpanhbanljaaGreatDoor.Twin Go.Proofs.YtfkfpanhbanljaaGreatDoor.Stab

/-- how two cards stand -/
def cmpC (x y : CardM) : Int := or2 (cmpF (titleOf x.ls) (titleOf y.ls)) (cmpN x.cid y.cid)
def ltC (x y : CardM) : Bool := decide (cmpC x y < 0)
theorem cmpN_range (x y : Nat) : cmpN x y = -1 ∨ cmpN x y = 0 ∨ cmpN x y = 1 := by
  unfold cmpN
  by_cases h : x < y
  · rw [if_pos h]; exact .inl rfl
  · rw [if_neg h]
    by_cases h2 : y < x
    · rw [if_pos h2]; exact .inr (.inr rfl)
    · rw [if_neg h2]; exact .inr (.inl rfl)
theorem cmpN_flip (x y : Nat) : cmpN y x = - cmpN x y := by unfold cmpN; split <;> split <;> (try split) <;> omega
theorem cmpN_trans {x y z : Nat} (h : cmpN x y = -1) (k : cmpN y z = -1) : cmpN x z = -1 := by
  unfold cmpN at *
  have h1 : x < y := by
    rcases Nat.lt_or_ge x y with h1 | h1
    · exact h1
    · rw [if_neg (by omega)] at h; split at h <;> omega
  have h2 : y < z := by
    rcases Nat.lt_or_ge y z with h1 | h1
    · exact h1
    · rw [if_neg (by omega)] at k; split at k <;> omega
  rw [if_pos (by omega)]
theorem cmpC_range (x y : CardM) : cmpC x y = -1 ∨ cmpC x y = 0 ∨ cmpC x y = 1 := by
  unfold cmpC or2
  by_cases h : cmpF (titleOf x.ls) (titleOf y.ls) = 0
  · rw [if_pos h]; exact cmpN_range _ _
  · rw [if_neg h]; exact cmpF_range _ _
theorem cmpC_flip (x y : CardM) : cmpC y x = - cmpC x y := by
  unfold cmpC or2
  rw [cmpF_neg (titleOf x.ls) (titleOf y.ls), cmpN_flip x.cid y.cid]
  by_cases h : cmpF (titleOf x.ls) (titleOf y.ls) = 0
  · rw [if_pos h, if_pos (by omega)]
  · rw [if_neg h, if_neg (by omega)]
theorem cmpC_zero {x y : CardM} : cmpC x y = 0 ↔ titleOf x.ls = titleOf y.ls ∧ x.cid = y.cid := by
  unfold cmpC or2
  by_cases h : cmpF (titleOf x.ls) (titleOf y.ls) = 0
  · rw [if_pos h, cmpN_zero, cmpF_zero.1 h]; simp
  · rw [if_neg h]
    exact ⟨fun h2 => absurd h2 h, fun h2 => absurd (cmpF_zero.2 h2.1) h⟩
theorem cmpC_congr {x x' y : CardM} (h1 : titleOf x.ls = titleOf x'.ls) (h2 : x.cid = x'.cid) : cmpC x y = cmpC x' y := by unfold cmpC; rw [h1, h2]
theorem cmpC_trans {a b c : CardM} (h : cmpC a b = -1) (h2 : cmpC b c = -1) : cmpC a c = -1 := by
  unfold cmpC or2 at *
  by_cases h3 : cmpF (titleOf a.ls) (titleOf b.ls) = 0
  · have e := cmpF_zero.1 h3
    rw [if_pos h3] at h
    rw [← e] at h2
    by_cases h4 : cmpF (titleOf a.ls) (titleOf c.ls) = 0
    · rw [if_pos h4] at h2 ⊢; exact cmpN_trans h h2
    · rw [if_neg h4] at h2 ⊢; exact h2
  · rw [if_neg h3] at h
    by_cases h4 : cmpF (titleOf b.ls) (titleOf c.ls) = 0
    · have e := cmpF_zero.1 h4
      rw [← e, if_neg h3]; exact h
    · rw [if_neg h4] at h2
      have := cmpF_trans h h2
      rw [this]; rfl
theorem swoC : SWO ltC where
  irr a := by
    have h : cmpC a a = 0 := cmpC_zero.2 ⟨rfl, rfl⟩
    unfold ltC; rw [h]; rfl
  asym a b h := by
    unfold ltC at *
    have h := of_decide_eq_true h
    rw [cmpC_flip a b]
    exact decide_eq_false (by omega)
  neg a b c h1 h2 := by
    unfold ltC at *
    have h1 := of_decide_eq_false h1
    have h2 := of_decide_eq_false h2
    refine decide_eq_false fun h => ?_
    have h3 : cmpC a c = -1 := by rcases cmpC_range a c with e | e | e <;> omega
    rcases cmpC_range a b with e | e | e
    · omega
    · have e2 := cmpC_zero.1 e
      rw [cmpC_congr e2.1 e2.2] at h3
      omega
    · have e2 : cmpC b a = -1 := by rw [cmpC_flip a b, e]
      have := cmpC_trans e2 h3
      omega
set_option maxRecDepth 100000 in
set_option maxHeartbeats 4000000 in
theorem lcmp_any (a b : CardM) (w : World) (ha : a.Ok w w.heap.size) (hb : b.Ok w w.heap.size) (hm : ML w) (sa : (titleOf a.ls).size ≤ 4294967000) (sb : (titleOf b.ls).size ≤ 4294967000) :
    Calls Tryz.prog 65 #[a.val, b.val] w fun e w' => e = .returned (.int .i64 (cmpC a b)) ∧ Below w.heap.size w w' := by
  have CTA := kept (fun (W : World) (h : Below w.heap.size w W) => title_any a W (ha.next h))
  have CTB := kept (fun (W : World) (h : Below w.heap.size w W) => title_any b W (hb.next h))
  have CF := kept (fun (W : World) (h : Below w.heap.size w W) => Fold.cmp_any (titleOf a.ls) (titleOf b.ls) W sa sb (hm.next h))
  obtain ⟨acid, aX, als, ac⟩ := a
  obtain ⟨bcid, bX, bls, bc⟩ := b
  unfold cmpC
  clear ha hb sa sb
  have hb0 : Below w.heap.size w ((w.alloc (.cells #[.int .u64 (acid : Int), .slice aX als.length ac] 31)).alloc (.cells #[.int .u64 (bcid : Int), .slice bX bls.length bc] 31)) := ((Below.refl _ _).alloc (Nat.le_refl _) _).alloc (by simp) _
  have hka : Blk ((w.alloc (.cells #[.int .u64 (acid : Int), .slice aX als.length ac] 31)).alloc (.cells #[.int .u64 (bcid : Int), .slice bX bls.length bc] 31)) w.heap.size [.int .u64 (acid : Int), .slice aX als.length ac] 31 := (Blk.new w _ _).alloc _
  have hkb : Blk ((w.alloc (.cells #[.int .u64 (acid : Int), .slice aX als.length ac] 31)).alloc (.cells #[.int .u64 (bcid : Int), .slice bX bls.length bc] 31)) (w.heap.size + 1) [.int .u64 (bcid : Int), .slice bX bls.length bc] 31 := Blk.newAt _ _ _ (by simp)
  unfold CardM.val at CTA CTB
  unfold CardM.val
  dsimp only at CTA CTB CF ⊢
  generalize titleOf als = ta at *
  generalize titleOf bls = tb at *
  generalize cmpF ta tb = cf at *
  clear hm
  obtain ⟨cn, hcn⟩ : ∃ cn, cmpN acid bcid = cn := ⟨_, rfl⟩
  rw [hcn]
  have CN : Kept (∀ W : World, Calls Tryz.prog 60 #[.int .u64 (acid : Int), .int .u64 (bcid : Int)] W fun e w' => e = .returned (.int .i64 cn) ∧ W = w') := ⟨fun W => by rw [← hcn]; exact compareN_any _ _ _⟩
  clear hcn
  go_enter Tryz.func65, Tryz.ntmps65
  go_upto_region 1 with fail
  generalize hwv : (w.alloc (.cells #[.int .u64 (acid : Int), .slice aX als.length ac] 31)).alloc (.cells #[.int .u64 (bcid : Int), .slice bX bls.length bc] 31) = wv at *
  clear hwv
  have HB0 := kept hb0
  have HKA := kept hka
  have HKB := kept hkb
  clear hb0 hka hkb
  have HW : Kept (∀ W, Below wv.heap.size wv W → Below w.heap.size w W) := ⟨fun W h => HB0.out.trans (h.mono HB0.out.size)⟩
  have HS : Kept (∀ W, Below wv.heap.size wv W → W.cell? ⟨w.heap.size, 0, none⟩ = some (.int .u64 (acid : Int)) ∧ W.cell? ⟨w.heap.size, 1, none⟩ = some (.slice aX als.length ac) ∧ W.cell? ⟨w.heap.size + 1, 0, none⟩ = some (.int .u64 (bcid : Int)) ∧ W.cell? ⟨w.heap.size + 1, 1, none⟩ = some (.slice bX bls.length bc)) := ⟨fun W h => ⟨(HKA.out.next h).cell (j := 0) rfl, (HKA.out.next h).cell (j := 1) rfl, (HKB.out.next h).cell (j := 0) rfl, (HKB.out.next h).cell (j := 1) rfl⟩⟩
  have hd0 : Below wv.heap.size wv wv := Below.refl _ _
  refine wp_region_noPanic ?_
  refine wp_region_held_drew (S := fun W => W.cell? ⟨w.heap.size, 0, none⟩ = some (.int .u64 (acid : Int)) ∧ W.cell? ⟨w.heap.size, 1, none⟩ = some (.slice aX als.length ac) ∧ W.cell? ⟨w.heap.size + 1, 0, none⟩ = some (.int .u64 (bcid : Int)) ∧ W.cell? ⟨w.heap.size + 1, 1, none⟩ = some (.slice bX bls.length bc)) (by kernel_rfl) (HS.out _ (by (repeat (first | with_reducible assumption | with_reducible refine below_new ?_ _ | with_reducible refine Below.drew ?_ | with_reducible exact Below.refl _ _)))) (fun hS0 => ?_)
  refine wpAnyH_take (i := 0) (v := ?_) rfl (by kernel_rfl) (by kernel_rfl) (by kernel_rfl) (fun _ _ _ h => h) (Or.inl ⟨by rfl, ?_⟩) hS0 ?_
  case refine_2 => (intro W hSW; obtain ⟨z0, z1, z2, z3⟩ := hSW; go_simp; try with_reducible rfl)
  try simp only [Act.put, List.setIfInBounds_toArray, List.set_cons_zero, List.set_cons_succ, List.getElem_toArray, List.getElem_cons_zero, List.getElem_cons_succ]
  refine wpAnyH_take (i := 2) (v := ?_) rfl (by kernel_rfl) (by kernel_rfl) (by kernel_rfl) (fun _ _ _ h => h) (Or.inl ⟨by rfl, ?_⟩) hS0 ?_
  case refine_2 => (intro W hSW; obtain ⟨z0, z1, z2, z3⟩ := hSW; go_simp; try with_reducible rfl)
  try simp only [Act.put, List.setIfInBounds_toArray, List.set_cons_zero, List.set_cons_succ, List.getElem_toArray, List.getElem_cons_zero, List.getElem_cons_succ]
  refine wpAnyH_take (i := 5) (v := ?_) rfl (by kernel_rfl) (by kernel_rfl) (by kernel_rfl) (fun _ _ _ h => h) (Or.inl ⟨by rfl, ?_⟩) hS0 ?_
  case refine_2 => (intro W hSW; go_simp; try with_reducible rfl)
  try simp only [Act.put, List.setIfInBounds_toArray, List.set_cons_zero, List.set_cons_succ, List.getElem_toArray, List.getElem_cons_zero, List.getElem_cons_succ]
  refine wpAnyH_take (i := 6) (v := ?_) rfl (by kernel_rfl) (by kernel_rfl) (by kernel_rfl) (fun _ _ _ h => h) (Or.inl ⟨by rfl, ?_⟩) hS0 ?_
  case refine_2 => (intro W hSW; obtain ⟨z0, z1, z2, z3⟩ := hSW; go_simp; try with_reducible rfl)
  try simp only [Act.put, List.setIfInBounds_toArray, List.set_cons_zero, List.set_cons_succ, List.getElem_toArray, List.getElem_cons_zero, List.getElem_cons_succ]
  refine wpAnyH_take (i := 7) (v := ?_) rfl (by kernel_rfl) (by kernel_rfl) (by kernel_rfl) (fun _ _ _ h => h) (Or.inl ⟨by rfl, ?_⟩) hS0 ?_
  case refine_2 => (intro W hSW; go_simp; try with_reducible rfl)
  try simp only [Act.put, List.setIfInBounds_toArray, List.set_cons_zero, List.set_cons_succ, List.getElem_toArray, List.getElem_cons_zero, List.getElem_cons_succ]
  refine wpAnyH_take (i := 8) (v := ?_) rfl (by kernel_rfl) (by kernel_rfl) (by kernel_rfl) (fun _ _ _ h => h) (Or.inl ⟨by rfl, ?_⟩) hS0 ?_
  case refine_2 => (intro W hSW; obtain ⟨z0, z1, z2, z3⟩ := hSW; go_simp; try with_reducible rfl)
  try simp only [Act.put, List.setIfInBounds_toArray, List.set_cons_zero, List.set_cons_succ, List.getElem_toArray, List.getElem_cons_zero, List.getElem_cons_succ]
  refine wpAnyH_ready (rs := [1]) (by kernel_rfl) (by simp) ?_
  refine AllReadyH.cons rfl (fun K' hK => ?_) AllReadyH.nil
  go_simp
  go_at_call 46
  refine (CTA.out _ (HW.out _ (by (repeat (first | with_reducible assumption | with_reducible refine below_new ?_ _ | with_reducible refine Below.drew ?_ | with_reducible exact Below.refl _ _))))).mono ?_
  rintro e x1 ⟨rfl, hx1⟩
  have hk1 : Below wv.heap.size wv x1 := below_next (by (repeat (first | with_reducible assumption | with_reducible refine below_new ?_ _ | with_reducible refine Below.drew ?_ | with_reducible exact Below.refl _ _))) hx1
  try simp only [Act.put, List.setIfInBounds_toArray, List.set_cons_zero, List.set_cons_succ, List.getElem_toArray, List.getElem_cons_zero, List.getElem_cons_succ]
  refine hK.out _ _ (HS.out x1 hk1) (fun hS0 => ?_)
  refine wpAnyH_ready (rs := [3]) (by kernel_rfl) (by simp) ?_
  refine AllReadyH.cons rfl (fun K' hK => ?_) AllReadyH.nil
  go_simp
  go_at_call 46
  refine (CTB.out _ (HW.out _ (by (repeat (first | with_reducible assumption | with_reducible refine below_new ?_ _ | with_reducible refine Below.drew ?_ | with_reducible exact Below.refl _ _))))).mono ?_
  rintro e x2 ⟨rfl, hx2⟩
  have hk2 : Below wv.heap.size wv x2 := below_next (by (repeat (first | with_reducible assumption | with_reducible refine below_new ?_ _ | with_reducible refine Below.drew ?_ | with_reducible exact Below.refl _ _))) hx2
  try simp only [Act.put, List.setIfInBounds_toArray, List.set_cons_zero, List.set_cons_succ, List.getElem_toArray, List.getElem_cons_zero, List.getElem_cons_succ]
  refine hK.out _ _ (HS.out x2 hk2) (fun hS0 => ?_)
  refine wpAnyH_ready (rs := [4]) (by kernel_rfl) (by simp) ?_
  refine AllReadyH.cons rfl (fun K' hK => ?_) AllReadyH.nil
  go_simp
  go_at_call 93
  refine (CF.out _ (HW.out _ (by (repeat (first | with_reducible assumption | with_reducible refine below_new ?_ _ | with_reducible refine Below.drew ?_ | with_reducible exact Below.refl _ _))))).mono ?_
  rintro e x3 ⟨rfl, hx3⟩
  have hk3 : Below wv.heap.size wv x3 := below_next (by (repeat (first | with_reducible assumption | with_reducible refine below_new ?_ _ | with_reducible refine Below.drew ?_ | with_reducible exact Below.refl _ _))) hx3
  try simp only [Act.put, List.setIfInBounds_toArray, List.set_cons_zero, List.set_cons_succ, List.getElem_toArray, List.getElem_cons_zero, List.getElem_cons_succ]
  refine hK.out _ _ (HS.out x3 hk3) (fun hS0 => ?_)
  refine wpAnyH_ready (rs := [9]) (by kernel_rfl) (by simp) ?_
  refine AllReadyH.cons rfl (fun K' hK => ?_) AllReadyH.nil
  go_simp
  go_at_call 60
  refine (CN.out _).mono ?_
  rintro e x4 ⟨rfl, rfl⟩
  try simp only [Act.put, List.setIfInBounds_toArray, List.set_cons_zero, List.set_cons_succ, List.getElem_toArray, List.getElem_cons_zero, List.getElem_cons_succ]
  refine hK.out _ _ (HS.out _ hk3) (fun hS0 => ?_)
  refine wpAnyH_ready (rs := [10]) (by kernel_rfl) (by simp) ?_
  refine AllReadyH.cons rfl (fun K' hK => ?_) AllReadyH.nil
  go_simp
  try simp only [Act.put, List.setIfInBounds_toArray, List.set_cons_zero, List.set_cons_succ, List.getElem_toArray, List.getElem_cons_zero, List.getElem_cons_succ]
  have hk5 : Below wv.heap.size wv (x3.alloc (.cells #[.int .i64 cf, .int .i64 cn] 3)) := hk3.alloc hk3.size _
  have CO := kept (or2_any x3.heap.size cf cn (x3.alloc (.cells #[.int .i64 cf, .int .i64 cn] 3)) (by simp) (by simp))
  refine hK.out _ _ (HS.out _ hk5) (fun hS0 => ?_)
  refine wpAnyH_ready (rs := [11]) (by kernel_rfl) (by simp) ?_
  refine AllReadyH.cons rfl (fun K' hK => ?_) AllReadyH.nil
  go_simp
  go_at_call 92
  refine CO.out.mono ?_
  rintro e x6 ⟨rfl, rfl⟩
  try simp only [Act.put, List.setIfInBounds_toArray, List.set_cons_zero, List.set_cons_succ, List.getElem_toArray, List.getElem_cons_zero, List.getElem_cons_succ]
  refine hK.out _ _ (HS.out _ hk5) (fun hS0 => ?_)
  refine wpAnyH_take (i := 12) (v := ?_) rfl (by kernel_rfl) (by kernel_rfl) (by kernel_rfl) (fun _ _ _ h => h) (Or.inl ⟨by rfl, ?_⟩) hS0 ?_
  case refine_2 => (intro W hSW; go_simp; try with_reducible rfl)
  try simp only [Act.put, List.setIfInBounds_toArray, List.set_cons_zero, List.set_cons_succ, List.getElem_toArray, List.getElem_cons_zero, List.getElem_cons_succ]
  refine wpAnyH_done (by kernel_rfl) (NoPanic.normal ?_) _
  go_wp2_with fail
  go_ret
  exact ⟨rfl, HW.out _ hk5⟩
set_option maxRecDepth 100000 in
set_option maxHeartbeats 4000000 in
theorem rlcmp_any (a b : CardM) (w : World) (ha : a.Ok w w.heap.size) (hb : b.Ok w w.heap.size) (sa : (titleOf a.ls).size ≤ 4294967000) (sb : (titleOf b.ls).size ≤ 4294967000) :
    Calls Tryz.prog 76 #[a.val, b.val] w fun e w' => e = .returned (.int .i64 (cmpC a b)) ∧ Below w.heap.size w w' := by
  have CTA := kept (fun (W : World) (h : Below w.heap.size w W) => rtitle_any a W (ha.next h))
  have CTB := kept (fun (W : World) (h : Below w.heap.size w W) => rtitle_any b W (hb.next h))
  have CF := kept (fun (W : World) => Fold.rcmp_any (titleOf a.ls) (titleOf b.ls) W sa sb)
  obtain ⟨acid, aX, als, ac⟩ := a
  obtain ⟨bcid, bX, bls, bc⟩ := b
  unfold cmpC
  clear ha hb sa sb
  have hb0 : Below w.heap.size w ((w.alloc (.cells #[.int .u64 (acid : Int), .slice aX als.length ac] 31)).alloc (.cells #[.int .u64 (bcid : Int), .slice bX bls.length bc] 31)) := ((Below.refl _ _).alloc (Nat.le_refl _) _).alloc (by simp) _
  have hka : Blk ((w.alloc (.cells #[.int .u64 (acid : Int), .slice aX als.length ac] 31)).alloc (.cells #[.int .u64 (bcid : Int), .slice bX bls.length bc] 31)) w.heap.size [.int .u64 (acid : Int), .slice aX als.length ac] 31 := (Blk.new w _ _).alloc _
  have hkb : Blk ((w.alloc (.cells #[.int .u64 (acid : Int), .slice aX als.length ac] 31)).alloc (.cells #[.int .u64 (bcid : Int), .slice bX bls.length bc] 31)) (w.heap.size + 1) [.int .u64 (bcid : Int), .slice bX bls.length bc] 31 := Blk.newAt _ _ _ (by simp)
  unfold CardM.val at CTA CTB
  unfold CardM.val
  dsimp only at CTA CTB CF ⊢
  generalize titleOf als = ta at *
  generalize titleOf bls = tb at *
  generalize cmpF ta tb = cf at *
  go_enter Tryz.func76, Tryz.ntmps76
  go_upto_region 1 with fail
  generalize hwv : (w.alloc (.cells #[.int .u64 (acid : Int), .slice aX als.length ac] 31)).alloc (.cells #[.int .u64 (bcid : Int), .slice bX bls.length bc] 31) = wv at *
  clear hwv
  have HB0 := kept hb0
  have HKA := kept hka
  have HKB := kept hkb
  clear hb0 hka hkb
  have HW : Kept (∀ W, Below wv.heap.size wv W → Below w.heap.size w W) := ⟨fun W h => HB0.out.trans (h.mono HB0.out.size)⟩
  have HS : Kept (∀ W, Below wv.heap.size wv W → W.cell? ⟨w.heap.size, 0, none⟩ = some (.int .u64 (acid : Int)) ∧ W.cell? ⟨w.heap.size, 1, none⟩ = some (.slice aX als.length ac) ∧ W.cell? ⟨w.heap.size + 1, 0, none⟩ = some (.int .u64 (bcid : Int)) ∧ W.cell? ⟨w.heap.size + 1, 1, none⟩ = some (.slice bX bls.length bc)) := ⟨fun W h => ⟨(HKA.out.next h).cell (j := 0) rfl, (HKA.out.next h).cell (j := 1) rfl, (HKB.out.next h).cell (j := 0) rfl, (HKB.out.next h).cell (j := 1) rfl⟩⟩
  have hd0 : Below wv.heap.size wv wv := Below.refl _ _
  go_cut [5] (fun v wr => v = .int .i64 cf ∧ Kept (Below wv.heap.size wv wr))
  case first =>
    refine wp_region_noPanic ?_
    refine wp_region_held_drew (S := fun W => W.cell? ⟨w.heap.size, 0, none⟩ = some (.int .u64 (acid : Int)) ∧ W.cell? ⟨w.heap.size, 1, none⟩ = some (.slice aX als.length ac) ∧ W.cell? ⟨w.heap.size + 1, 0, none⟩ = some (.int .u64 (bcid : Int)) ∧ W.cell? ⟨w.heap.size + 1, 1, none⟩ = some (.slice bX bls.length bc)) (by kernel_rfl) (HS.out _ (by (repeat (first | with_reducible assumption | with_reducible refine below_new ?_ _ | with_reducible refine Below.drew ?_ | with_reducible exact Below.refl _ _)))) (fun hS0 => ?_)
    refine wpAnyH_take (i := 0) (v := ?_) rfl (by kernel_rfl) (by kernel_rfl) (by kernel_rfl) (fun _ _ _ h => h) (Or.inl ⟨by rfl, ?_⟩) hS0 ?_
    case refine_2 => (intro W hSW; obtain ⟨z0, z1, z2, z3⟩ := hSW; go_simp; try with_reducible rfl)
    try simp only [Act.put, List.setIfInBounds_toArray, List.set_cons_zero, List.set_cons_succ, List.getElem_toArray, List.getElem_cons_zero, List.getElem_cons_succ]
    refine wpAnyH_take (i := 2) (v := ?_) rfl (by kernel_rfl) (by kernel_rfl) (by kernel_rfl) (fun _ _ _ h => h) (Or.inl ⟨by rfl, ?_⟩) hS0 ?_
    case refine_2 => (intro W hSW; obtain ⟨z0, z1, z2, z3⟩ := hSW; go_simp; try with_reducible rfl)
    try simp only [Act.put, List.setIfInBounds_toArray, List.set_cons_zero, List.set_cons_succ, List.getElem_toArray, List.getElem_cons_zero, List.getElem_cons_succ]
    refine wpAnyH_ready (rs := [1]) (by kernel_rfl) (by simp) ?_
    refine AllReadyH.cons rfl (fun K' hK => ?_) AllReadyH.nil
    go_simp
    go_at_call 51
    refine (CTA.out _ (HW.out _ (by (repeat (first | with_reducible assumption | with_reducible refine below_new ?_ _ | with_reducible refine Below.drew ?_ | with_reducible exact Below.refl _ _))))).mono ?_
    rintro e x1 ⟨rfl, hx1⟩
    have hk1 : Below wv.heap.size wv x1 := below_next (by (repeat (first | with_reducible assumption | with_reducible refine below_new ?_ _ | with_reducible refine Below.drew ?_ | with_reducible exact Below.refl _ _))) hx1
    try simp only [Act.put, List.setIfInBounds_toArray, List.set_cons_zero, List.set_cons_succ, List.getElem_toArray, List.getElem_cons_zero, List.getElem_cons_succ]
    refine hK.out _ _ (HS.out x1 hk1) (fun hS0 => ?_)
    refine wpAnyH_ready (rs := [3]) (by kernel_rfl) (by simp) ?_
    refine AllReadyH.cons rfl (fun K' hK => ?_) AllReadyH.nil
    go_simp
    go_at_call 51
    refine (CTB.out _ (HW.out _ (by (repeat (first | with_reducible assumption | with_reducible refine below_new ?_ _ | with_reducible refine Below.drew ?_ | with_reducible exact Below.refl _ _))))).mono ?_
    rintro e x2 ⟨rfl, hx2⟩
    have hk2 : Below wv.heap.size wv x2 := below_next (by (repeat (first | with_reducible assumption | with_reducible refine below_new ?_ _ | with_reducible refine Below.drew ?_ | with_reducible exact Below.refl _ _))) hx2
    try simp only [Act.put, List.setIfInBounds_toArray, List.set_cons_zero, List.set_cons_succ, List.getElem_toArray, List.getElem_cons_zero, List.getElem_cons_succ]
    refine hK.out _ _ (HS.out x2 hk2) (fun hS0 => ?_)
    refine wpAnyH_ready (rs := [4]) (by kernel_rfl) (by simp) ?_
    refine AllReadyH.cons rfl (fun K' hK => ?_) AllReadyH.nil
    go_simp
    go_at_call 95
    refine (CF.out _).mono ?_
    rintro e x3 ⟨rfl, hx3⟩
    have hk3 : Below wv.heap.size wv x3 := below_next (by (repeat (first | with_reducible assumption | with_reducible refine below_new ?_ _ | with_reducible refine Below.drew ?_ | with_reducible exact Below.refl _ _))) hx3
    try simp only [Act.put, List.setIfInBounds_toArray, List.set_cons_zero, List.set_cons_succ, List.getElem_toArray, List.getElem_cons_zero, List.getElem_cons_succ]
    refine hK.out _ _ (HS.out x3 hk3) (fun hS0 => ?_)
    refine wpAnyH_take (i := 5) (v := ?_) rfl (by kernel_rfl) (by kernel_rfl) (by kernel_rfl) (fun _ _ _ h => h) (Or.inl ⟨by rfl, ?_⟩) hS0 ?_
    case refine_2 => (intro W hSW; go_simp; try with_reducible rfl)
    try simp only [Act.put, List.setIfInBounds_toArray, List.set_cons_zero, List.set_cons_succ, List.getElem_toArray, List.getElem_cons_zero, List.getElem_cons_succ]
    refine wpAnyH_done (by kernel_rfl) (NoPanic.normal ?_) _
    go_wp2_with fail
    go_meet
    exact ⟨rfl, ⟨hk3⟩⟩
  case rest =>
    obtain ⟨rfl, hcut⟩ := hcut
    obtain ⟨z0, z1, z2, z3⟩ := HS.out wc hcut.out
    have HF := kept (HW.out _ hcut.out)
    obtain ⟨w4, hw4⟩ : ∃ w4 : World, w4 = wc := ⟨_, rfl⟩
    rw [← hw4] at HF z0 z1 z2 z3 ⊢
    clear hw4 hcut HS HW HKA HKB HB0 hd0 CTA CTB CF
    by_cases h0 : cf = 0
    · subst h0
      have hnz : ((0 : Int) != 0) = false := rfl
      rcases Nat.lt_trichotomy acid bcid with h | h | h
      · have h1 : (acid : Int) < (bcid : Int) := by omega
        have HC : Kept (or2 0 (cmpN acid bcid) = -1) := ⟨by unfold or2 cmpN; rw [if_pos rfl, if_pos h]⟩
        go_wp2_with fail
        go_ret
        exact ⟨by rw [HC.out]; rfl, HF.out⟩
      · subst h
        have h1 : ¬ (acid : Int) < (acid : Int) := by omega
        have HC : Kept (or2 0 (cmpN acid acid) = 0) := ⟨by unfold or2 cmpN; simp⟩
        go_wp2_with fail
        go_ret
        exact ⟨by rw [HC.out]; rfl, HF.out⟩
      · have h1 : ¬ (acid : Int) < (bcid : Int) := by omega
        have h2 : (bcid : Int) < (acid : Int) := by omega
        have HC : Kept (or2 0 (cmpN acid bcid) = 1) := ⟨by unfold or2 cmpN; rw [if_pos rfl, if_neg (by omega), if_pos h]⟩
        go_wp2_with fail
        go_ret
        exact ⟨by rw [HC.out]; rfl, HF.out⟩
    · have hnz : (cf != 0) = true := by simpa using h0
      have HC : Kept (or2 cf (cmpN acid bcid) = cf) := ⟨by unfold or2; rw [if_neg h0]⟩
      clear h0
      go_wp2_with fail
      go_ret
      exact ⟨by rw [HC.out]; rfl, HF.out⟩
end Go.Proofs.YtfkfpanhbanljaaGreatDoor.List44
