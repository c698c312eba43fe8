/- Layer 47 (twin): the law TwinSays. (printed by tools/gentsy.py) -/
import Derived.Test.YtfkfpanhbanljaaGreatDoorTwinRGr
import Derived.Test.YtfkfpanhbanljaaGreatDoorSet44
import Derived.Test.YtfkfpanhbanljaaGreatDoorSet28
import Derived.BigQuiet
import Derived.Deep.DeepCutAuto
namespace Go.Proofs.YtfkfpanhbanljaaGreatDoor.Twin
open Go.RowKit Go.Proofs.YtfkfpanhbanljaaGreatDoor.Mem Go.Proofs.YtfkfpanhbanljaaGreatDoor.Card Go.Proofs.YtfkfpanhbanljaaGreatDoor.Fold Go.Proofs.YtfkfpanhbanljaaGreatDoor.Laid

theorem turns_groups (l : List CardM) : sortG (groupsL l.length (cidAt l) (turns l.length (adjB l) l.length)) = sortG (groupsL l.length (cidAt l) (headR (adjB l) l.length 0)) := by
  have ok := headR_ok (n := l.length) (i := l.length) (k := 0) (adjB_symm l) (.inr ⟨Nat.le_refl _, rfl⟩)
  refine sortG_ext (groups_same _ _ _ _ (fun x hx => (turns_ok (n := l.length) (adj := adjB l) l.length x hx).right) (fun x hx => (ok x hx).1) fun x y hx hy => ?_)
  rw [turns_iff (adjB_symm l) hx hy, headR_iff (adjB_symm l) hx hy]
set_option maxRecDepth 100000 in
set_option maxHeartbeats 8000000 in
theorem says_law (X : Option Addr) (l : List CardM) (c : Nat) (w : World) (hr : RdCards w w.heap.size X l) (hc : l.length ≤ c) (hb : c ≤ 4398046511104) (ht : ∀ y ∈ l, ∀ u ∈ y.ls, ∀ q ∈ u.m, q.size ≤ 140737488355000) (hm : ML w) :
    Calls Tryz.prog 5 #[.slice X l.length c] w fun e w' => e = .returned (.bool true) ∧ Below w.heap.size w w' := by
  have CF := kept (tfew_any X l c w hr (by omega))
  by_cases hfw : fewT l
  · rw [decide_eq_true hfw] at CF
    have hn : l.length ≤ 10 := hfw.1
    have HSM := kept (small_of hfw ht)
    have HL := kept hr
    have HM := kept hm
    clear hr ht hm hfw hc hb
    go_enter Tryz.func5, Tryz.ntmps5
    go_wp2_with fail
    refine CF.out.mono ?_
    rintro e w0 ⟨rfl, rfl⟩
    clear CF
    go_wp2_with fail
    obtain ⟨w1, hw1⟩ : ∃ w1 : World, w1 = w := ⟨_, rfl⟩
    have HB1 : Kept (Below w.heap.size w w1) := ⟨by rw [hw1]; exact Below.refl _ _⟩
    rw [← hw1]
    clear hw1
    go_loopw [3] (fun iv wr => ∃ j : Nat, j ≤ l.length ∧ iv = .int .i64 ((j : Int) + 1) ∧ Kept (Below w.heap.size w wr)) (fun iv _ => l.length + 1 - (intOf iv).toNat)
    case atStart => exact ⟨0, Nat.zero_le _, rfl, HB1⟩
    case round =>
      clear HB1
      obtain ⟨j, hj, rfl, HBW⟩ := hrel
      by_cases hlt : j + 1 < l.length
      · have hjn : (j : Int) < (l.length : Int) := by omega
        have hj1n : (j : Int) + 1 < (l.length : Int) := by omega
        have hj0 : (0 : Int) ≤ (j : Int) := by omega
        have hj01 : (0 : Int) ≤ (j : Int) + 1 := by omega
        obtain ⟨x, hx⟩ : ∃ x, l[j]? = some x := ⟨_, List.getElem?_eq_getElem (show j < l.length by omega)⟩
        obtain ⟨y, hy⟩ : ∃ y, l[j + 1]? = some y := ⟨_, List.getElem?_eq_getElem hlt⟩
        obtain ⟨b, o, rfl, hbB, u0, u1, hxo⟩ := card_at HL.out hx
        obtain ⟨b2, o2, e2, -, v0, v1, hyo⟩ := card_at HL.out hy
        obtain ⟨rfl, rfl⟩ : b = b2 ∧ o = o2 := by injection e2 with h1; injection h1 with h2 h3 _; exact ⟨h2, h3⟩
        have hbw := HBW.out
        have HS : Kept (∀ W, Below wr.heap.size wr W → W.cell? ⟨b, o + j * 2, none⟩ = some (.int .u64 (x.cid : Int)) ∧ W.cell? ⟨b, o + j * 2 + 1, none⟩ = some (.slice x.X x.ls.length x.c) ∧ W.cell? ⟨b, o + (j + 1) * 2, none⟩ = some (.int .u64 (y.cid : Int)) ∧ W.cell? ⟨b, o + (j + 1) * 2 + 1, none⟩ = some (.slice y.X y.ls.length y.c)) := ⟨fun W h => by
          have hb := hbw.trans (h.mono hbw.size)
          exact ⟨(hb.cell (p := ⟨b, o + j * 2, none⟩) hbB).trans u0, (hb.cell (p := ⟨b, o + j * 2 + 1, none⟩) hbB).trans u1, (hb.cell (p := ⟨b, o + (j + 1) * 2, none⟩) hbB).trans v0, (hb.cell (p := ⟨b, o + (j + 1) * 2 + 1, none⟩) hbB).trans v1⟩⟩
        have CXY := kept (fun (W : World) (h : Below wr.heap.size wr W) => alike_any x y W (hxo.next (hbw.trans (h.mono hbw.size))) (hyo.next (hbw.trans (h.mono hbw.size))) (HM.out.next (hbw.trans (h.mono hbw.size))) (HSM.out x (List.mem_of_getElem? hx)) (HSM.out y (List.mem_of_getElem? hy)))
        have CRXY := kept (fun (W : World) (h : Below wr.heap.size wr W) => ralike_any x y W (hxo.next (hbw.trans (h.mono hbw.size))) (hyo.next (hbw.trans (h.mono hbw.size))) (HSM.out x (List.mem_of_getElem? hx)) (HSM.out y (List.mem_of_getElem? hy)))
        generalize alikeB x y = p at *
        obtain ⟨xcid, xX, xls, xc⟩ := x
        obtain ⟨ycid, yX, yls, yc⟩ := y
        unfold CardM.val at CXY CRXY
        dsimp only at HS CXY CRXY
        clear e2 u0 u1 v0 v1 hxo hyo hx hy hbw
        have hpp : (p != p) = false := by cases p <;> rfl
        go_upto_region 6 with fail
        go_cut [34] (fun a wr' => a = .bool false ∧ Kept (Below wr.heap.size wr wr'))
        case first =>
          have hd0 : Below wr.heap.size wr wr := Below.refl _ _
          have hw1 : IntKind.i64.wrap (j : Int) = (j : Int) := IntWalk.i64_in _ (by omega)
          have hw2 : IntKind.i64.wrap ((j : Int) + 1 - 1) = (j : Int) := by rw [show (j : Int) + 1 - 1 = (j : Int) by omega]; exact hw1
          have hw3 : ((j : Int) + 1).toNat = j + 1 := by omega
          clear HBW
          refine wp_region_noPanic ?_
          refine wp_region_held_drew (S := fun W => W.cell? ⟨b, o + j * 2, none⟩ = some (.int .u64 (xcid : Int)) ∧ W.cell? ⟨b, o + j * 2 + 1, none⟩ = some (.slice xX xls.length xc) ∧ W.cell? ⟨b, o + (j + 1) * 2, none⟩ = some (.int .u64 (ycid : Int)) ∧ W.cell? ⟨b, o + (j + 1) * 2 + 1, none⟩ = some (.slice yX yls.length yc)) (by kernel_rfl) (HS.out _ (by (repeat (first | with_reducible assumption | with_reducible refine below_new ?_ _ | with_reducible refine Below.drew ?_ | with_reducible exact Below.refl _ _)))) (fun hS0 => ?_)
          refine wpAnyH_take (i := 0) (v := ?_) rfl (by kernel_rfl) (by kernel_rfl) (by kernel_rfl) (fun _ _ _ h => h) (Or.inl ⟨by rfl, ?_⟩) hS0 ?_
          case refine_2 => (intro W hSW; go_simp; try with_reducible rfl)
          try simp only [Act.put, List.setIfInBounds_toArray, List.set_cons_zero, List.set_cons_succ, List.getElem_toArray, List.getElem_cons_zero, List.getElem_cons_succ]
          refine wpAnyH_take (i := 1) (v := ?_) rfl (by kernel_rfl) (by kernel_rfl) (by kernel_rfl) (fun _ _ _ h => h) (Or.inl ⟨by rfl, ?_⟩) hS0 ?_
          case refine_2 => (intro W hSW; go_simp; try with_reducible rfl)
          try simp only [Act.put, List.setIfInBounds_toArray, List.set_cons_zero, List.set_cons_succ, List.getElem_toArray, List.getElem_cons_zero, List.getElem_cons_succ]
          refine wpAnyH_take (i := 2) (v := ?_) rfl (by kernel_rfl) (by kernel_rfl) (by kernel_rfl) (fun _ _ _ h => h) (Or.inl ⟨by rfl, ?_⟩) hS0 ?_
          case refine_2 => (intro W hSW; go_simp; try with_reducible rfl)
          try simp only [Act.put, List.setIfInBounds_toArray, List.set_cons_zero, List.set_cons_succ, List.getElem_toArray, List.getElem_cons_zero, List.getElem_cons_succ]
          refine wpAnyH_take (i := 3) (v := ?_) rfl (by kernel_rfl) (by kernel_rfl) (by kernel_rfl) (fun _ _ _ h => h) (Or.inl ⟨by rfl, ?_⟩) hS0 ?_
          case refine_2 => (intro W hSW; go_simp; try with_reducible rfl)
          try simp only [Act.put, List.setIfInBounds_toArray, List.set_cons_zero, List.set_cons_succ, List.getElem_toArray, List.getElem_cons_zero, List.getElem_cons_succ]
          refine wpAnyH_take (i := 4) (v := ?_) rfl (by kernel_rfl) (by kernel_rfl) (by kernel_rfl) (fun _ _ _ h => h) (Or.inl ⟨by rfl, ?_⟩) hS0 ?_
          case refine_2 => (intro W hSW; obtain ⟨z0, z1, z2, z3⟩ := hSW; go_simp; try with_reducible rfl)
          try simp only [Act.put, List.setIfInBounds_toArray, List.set_cons_zero, List.set_cons_succ, List.getElem_toArray, List.getElem_cons_zero, List.getElem_cons_succ]
          refine wpAnyH_take (i := 5) (v := ?_) rfl (by kernel_rfl) (by kernel_rfl) (by kernel_rfl) (fun _ _ _ h => h) (Or.inl ⟨by rfl, ?_⟩) hS0 ?_
          case refine_2 => (intro W hSW; go_simp; try with_reducible rfl)
          try simp only [Act.put, List.setIfInBounds_toArray, List.set_cons_zero, List.set_cons_succ, List.getElem_toArray, List.getElem_cons_zero, List.getElem_cons_succ]
          refine wpAnyH_take (i := 6) (v := ?_) rfl (by kernel_rfl) (by kernel_rfl) (by kernel_rfl) (fun _ _ _ h => h) (Or.inl ⟨by rfl, ?_⟩) hS0 ?_
          case refine_2 => (intro W hSW; go_simp; try with_reducible rfl)
          try simp only [Act.put, List.setIfInBounds_toArray, List.set_cons_zero, List.set_cons_succ, List.getElem_toArray, List.getElem_cons_zero, List.getElem_cons_succ]
          refine wpAnyH_take (i := 7) (v := ?_) rfl (by kernel_rfl) (by kernel_rfl) (by kernel_rfl) (fun _ _ _ h => h) (Or.inl ⟨by rfl, ?_⟩) hS0 ?_
          case refine_2 => (intro W hSW; go_simp; try with_reducible rfl)
          try simp only [Act.put, List.setIfInBounds_toArray, List.set_cons_zero, List.set_cons_succ, List.getElem_toArray, List.getElem_cons_zero, List.getElem_cons_succ]
          refine wpAnyH_take (i := 8) (v := ?_) rfl (by kernel_rfl) (by kernel_rfl) (by kernel_rfl) (fun _ _ _ h => h) (Or.inl ⟨by rfl, ?_⟩) hS0 ?_
          case refine_2 => (intro W hSW; obtain ⟨z0, z1, z2, z3⟩ := hSW; go_simp; try with_reducible rfl)
          try simp only [Act.put, List.setIfInBounds_toArray, List.set_cons_zero, List.set_cons_succ, List.getElem_toArray, List.getElem_cons_zero, List.getElem_cons_succ]
          refine wpAnyH_take (i := 10) (v := ?_) rfl (by kernel_rfl) (by kernel_rfl) (by kernel_rfl) (fun _ _ _ h => h) (Or.inl ⟨by rfl, ?_⟩) hS0 ?_
          case refine_2 => (intro W hSW; go_simp; try with_reducible rfl)
          try simp only [Act.put, List.setIfInBounds_toArray, List.set_cons_zero, List.set_cons_succ, List.getElem_toArray, List.getElem_cons_zero, List.getElem_cons_succ]
          refine wpAnyH_take (i := 11) (v := ?_) rfl (by kernel_rfl) (by kernel_rfl) (by kernel_rfl) (fun _ _ _ h => h) (Or.inl ⟨by rfl, ?_⟩) hS0 ?_
          case refine_2 => (intro W hSW; go_simp; try with_reducible rfl)
          try simp only [Act.put, List.setIfInBounds_toArray, List.set_cons_zero, List.set_cons_succ, List.getElem_toArray, List.getElem_cons_zero, List.getElem_cons_succ]
          refine wpAnyH_take (i := 12) (v := ?_) rfl (by kernel_rfl) (by kernel_rfl) (by kernel_rfl) (fun _ _ _ h => h) (Or.inl ⟨by rfl, ?_⟩) hS0 ?_
          case refine_2 => (intro W hSW; go_simp; try with_reducible rfl)
          try simp only [Act.put, List.setIfInBounds_toArray, List.set_cons_zero, List.set_cons_succ, List.getElem_toArray, List.getElem_cons_zero, List.getElem_cons_succ]
          refine wpAnyH_take (i := 13) (v := ?_) rfl (by kernel_rfl) (by kernel_rfl) (by kernel_rfl) (fun _ _ _ h => h) (Or.inl ⟨by rfl, ?_⟩) hS0 ?_
          case refine_2 => (intro W hSW; go_simp; try with_reducible rfl)
          try simp only [Act.put, List.setIfInBounds_toArray, List.set_cons_zero, List.set_cons_succ, List.getElem_toArray, List.getElem_cons_zero, List.getElem_cons_succ]
          refine wpAnyH_take (i := 14) (v := ?_) rfl (by kernel_rfl) (by kernel_rfl) (by kernel_rfl) (fun _ _ _ h => h) (Or.inl ⟨by rfl, ?_⟩) hS0 ?_
          case refine_2 => (intro W hSW; obtain ⟨z0, z1, z2, z3⟩ := hSW; go_simp; try with_reducible rfl)
          try simp only [Act.put, List.setIfInBounds_toArray, List.set_cons_zero, List.set_cons_succ, List.getElem_toArray, List.getElem_cons_zero, List.getElem_cons_succ]
          refine wpAnyH_take (i := 15) (v := ?_) rfl (by kernel_rfl) (by kernel_rfl) (by kernel_rfl) (fun _ _ _ h => h) (Or.inl ⟨by rfl, ?_⟩) hS0 ?_
          case refine_2 => (intro W hSW; go_simp; try with_reducible rfl)
          try simp only [Act.put, List.setIfInBounds_toArray, List.set_cons_zero, List.set_cons_succ, List.getElem_toArray, List.getElem_cons_zero, List.getElem_cons_succ]
          refine wpAnyH_take (i := 16) (v := ?_) rfl (by kernel_rfl) (by kernel_rfl) (by kernel_rfl) (fun _ _ _ h => h) (Or.inl ⟨by rfl, ?_⟩) hS0 ?_
          case refine_2 => (intro W hSW; go_simp; try with_reducible rfl)
          try simp only [Act.put, List.setIfInBounds_toArray, List.set_cons_zero, List.set_cons_succ, List.getElem_toArray, List.getElem_cons_zero, List.getElem_cons_succ]
          refine wpAnyH_take (i := 17) (v := ?_) rfl (by kernel_rfl) (by kernel_rfl) (by kernel_rfl) (fun _ _ _ h => h) (Or.inl ⟨by rfl, ?_⟩) hS0 ?_
          case refine_2 => (intro W hSW; go_simp; try with_reducible rfl)
          try simp only [Act.put, List.setIfInBounds_toArray, List.set_cons_zero, List.set_cons_succ, List.getElem_toArray, List.getElem_cons_zero, List.getElem_cons_succ]
          refine wpAnyH_take (i := 18) (v := ?_) rfl (by kernel_rfl) (by kernel_rfl) (by kernel_rfl) (fun _ _ _ h => h) (Or.inl ⟨by rfl, ?_⟩) hS0 ?_
          case refine_2 => (intro W hSW; obtain ⟨z0, z1, z2, z3⟩ := hSW; go_simp; try with_reducible rfl)
          try simp only [Act.put, List.setIfInBounds_toArray, List.set_cons_zero, List.set_cons_succ, List.getElem_toArray, List.getElem_cons_zero, List.getElem_cons_succ]
          refine wpAnyH_ready (rs := [9]) (by kernel_rfl) (by simp) ?_
          refine AllReadyH.cons rfl (fun K' hK => ?_) AllReadyH.nil
          go_simp
          go_at_call 20
          refine (CXY.out _ (by (repeat (first | with_reducible assumption | with_reducible refine below_new ?_ _ | with_reducible refine Below.drew ?_ | with_reducible exact Below.refl _ _)))).mono ?_
          rintro e x1 ⟨rfl, hx1⟩
          have hk1 : Below wr.heap.size wr x1 := below_next (by (repeat (first | with_reducible assumption | with_reducible refine below_new ?_ _ | with_reducible refine Below.drew ?_ | with_reducible exact Below.refl _ _))) hx1
          try simp only [Act.put, List.setIfInBounds_toArray, List.set_cons_zero, List.set_cons_succ, List.getElem_toArray, List.getElem_cons_zero, List.getElem_cons_succ]
          refine hK.out _ _ (HS.out x1 hk1) (fun hS0 => ?_)
          refine wpAnyH_ready (rs := [19]) (by kernel_rfl) (by simp) ?_
          refine AllReadyH.cons rfl (fun K' hK => ?_) AllReadyH.nil
          go_simp
          go_at_call 21
          refine (CRXY.out _ (by (repeat (first | with_reducible assumption | with_reducible refine below_new ?_ _ | with_reducible refine Below.drew ?_ | with_reducible exact Below.refl _ _)))).mono ?_
          rintro e x2 ⟨rfl, hx2⟩
          have hk2 : Below wr.heap.size wr x2 := below_next (by (repeat (first | with_reducible assumption | with_reducible refine below_new ?_ _ | with_reducible refine Below.drew ?_ | with_reducible exact Below.refl _ _))) hx2
          try simp only [Act.put, List.setIfInBounds_toArray, List.set_cons_zero, List.set_cons_succ, List.getElem_toArray, List.getElem_cons_zero, List.getElem_cons_succ]
          refine hK.out _ _ (HS.out x2 hk2) (fun hS0 => ?_)
          refine wpAnyH_take (i := 20) (v := ?_) rfl (by kernel_rfl) (by kernel_rfl) (by kernel_rfl) (fun _ _ _ h => h) (Or.inl ⟨by rfl, ?_⟩) hS0 ?_
          case refine_2 => (intro W hSW; go_simp; try with_reducible rfl)
          try simp only [Act.put, List.setIfInBounds_toArray, List.set_cons_zero, List.set_cons_succ, List.getElem_toArray, List.getElem_cons_zero, List.getElem_cons_succ]
          refine wpAnyH_done (by kernel_rfl) (NoPanic.normal ?_) _
          go_wp2_with fail
          go_meet
          exact ⟨by first | rfl | simp, ⟨(by (repeat (first | with_reducible assumption | with_reducible refine below_new ?_ _ | with_reducible refine Below.drew ?_ | with_reducible exact Below.refl _ _)))⟩⟩
        case rest =>
          obtain ⟨rfl, hcut⟩ := hcut
          have HBC := kept (HBW.out.trans (hcut.out.mono HBW.out.size))
          obtain ⟨w4, hw4⟩ : ∃ w4 : World, w4 = wc := ⟨_, rfl⟩
          rw [← hw4] at HBC ⊢
          clear hw4 hcut HS CXY CRXY HBW
          go_wp2_with fail
          go_roundw
          case rel => exact ⟨j + 1, by omega, by go_num, HBC⟩
          case measure => simp [intOf]; omega
      · have hge : ¬ (j : Int) + 1 < (l.length : Int) := by omega
        have hbw := HBW.out
        have CG1 := kept (groups_any X c l wr (HL.out.next hbw) HSM.out (HM.out.next hbw) hn)
        go_wp2_with fail
        refine CG1.out.mono ?_
        rintro e w5 ⟨A5, c5, g5, rfl, hg5, hcp5, hrd5, hb5⟩
        have hb5w := hbw.trans (hb5.mono hbw.size)
        have CG2 := rgroups_any X c l w5 (HL.out.next hb5w) HSM.out hn
        have HBD := kept (groups_bound hg5)
        rw [turns_groups, ← hg5] at CG2
        have CG2 := kept CG2
        have HRD5 := kept hrd5
        have HB5 := kept hb5w
        clear hrd5 hb5 hb5w hbw CG1 hg5 HBW
        go_wp2_with fail
        refine CG2.out.mono ?_
        rintro e w6 ⟨A6, c6, g6, rfl, hg6, hcp6, hrd6, hb6⟩
        have CS := kept (gsame_true A5 A6 c5 c6 g5 g6 w6 (HRD5.out.next hb6) hrd6 hg6.symm (by have := HBD.out.1; omega) (fun g hg => by have := HBD.out.2 g hg; omega))
        have HB6 := kept (HB5.out.trans (hb6.mono HB5.out.size))
        clear hrd6 hb6 hg6 CG2 HRD5 HB5
        go_wp2_with fail
        refine CS.out.mono ?_
        rintro e w7 ⟨rfl, hb7⟩
        have HB7 := kept (HB6.out.trans (hb7.mono HB6.out.size))
        clear hb7 CS HB6
        go_wp2_with fail
        refine (tworks_any _ (HM.out.next HB7.out)).mono ?_
        rintro e w8 ⟨rfl, hb8⟩
        have HB8 := kept (HB7.out.trans (hb8.mono HB7.out.size))
        clear hb8 HB7
        go_wp2_with fail
        go_ret
        exact ⟨rfl, HB8.out⟩
  · rw [decide_eq_false hfw] at CF
    clear hr ht hfw
    go_enter Tryz.func5, Tryz.ntmps5
    go_wp2_with fail
    refine CF.out.mono ?_
    rintro e w0 ⟨rfl, rfl⟩
    go_wp2_with fail
    refine (tworks_any _ hm).mono ?_
    rintro e w8 ⟨rfl, hb8⟩
    go_wp2_with fail
    go_ret
    exact ⟨rfl, hb8⟩
end Go.Proofs.YtfkfpanhbanljaaGreatDoor.Twin
