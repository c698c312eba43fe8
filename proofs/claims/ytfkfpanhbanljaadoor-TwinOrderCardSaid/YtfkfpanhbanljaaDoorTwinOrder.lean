/- Layer 47 (twin): the law TwinOrder. (printed by tools/gento.py) -/
import Derived.Test.YtfkfpanhbanljaaDoorTwinWorks
import Derived.Test.YtfkfpanhbanljaaDoorHeldCall
import Derived.Test.YtfkfpanhbanljaaDoorSet13
import Derived.BigQuiet
import Derived.Deep.DeepCutAuto
namespace Go.Proofs.YtfkfpanhbanljaaDoor.Twin
open Go.RowKit Go.Proofs.YtfkfpanhbanljaaDoor.Mem Go.Proofs.YtfkfpanhbanljaaDoor.Card Go.Proofs.YtfkfpanhbanljaaDoor.Fold Go.Proofs.YtfkfpanhbanljaaDoor.Laid

theorem groups_bound {n : Nat} {cid R : Nat → Nat} {gs : List GrpM} (h : gs.map GrpM.l = sortG (groupsL n cid R)) : gs.length ≤ n ∧ ∀ g ∈ gs, g.l.length ≤ n := by
  have hp := sortG_perm (groupsL n cid R)
  constructor
  · have h1 := congrArg List.length h
    rw [List.length_map, hp.length_eq] at h1
    rw [h1]
    unfold groupsL
    exact Nat.le_trans (List.length_filter_le _ _) (by simp)
  · intro g hg
    have h1 : g.l ∈ sortG (groupsL n cid R) := by rw [← h]; exact List.mem_map_of_mem hg
    have h2 := hp.mem_iff.1 h1
    unfold groupsL at h2
    obtain ⟨m, -, h3⟩ := List.mem_map.1 (List.mem_filter.1 h2).1
    rw [← h3, class_inG]
    exact Nat.le_trans (norm_len _) (inG_len _ _ _ _)
theorem same_symm (x y : ByteArray) : Phone.sameB x y = Phone.sameB y x := Phone.same_comm _ _
theorem small_of {l : List CardM} (hf : fewT l) (ht : ∀ y ∈ l, ∀ u ∈ y.ls, ∀ q ∈ u.m, q.size ≤ 140737488355000) : ∀ x ∈ l, SmallK x := fun x hx => by
  have h := hf.2.2 x hx
  exact ⟨h.1, fun z hz => ⟨by have := (h.2 z hz).1; omega, (h.2 z hz).2, ht x hx z hz⟩⟩
theorem turn_tmod {n i f : Nat} (hi : i < n) : Int.tmod ((n : Int) - 1 - (i : Int) + (f : Int)) (n : Int) = ((turnP n f i : Nat) : Int) := by
  rw [show (n : Int) - 1 - (i : Int) + (f : Int) = ((n - 1 - i + f : Nat) : Int) by omega]
  unfold turnP
  exact (Int.ofNat_tmod _ _).symm
set_option maxRecDepth 100000 in
set_option maxHeartbeats 8000000 in
theorem order_law (X : Option Addr) (l : List CardM) (c : Nat) (f : Nat) (w : World) (hr : RdCards w w.heap.size X l) (hc : l.length ≤ c) (hb : c ≤ 4398046511104) (ht : ∀ y ∈ l, ∀ u ∈ y.ls, ∀ q ∈ u.m, q.size ≤ 140737488355000) (hm : ML w) (hfr : f < 256) :
    Calls Tryd.prog 7 #[.slice X l.length c, .int .u8 (f : Int)] w fun e w' => e = .returned (.bool true) ∧ Below w.heap.size w w' := by
  have CF := kept (tfew_any X l c w hr (by omega))
  by_cases hfw : fewT l
  · rw [decide_eq_true hfw] at CF
    have hn : l.length ≤ 10 := hfw.1
    have HSM := kept (small_of hfw ht)
    have HL := kept hr
    have HM := kept hm
    clear hr ht hm hfw hc hb
    go_enter Tryd.func7, Tryd.ntmps7
    go_wp2_with fail
    refine CF.out.mono ?_
    rintro e w0 ⟨rfl, rfl⟩
    clear CF
    go_wp2_with fail
    go_loopw [5, 6] (fun mv iv wr => ∃ (i : Nat) (A : Option Addr) (cm : Nat) (m : List CardM), i ≤ l.length ∧ mv = .slice A m.length cm ∧ iv = .int .i64 (i : Int) ∧ Kept (m = (turned f l).take i) ∧ Kept (cardE.Own wr w.heap.size 28 (.slice A m.length cm) m ∧ Below w.heap.size w wr)) (fun _ iv _ => l.length - (intOf iv).toNat)
    case atStart => exact ⟨0, none, 0, [], Nat.zero_le _, rfl, rfl, ⟨rfl⟩, ⟨Elem.Own.nilv _ _ _ _, Below.refl _ _⟩⟩
    case round =>
      obtain ⟨i, A, cm, m, hi, rfl, rfl, HMT, HMO⟩ := hrel
      by_cases hlt : i < l.length
      · have hin : (i : Int) < (l.length : Int) := by omega
        have hpi : turnP l.length f i < l.length := turn_lt hlt
        have hpin : ((turnP l.length f i : Nat) : Int) < (l.length : Int) := by omega
        have htm := turn_tmod (f := f) hlt
        have hne : ¬ (l.length : Int) = 0 := by omega
        have hne2 : ¬ l.length = 0 := by omega
        have hzl : (0 : Int) < (l.length : Int) := by omega
        have hz0 : 0 < l.length := by omega
        obtain ⟨z, hz⟩ : ∃ z, l[turnP l.length f i]? = some z := ⟨_, List.getElem?_eq_getElem hpi⟩
        obtain ⟨x, hx⟩ : ∃ x, l[i]? = some x := ⟨_, List.getElem?_eq_getElem hlt⟩
        obtain ⟨y, hy⟩ : ∃ y, l[0]? = some y := ⟨_, List.getElem?_eq_getElem (show 0 < l.length by omega)⟩
        obtain ⟨b, o, rfl, hbB, p0, p1, hzo⟩ := card_at HL.out hz
        obtain ⟨b2, o2, e2, -, u0, u1, hxo⟩ := card_at HL.out hx
        obtain ⟨rfl, rfl⟩ : b = b2 ∧ o = o2 := by injection e2 with h1; injection h1 with h2 h3 _; exact ⟨h2, h3⟩
        obtain ⟨b2, o2, e3, -, v0, v1, hyo⟩ := card_at HL.out hy
        obtain ⟨rfl, rfl⟩ : b = b2 ∧ o = o2 := by injection e3 with h1; injection h1 with h2 h3 _; exact ⟨h2, h3⟩
        rw [show o + 0 * 2 = o by omega] at v0 v1
        have hbw := HMO.out.2
        have q0 := (hbw.cell (p := ⟨b, o + turnP l.length f i * 2, none⟩) hbB).trans p0
        have q1 := (hbw.cell (p := ⟨b, o + turnP l.length f i * 2 + 1, none⟩) hbB).trans p1
        have HNX := kept (turned_next (f := f) hlt hz)
        have HOK := kept (And.intro hxo hyo)
        have HXY := kept (And.intro (HSM.out x (List.mem_of_getElem? hx)) (HSM.out y (List.mem_of_getElem? hy)))
        have HCL := kept (And.intro (And.intro u0 u1) (And.intro v0 v1))
        have hml : m.length ≤ 10 := by rw [HMT.out]; exact Nat.le_trans (List.length_take_le _ _) (by omega)
        obtain ⟨zcid, zX, zls, zc⟩ := z
        dsimp only at q0 q1 HNX
        have hrn : cardE.Rd (wr.alloc (.cells #[.int .u64 (zcid : Int), .slice zX zls.length zc] 28)) (wr.heap.size + 1) (some ⟨wr.heap.size, 0, none⟩) [⟨zcid, zX, zls, zc⟩] := Mem.Rd.new wr [.int .u64 (zcid : Int), .slice zX zls.length zc] 28
        have hzz : (m.length + [(⟨zcid, zX, zls, zc⟩ : CardM)].length) * 32 ≤ 140737488355328 := by simp; omega
        have hnb : Below wr.heap.size wr (wr.alloc (.cells #[.int .u64 (zcid : Int), .slice zX zls.length zc] 28)) := (Below.refl _ _).alloc (Nat.le_refl _) _
        have hoB := HMO.out.1.next hnb
        have hbase : w.heap.size ≤ (wr.alloc (.cells #[.int .u64 (zcid : Int), .slice zX zls.length zc] 28)).heap.size := Nat.le_trans hbw.size hnb.size
        clear hz hx hy p0 p1 hzo e2 e3 u0 u1 v0 v1 hxo hyo
        generalize turnP l.length f i = pi at *
        go_wp2_with (at_builtin; refine wpl_appEU _ cardE rfl (.tmp 17) (.tmp 32) 22 rfl w.heap.size 28 Tryd.underlying22 Chg.card_info rfl _ m rfl hoB _ _ _ _ [⟨zcid, zX, zls, zc⟩] rfl rfl hrn hzz (by decide) hbase ?_; intro A9 c9 w9 r9 hr9 hown9 hu9 hx9)
        have HB9 : Kept (Below w.heap.size w w9) := ⟨(hbw.trans (hnb.mono hbw.size)).trans ((hu9 _ fun _ e => e).below hbase fun k _ e => (hoB.lt k e).1)⟩
        have HO9 := kept hown9
        have HR9 : Kept (r9 = (turned f l).take (i + 1)) := ⟨by rw [hr9.out, HMT.out, HNX.out]⟩
        clear hr9 hown9 hu9 hx9 hrn hzz hnb hoB hbase hbw q0 q1 HMO HMT HNX hml
        have HS : Kept (∀ W, Below w9.heap.size w9 W → W.cell? ⟨b, o + i * 2, none⟩ = some (.int .u64 (x.cid : Int)) ∧ W.cell? ⟨b, o + i * 2 + 1, none⟩ = some (.slice x.X x.ls.length x.c) ∧ W.cell? ⟨b, o, none⟩ = some (.int .u64 (y.cid : Int)) ∧ W.cell? ⟨b, o + 1, none⟩ = some (.slice y.X y.ls.length y.c)) := ⟨fun W h => by
          have hb := HB9.out.trans (h.mono HB9.out.size)
          exact ⟨(hb.cell (p := ⟨b, o + i * 2, none⟩) hbB).trans HCL.out.1.1, (hb.cell (p := ⟨b, o + i * 2 + 1, none⟩) hbB).trans HCL.out.1.2, (hb.cell (p := ⟨b, o, none⟩) hbB).trans HCL.out.2.1, (hb.cell (p := ⟨b, o + 1, none⟩) hbB).trans HCL.out.2.2⟩⟩
        have CXY := kept (fun (W : World) (h : Below w9.heap.size w9 W) => alike_any x y W (HOK.out.1.next (HB9.out.trans (h.mono HB9.out.size))) (HOK.out.2.next (HB9.out.trans (h.mono HB9.out.size))) (HM.out.next (HB9.out.trans (h.mono HB9.out.size))) HXY.out.1 HXY.out.2)
        have CYX := kept (fun (W : World) (h : Below w9.heap.size w9 W) => alike_any y x W (HOK.out.2.next (HB9.out.trans (h.mono HB9.out.size))) (HOK.out.1.next (HB9.out.trans (h.mono HB9.out.size))) (HM.out.next (HB9.out.trans (h.mono HB9.out.size))) HXY.out.2 HXY.out.1)
        have hps := alike_symm same_symm y x
        rw [hps] at CYX
        generalize alikeB x y = p at *
        obtain ⟨xcid, xX, xls, xc⟩ := x
        obtain ⟨ycid, yX, yls, yc⟩ := y
        unfold CardM.val at CXY CYX
        dsimp only at HS CXY CYX
        clear hps HOK HXY HCL
        have hpp : (p != p) = false := by cases p <;> rfl
        go_upto_region 8 with fail
        obtain ⟨wr, hwr⟩ : ∃ wr : World, wr = w9 := ⟨_, rfl⟩
        rw [← hwr] at HS CXY CYX HB9 HO9 ⊢
        clear hwr w9
        go_cut [50] (fun a wr' => a = .bool false ∧ Kept (Below wr.heap.size wr wr'))
        case first =>
          have hd0 : Below wr.heap.size wr wr := Below.refl _ _
          clear HO9 HR9 HB9
          refine wp_region_noPanic ?_
          refine wp_region_held_drew (S := fun W => W.cell? ⟨b, o + i * 2, none⟩ = some (.int .u64 (xcid : Int)) ∧ W.cell? ⟨b, o + i * 2 + 1, none⟩ = some (.slice xX xls.length xc) ∧ W.cell? ⟨b, o, none⟩ = some (.int .u64 (ycid : Int)) ∧ W.cell? ⟨b, o + 1, none⟩ = some (.slice yX yls.length yc)) (by kernel_rfl) (HS.out _ (by (repeat (first | with_reducible assumption | with_reducible refine below_new ?_ _ | with_reducible refine Below.drew ?_ | with_reducible exact Below.refl _ _)))) (fun hS0 => ?_)
          refine wpAnyH_take (i := 0) (v := ?_) rfl (by kernel_rfl) (by kernel_rfl) (by kernel_rfl) (fun _ _ _ h => h) (Or.inl ⟨by rfl, ?_⟩) hS0 ?_
          case refine_2 => (intro W hSW; go_simp; try with_reducible rfl)
          try simp only [Act.put, List.setIfInBounds_toArray, List.set_cons_zero, List.set_cons_succ, List.getElem_toArray, List.getElem_cons_zero, List.getElem_cons_succ]
          refine wpAnyH_take (i := 1) (v := ?_) rfl (by kernel_rfl) (by kernel_rfl) (by kernel_rfl) (fun _ _ _ h => h) (Or.inl ⟨by rfl, ?_⟩) hS0 ?_
          case refine_2 => (intro W hSW; go_simp; try with_reducible rfl)
          try simp only [Act.put, List.setIfInBounds_toArray, List.set_cons_zero, List.set_cons_succ, List.getElem_toArray, List.getElem_cons_zero, List.getElem_cons_succ]
          refine wpAnyH_take (i := 2) (v := ?_) rfl (by kernel_rfl) (by kernel_rfl) (by kernel_rfl) (fun _ _ _ h => h) (Or.inl ⟨by rfl, ?_⟩) hS0 ?_
          case refine_2 => (intro W hSW; go_simp; try with_reducible rfl)
          try simp only [Act.put, List.setIfInBounds_toArray, List.set_cons_zero, List.set_cons_succ, List.getElem_toArray, List.getElem_cons_zero, List.getElem_cons_succ]
          refine wpAnyH_take (i := 3) (v := ?_) rfl (by kernel_rfl) (by kernel_rfl) (by kernel_rfl) (fun _ _ _ h => h) (Or.inl ⟨by rfl, ?_⟩) hS0 ?_
          case refine_2 => (intro W hSW; obtain ⟨z0, z1, z2, z3⟩ := hSW; go_simp; try with_reducible rfl)
          try simp only [Act.put, List.setIfInBounds_toArray, List.set_cons_zero, List.set_cons_succ, List.getElem_toArray, List.getElem_cons_zero, List.getElem_cons_succ]
          refine wpAnyH_take (i := 4) (v := ?_) rfl (by kernel_rfl) (by kernel_rfl) (by kernel_rfl) (fun _ _ _ h => h) (Or.inl ⟨by rfl, ?_⟩) hS0 ?_
          case refine_2 => (intro W hSW; go_simp; try with_reducible rfl)
          try simp only [Act.put, List.setIfInBounds_toArray, List.set_cons_zero, List.set_cons_succ, List.getElem_toArray, List.getElem_cons_zero, List.getElem_cons_succ]
          refine wpAnyH_take (i := 5) (v := ?_) rfl (by kernel_rfl) (by kernel_rfl) (by kernel_rfl) (fun _ _ _ h => h) (Or.inl ⟨by rfl, ?_⟩) hS0 ?_
          case refine_2 => (intro W hSW; go_simp; try with_reducible rfl)
          try simp only [Act.put, List.setIfInBounds_toArray, List.set_cons_zero, List.set_cons_succ, List.getElem_toArray, List.getElem_cons_zero, List.getElem_cons_succ]
          refine wpAnyH_take (i := 6) (v := ?_) rfl (by kernel_rfl) (by kernel_rfl) (by kernel_rfl) (fun _ _ _ h => h) (Or.inl ⟨by rfl, ?_⟩) hS0 ?_
          case refine_2 => (intro W hSW; obtain ⟨z0, z1, z2, z3⟩ := hSW; go_simp; try with_reducible rfl)
          try simp only [Act.put, List.setIfInBounds_toArray, List.set_cons_zero, List.set_cons_succ, List.getElem_toArray, List.getElem_cons_zero, List.getElem_cons_succ]
          refine wpAnyH_take (i := 8) (v := ?_) rfl (by kernel_rfl) (by kernel_rfl) (by kernel_rfl) (fun _ _ _ h => h) (Or.inl ⟨by rfl, ?_⟩) hS0 ?_
          case refine_2 => (intro W hSW; go_simp; try with_reducible rfl)
          try simp only [Act.put, List.setIfInBounds_toArray, List.set_cons_zero, List.set_cons_succ, List.getElem_toArray, List.getElem_cons_zero, List.getElem_cons_succ]
          refine wpAnyH_take (i := 9) (v := ?_) rfl (by kernel_rfl) (by kernel_rfl) (by kernel_rfl) (fun _ _ _ h => h) (Or.inl ⟨by rfl, ?_⟩) hS0 ?_
          case refine_2 => (intro W hSW; go_simp; try with_reducible rfl)
          try simp only [Act.put, List.setIfInBounds_toArray, List.set_cons_zero, List.set_cons_succ, List.getElem_toArray, List.getElem_cons_zero, List.getElem_cons_succ]
          refine wpAnyH_take (i := 10) (v := ?_) rfl (by kernel_rfl) (by kernel_rfl) (by kernel_rfl) (fun _ _ _ h => h) (Or.inl ⟨by rfl, ?_⟩) hS0 ?_
          case refine_2 => (intro W hSW; obtain ⟨z0, z1, z2, z3⟩ := hSW; go_simp; try with_reducible rfl)
          try simp only [Act.put, List.setIfInBounds_toArray, List.set_cons_zero, List.set_cons_succ, List.getElem_toArray, List.getElem_cons_zero, List.getElem_cons_succ]
          refine wpAnyH_take (i := 11) (v := ?_) rfl (by kernel_rfl) (by kernel_rfl) (by kernel_rfl) (fun _ _ _ h => h) (Or.inl ⟨by rfl, ?_⟩) hS0 ?_
          case refine_2 => (intro W hSW; go_simp; try with_reducible rfl)
          try simp only [Act.put, List.setIfInBounds_toArray, List.set_cons_zero, List.set_cons_succ, List.getElem_toArray, List.getElem_cons_zero, List.getElem_cons_succ]
          refine wpAnyH_take (i := 12) (v := ?_) rfl (by kernel_rfl) (by kernel_rfl) (by kernel_rfl) (fun _ _ _ h => h) (Or.inl ⟨by rfl, ?_⟩) hS0 ?_
          case refine_2 => (intro W hSW; go_simp; try with_reducible rfl)
          try simp only [Act.put, List.setIfInBounds_toArray, List.set_cons_zero, List.set_cons_succ, List.getElem_toArray, List.getElem_cons_zero, List.getElem_cons_succ]
          refine wpAnyH_take (i := 13) (v := ?_) rfl (by kernel_rfl) (by kernel_rfl) (by kernel_rfl) (fun _ _ _ h => h) (Or.inl ⟨by rfl, ?_⟩) hS0 ?_
          case refine_2 => (intro W hSW; go_simp; try with_reducible rfl)
          try simp only [Act.put, List.setIfInBounds_toArray, List.set_cons_zero, List.set_cons_succ, List.getElem_toArray, List.getElem_cons_zero, List.getElem_cons_succ]
          refine wpAnyH_take (i := 14) (v := ?_) rfl (by kernel_rfl) (by kernel_rfl) (by kernel_rfl) (fun _ _ _ h => h) (Or.inl ⟨by rfl, ?_⟩) hS0 ?_
          case refine_2 => (intro W hSW; obtain ⟨z0, z1, z2, z3⟩ := hSW; go_simp; try with_reducible rfl)
          try simp only [Act.put, List.setIfInBounds_toArray, List.set_cons_zero, List.set_cons_succ, List.getElem_toArray, List.getElem_cons_zero, List.getElem_cons_succ]
          refine wpAnyH_ready (rs := [7]) (by kernel_rfl) (by simp) ?_
          refine AllReadyH.cons rfl (fun K' hK => ?_) AllReadyH.nil
          go_simp
          go_at_call 29
          refine (CXY.out _ (by (repeat (first | with_reducible assumption | with_reducible refine below_new ?_ _ | with_reducible refine Below.drew ?_ | with_reducible exact Below.refl _ _)))).mono ?_
          rintro e x1 ⟨rfl, hx1⟩
          have hk1 : Below wr.heap.size wr x1 := below_next (by (repeat (first | with_reducible assumption | with_reducible refine below_new ?_ _ | with_reducible refine Below.drew ?_ | with_reducible exact Below.refl _ _))) hx1
          try simp only [Act.put, List.setIfInBounds_toArray, List.set_cons_zero, List.set_cons_succ, List.getElem_toArray, List.getElem_cons_zero, List.getElem_cons_succ]
          refine hK.out _ _ (HS.out x1 hk1) (fun hS0 => ?_)
          refine wpAnyH_ready (rs := [15]) (by kernel_rfl) (by simp) ?_
          refine AllReadyH.cons rfl (fun K' hK => ?_) AllReadyH.nil
          go_simp
          go_at_call 29
          refine (CYX.out _ (by (repeat (first | with_reducible assumption | with_reducible refine below_new ?_ _ | with_reducible refine Below.drew ?_ | with_reducible exact Below.refl _ _)))).mono ?_
          rintro e x2 ⟨rfl, hx2⟩
          have hk2 : Below wr.heap.size wr x2 := below_next (by (repeat (first | with_reducible assumption | with_reducible refine below_new ?_ _ | with_reducible refine Below.drew ?_ | with_reducible exact Below.refl _ _))) hx2
          try simp only [Act.put, List.setIfInBounds_toArray, List.set_cons_zero, List.set_cons_succ, List.getElem_toArray, List.getElem_cons_zero, List.getElem_cons_succ]
          refine hK.out _ _ (HS.out x2 hk2) (fun hS0 => ?_)
          refine wpAnyH_take (i := 16) (v := ?_) rfl (by kernel_rfl) (by kernel_rfl) (by kernel_rfl) (fun _ _ _ h => h) (Or.inl ⟨by rfl, ?_⟩) hS0 ?_
          case refine_2 => (intro W hSW; go_simp; try with_reducible rfl)
          try simp only [Act.put, List.setIfInBounds_toArray, List.set_cons_zero, List.set_cons_succ, List.getElem_toArray, List.getElem_cons_zero, List.getElem_cons_succ]
          refine wpAnyH_done (by kernel_rfl) (NoPanic.normal ?_) _
          go_wp2_with fail
          go_meet
          exact ⟨by first | rfl | simp, ⟨(by (repeat (first | with_reducible assumption | with_reducible refine below_new ?_ _ | with_reducible refine Below.drew ?_ | with_reducible exact Below.refl _ _)))⟩⟩
        case rest =>
          obtain ⟨rfl, hcut⟩ := hcut
          have HBC := kept (HB9.out.trans (hcut.out.mono HB9.out.size))
          have HOC := kept (HO9.out.next hcut.out)
          obtain ⟨w4, hw4⟩ : ∃ w4 : World, w4 = wc := ⟨_, rfl⟩
          rw [← hw4] at HBC HOC ⊢
          clear hw4 hcut HS CXY CYX HB9 HO9
          go_wp2_with fail
          go_roundw
          case rel => exact ⟨i + 1, A9, c9, r9, by omega, rfl, by go_num, HR9, ⟨HOC.out, HBC.out⟩⟩
          case measure => simp [intOf]; omega
      · obtain rfl : i = l.length := by omega
        have hge : ¬ (l.length : Int) < (l.length : Int) := by omega
        have HMF : Kept (m = turned f l) := ⟨by rw [HMT.out, List.take_of_length_le (by rw [turned_len]; exact Nat.le_refl _)]⟩
        have hbw := HMO.out.2
        have CG1 := kept (groups_any X c l wr (HL.out.next hbw) HSM.out (HM.out.next hbw) hn)
        go_wp2_with fail
        refine CG1.out.mono ?_
        rintro e w5 ⟨A5, c5, g5, rfl, hg5, hcp5, hrd5, hb5⟩
        have hb5w := hbw.trans (hb5.mono hbw.size)
        have CG2 := groups_any A cm m w5 ⟨(HMO.out.1.next hb5).rd, fun x hx => (HL.out.2 x (by rw [HMF.out] at hx; exact turned_mem hx)).next hb5w⟩ (fun x hx => HSM.out x (by rw [HMF.out] at hx; exact turned_mem hx)) (HM.out.next hb5w) (by rw [HMF.out, turned_len]; exact hn)
        have HEQ : Kept (sortG (groupsL m.length (cidAt m) (headR (adjB m) m.length 0)) = g5.map GrpM.l) := ⟨by rw [hg5, HMF.out]; exact groups_turned f l⟩
        have HBD := kept (groups_bound hg5)
        rw [HEQ.out] at CG2
        have CG2 := kept CG2
        have HRD5 := kept hrd5
        have HB5 := kept hb5w
        clear hrd5 hb5 hb5w hbw CG1 HMO HMT HEQ hg5
        go_wp2_with fail
        refine CG2.out.mono ?_
        rintro e w6 ⟨A6, c6, g6, rfl, hg6, hcp6, hrd6, hb6⟩
        have CS := kept (gsame_true A5 A6 c5 c6 g5 g6 w6 (HRD5.out.next hb6) hrd6 hg6.symm (by have := HBD.out.1; omega) (fun g hg => by have := HBD.out.2 g hg; omega))
        have HB6 := kept (HB5.out.trans (hb6.mono HB5.out.size))
        clear hrd6 hb6 hg6 CG2 HRD5 HB5
        go_wp2_with fail
        refine CS.out.mono ?_
        rintro e w7 ⟨rfl, hb7⟩
        have HB7 := kept (HB6.out.trans (hb7.mono HB6.out.size))
        clear hb7 CS HB6
        go_wp2_with fail
        refine (tworks_any _ (HM.out.next HB7.out)).mono ?_
        rintro e w8 ⟨rfl, hb8⟩
        have HB8 := kept (HB7.out.trans (hb8.mono HB7.out.size))
        clear hb8 HB7
        go_wp2_with fail
        go_ret
        exact ⟨rfl, HB8.out⟩
  · rw [decide_eq_false hfw] at CF
    clear hr ht hfw
    go_enter Tryd.func7, Tryd.ntmps7
    go_wp2_with fail
    refine CF.out.mono ?_
    rintro e w0 ⟨rfl, rfl⟩
    go_wp2_with fail
    refine (tworks_any _ hm).mono ?_
    rintro e w8 ⟨rfl, hb8⟩
    go_wp2_with fail
    go_ret
    exact ⟨rfl, hb8⟩
end Go.Proofs.YtfkfpanhbanljaaDoor.Twin
