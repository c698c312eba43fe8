import Derived.Test.YtfkfpanhbanljaaGreatDoorSet41
/- slices.SortStableFunc of cards: merging, one ahead of many. (printed by tools/gensm.py) -/
namespace Go.Proofs.YtfkfpanhbanljaaGreatDoor.Stab
open Go.RowKit Go.Proofs.YtfkfpanhbanljaaGreatDoor.Mem Go.Proofs.YtfkfpanhbanljaaGreatDoor.Card Go.Proofs.YtfkfpanhbanljaaGreatDoor.List44

theorem CmpOk.after {A : Option Addr} {n c : Nat} {w w' : World} {l : List CardM} (h : CmpOk A n c w l) (hu : Upd (fun b => (Value.slice A n c).ownBlock = some b) w w') : CmpOk A n c w' l := fun W x y hw hx hy => h W x y (hu.trans hw) hx hy
theorem at_mid {α : Type} {P Y Q : List α} {t k : Nat} {y : α} (hy : Y[t]? = some y) (hk : k = P.length + t) : (P ++ Y ++ Q)[k]? = some y := by
  subst hk
  have h := (List.getElem?_eq_some_iff.1 hy).1
  rw [List.append_assoc, List.getElem?_append_right (by omega), Nat.add_sub_cancel_left, List.getElem?_append_left h]
  exact hy
set_option maxRecDepth 100000 in
set_option maxHeartbeats 8000000 in
theorem symA_own (base : Nat) (A : Option Addr) (c n : Nat) (P Y Q l : List CardM) (x : CardM) (w : World) (hn : (P ++ [x] ++ Y ++ Q).length = n) (hsz : n ≤ 1000000) (h : cardE.Own w base 31 (.slice A n c) (P ++ [x] ++ Y ++ Q)) (hc : CmpOk A n c w l) (hY : ∀ y ∈ Y, y ∈ l) (hx : x ∈ l) (hs : Srt ltC Y) :
    Calls Tryz.prog 122 #[.slice A n c, .int .i64 (P.length : Int), .int .i64 ((P.length + 1 : Nat) : Int), .int .i64 ((P.length + 1 + Y.length : Nat) : Int), .func (.func 65) #[] #[]] w (RowTo base A n c w (P ++ mrg ltC [x] Y ++ Q)) := by
  obtain ⟨T0, hT0⟩ : ∃ T0, P ++ mrg ltC [x] Y ++ Q = T0 := ⟨_, rfl⟩
  have HR : Kept (∀ W, SS base A n c w W (P ++ mrg ltC [x] Y ++ Q) → RowTo base A n c w T0 (.returned (.tuple #[])) W) := ⟨fun W h => ⟨rfl, by rw [← hT0]; exact h.1, h.2⟩⟩
  rw [hT0]
  clear hT0
  have HCMP := kept hc
  have HYL := kept hY
  have HS0 : Kept (SS base A n c w w (P ++ [x] ++ Y ++ Q)) := ⟨⟨h, Upd.refl _ _⟩⟩
  have HSRT := kept hs
  obtain ⟨pl, hpl⟩ : ∃ pl, P.length = pl := ⟨_, rfl⟩
  obtain ⟨bl, hbl⟩ : ∃ bl, P.length + 1 + Y.length = bl := ⟨_, rfl⟩
  have hbln : bl ≤ n := by simp at hn; omega
  have hpb : pl + 1 ≤ bl := by omega
  have HPL := kept hpl
  have HBL : Kept (pl + 1 + Y.length = bl) := ⟨by omega⟩
  rw [hbl, hpl]
  obtain ⟨ml, hml⟩ : ∃ ml, pl + 1 = ml := ⟨_, rfl⟩
  have hmb : ml ≤ bl := by omega
  have hpm : pl < ml := by omega
  rw [hml]
  have HML := kept hml
  have hd1 : (((ml : Int) - (pl : Int)) == 1) = true := by rw [beq_iff_eq]; omega
  have hd1' : ((ml : Int) - (pl : Int)) = 1 := by omega
  clear hn h hc hY hs hpl hbl hml hpb
  go_enter Tryz.func122, Tryz.ntmps122
  go_wp2_with fail
  clear hd1 hd1'
  go_loopw [10, 11] (fun iv jv wr => ∃ i j : Nat, iv = .int .i64 (i : Int) ∧ jv = .int .i64 (j : Int) ∧ ml ≤ i ∧ i ≤ j ∧ j ≤ bl ∧ Kept ((∀ t y, Y[t]? = some y → t < i - ml → ltC y x = true) ∧ (∀ t y, Y[t]? = some y → j - ml ≤ t → ltC y x = false)) ∧ Kept (SS base A n c w wr (P ++ [x] ++ Y ++ Q))) (fun iv jv _ => (intOf jv).toNat - (intOf iv).toNat)
  case atStart => exact ⟨ml, bl, rfl, rfl, Nat.le_refl _, hmb, Nat.le_refl _, ⟨fun t y _ h => by omega, fun t y h1 h2 => by have := (List.getElem?_eq_some_iff.1 h1).1; have h3 := HBL.out; have h4 := HML.out; omega⟩, HS0⟩
  case round =>
    clear HS0
    obtain ⟨i, j, rfl, rfl, hmi, hij, hjb, HI, HS⟩ := hrel
    by_cases hlt : i < j
    · obtain ⟨q, hq⟩ : ∃ q, (i + j) / 2 = q := ⟨_, rfl⟩
      have hq1 : i ≤ q := by omega
      have hq2 : q < j := by omega
      have hqi : ((i : Int) + (j : Int)) / 2 = (q : Int) := by omega
      have hqn : (q : Int) < (n : Int) := by omega
      have hpn : (pl : Int) < (n : Int) := by omega
      have hqn2 : q < n := by omega
      have hpn2 : pl < n := by omega
      have hij2 : (i : Int) < (j : Int) := by omega
      obtain ⟨y, hy⟩ : ∃ y, Y[q - ml]? = some y := ⟨_, List.getElem?_eq_getElem (by have h3 := HBL.out; have h4 := HML.out; omega)⟩
      have l1 : (P ++ [x] ++ Y ++ Q)[q]? = some y := at_mid hy (by rw [List.length_append, List.length_singleton, HPL.out]; have h4 := HML.out; omega)
      have l2 : (P ++ [x] ++ Y ++ Q)[pl]? = some x := by
        have : P ++ [x] ++ Y ++ Q = P ++ [x] ++ (Y ++ Q) := by simp
        rw [this]
        exact at_mid (t := 0) rfl (by rw [HPL.out]; rfl)
      obtain ⟨g, rfl, -, -, -, -, hcc⟩ := HS.out.two l1 l2
      have HC := kept hcc
      have CL := kept (fun W' (hb : Below wr.heap.size wr W') => HCMP.out W' y x (HS.out.2.next hb) (HYL.out y (List.mem_of_getElem? hy)) hx)
      have HY1 : Kept (ltC y x = true → (∀ t u, Y[t]? = some u → t < q + 1 - ml → ltC u x = true)) := ⟨fun h t u hu ht => swoC.of_lt h (srt_at HSRT.out swoC hu hy (by omega))⟩
      have HY2 : Kept (ltC y x = false → (∀ t u, Y[t]? = some u → q - ml ≤ t → ltC u x = false)) := ⟨fun h t u hu ht => swoC.neg u y x (srt_at HSRT.out swoC hy hu ht) h⟩
      have HLT : Kept (ltC y x = decide (cmpC y x < 0)) := ⟨rfl⟩
      obtain ⟨xcid, xX, xls, xc⟩ := x
      obtain ⟨ycid, yX, yls, yc⟩ := y
      unfold CardM.val at CL
      dsimp only at HC CL
      generalize cmpC ⟨ycid, yX, yls, yc⟩ ⟨xcid, xX, xls, xc⟩ = z at *
      obtain ⟨d, hd⟩ : ∃ d, ltC ⟨ycid, yX, yls, yc⟩ ⟨xcid, xX, xls, xc⟩ = d := ⟨_, rfl⟩
      rw [hd] at HLT HY1 HY2
      have hdz : decide (z < 0) = d := HLT.out.symm
      clear hd HLT hcc l1 l2 hy hq
      go_upto_region 5 with fail
      go_cut [50] (fun v wr' => v = .bool d ∧ Kept (Below wr.heap.size wr wr'))
      case first =>
        have hd0 : Below wr.heap.size wr wr := Below.refl _ _
        clear HY1 HY2 HI HS HR hqi
        refine wp_region_noPanic ?_
        refine wp_region_held_drew (S := fun W => W.cell? ⟨g, q * 2, none⟩ = some (.int .u64 (ycid : Int)) ∧ W.cell? ⟨g, q * 2 + 1, none⟩ = some (.slice yX yls.length yc) ∧ W.cell? ⟨g, pl * 2, none⟩ = some (.int .u64 (xcid : Int)) ∧ W.cell? ⟨g, pl * 2 + 1, none⟩ = some (.slice xX xls.length xc)) (by kernel_rfl) (HC.out _ (by (repeat (first | with_reducible assumption | with_reducible refine below_new ?_ _ | with_reducible refine Below.drew ?_ | with_reducible exact Below.refl _ _)))) (fun hS0 => ?_)
        refine wpAnyH_take (i := 0) (v := ?_) rfl (by kernel_rfl) (by kernel_rfl) (by kernel_rfl) (fun _ _ _ h => h) (Or.inl ⟨by rfl, ?_⟩) hS0 ?_
        case refine_2 => (intro W hSW; go_simp; try with_reducible rfl)
        try simp only [Act.put, List.setIfInBounds_toArray, List.set_cons_zero, List.set_cons_succ, List.getElem_toArray, List.getElem_cons_zero, List.getElem_cons_succ]
        refine wpAnyH_take (i := 1) (v := ?_) rfl (by kernel_rfl) (by kernel_rfl) (by kernel_rfl) (fun _ _ _ h => h) (Or.inl ⟨by rfl, ?_⟩) hS0 ?_
        case refine_2 => (intro W hSW; go_simp; try with_reducible rfl)
        try simp only [Act.put, List.setIfInBounds_toArray, List.set_cons_zero, List.set_cons_succ, List.getElem_toArray, List.getElem_cons_zero, List.getElem_cons_succ]
        refine wpAnyH_take (i := 2) (v := ?_) rfl (by kernel_rfl) (by kernel_rfl) (by kernel_rfl) (fun _ _ _ h => h) (Or.inl ⟨by rfl, ?_⟩) hS0 ?_
        case refine_2 => (intro W hSW; go_simp; try with_reducible rfl)
        try simp only [Act.put, List.setIfInBounds_toArray, List.set_cons_zero, List.set_cons_succ, List.getElem_toArray, List.getElem_cons_zero, List.getElem_cons_succ]
        refine wpAnyH_take (i := 3) (v := ?_) rfl (by kernel_rfl) (by kernel_rfl) (by kernel_rfl) (fun _ _ _ h => h) (Or.inl ⟨by rfl, ?_⟩) hS0 ?_
        case refine_2 => (intro W hSW; go_simp; try with_reducible rfl)
        try simp only [Act.put, List.setIfInBounds_toArray, List.set_cons_zero, List.set_cons_succ, List.getElem_toArray, List.getElem_cons_zero, List.getElem_cons_succ]
        refine wpAnyH_take (i := 4) (v := ?_) rfl (by kernel_rfl) (by kernel_rfl) (by kernel_rfl) (fun _ _ _ h => h) (Or.inl ⟨by rfl, ?_⟩) hS0 ?_
        case refine_2 => (intro W hSW; obtain ⟨z0, z1, z2, z3⟩ := hSW; go_simp; try with_reducible rfl)
        try simp only [Act.put, List.setIfInBounds_toArray, List.set_cons_zero, List.set_cons_succ, List.getElem_toArray, List.getElem_cons_zero, List.getElem_cons_succ]
        refine wpAnyH_take (i := 5) (v := ?_) rfl (by kernel_rfl) (by kernel_rfl) (by kernel_rfl) (fun _ _ _ h => h) (Or.inl ⟨by rfl, ?_⟩) hS0 ?_
        case refine_2 => (intro W hSW; go_simp; try with_reducible rfl)
        try simp only [Act.put, List.setIfInBounds_toArray, List.set_cons_zero, List.set_cons_succ, List.getElem_toArray, List.getElem_cons_zero, List.getElem_cons_succ]
        refine wpAnyH_take (i := 6) (v := ?_) rfl (by kernel_rfl) (by kernel_rfl) (by kernel_rfl) (fun _ _ _ h => h) (Or.inl ⟨by rfl, ?_⟩) hS0 ?_
        case refine_2 => (intro W hSW; go_simp; try with_reducible rfl)
        try simp only [Act.put, List.setIfInBounds_toArray, List.set_cons_zero, List.set_cons_succ, List.getElem_toArray, List.getElem_cons_zero, List.getElem_cons_succ]
        refine wpAnyH_take (i := 7) (v := ?_) rfl (by kernel_rfl) (by kernel_rfl) (by kernel_rfl) (fun _ _ _ h => h) (Or.inl ⟨by rfl, ?_⟩) hS0 ?_
        case refine_2 => (intro W hSW; go_simp; try with_reducible rfl)
        try simp only [Act.put, List.setIfInBounds_toArray, List.set_cons_zero, List.set_cons_succ, List.getElem_toArray, List.getElem_cons_zero, List.getElem_cons_succ]
        refine wpAnyH_take (i := 8) (v := ?_) rfl (by kernel_rfl) (by kernel_rfl) (by kernel_rfl) (fun _ _ _ h => h) (Or.inl ⟨by rfl, ?_⟩) hS0 ?_
        case refine_2 => (intro W hSW; obtain ⟨z0, z1, z2, z3⟩ := hSW; go_simp; try with_reducible rfl)
        try simp only [Act.put, List.setIfInBounds_toArray, List.set_cons_zero, List.set_cons_succ, List.getElem_toArray, List.getElem_cons_zero, List.getElem_cons_succ]
        refine wpAnyH_ready (rs := [9]) (by kernel_rfl) (by simp) ?_
        refine AllReadyH.cons rfl (fun K' hK => ?_) AllReadyH.nil
        go_simp
        go_at_call 65
        refine (CL.out _ (by (repeat (first | with_reducible assumption | with_reducible refine below_new ?_ _ | with_reducible refine Below.drew ?_ | with_reducible exact Below.refl _ _)))).mono ?_
        rintro e x1 ⟨rfl, hx1⟩
        have hk1 : Below wr.heap.size wr x1 := below_next (by (repeat (first | with_reducible assumption | with_reducible refine below_new ?_ _ | with_reducible refine Below.drew ?_ | with_reducible exact Below.refl _ _))) hx1
        try simp only [Act.put, List.setIfInBounds_toArray, List.set_cons_zero, List.set_cons_succ, List.getElem_toArray, List.getElem_cons_zero, List.getElem_cons_succ]
        refine hK.out _ _ (HC.out x1 hk1) (fun hS0 => ?_)
        refine wpAnyH_take (i := 10) (v := ?_) rfl (by kernel_rfl) (by kernel_rfl) (by kernel_rfl) (fun _ _ _ h => h) (Or.inl ⟨by rfl, ?_⟩) hS0 ?_
        case refine_2 => (intro W hSW; go_simp; try with_reducible rfl)
        try simp only [Act.put, List.setIfInBounds_toArray, List.set_cons_zero, List.set_cons_succ, List.getElem_toArray, List.getElem_cons_zero, List.getElem_cons_succ]
        refine wpAnyH_done (by kernel_rfl) (NoPanic.normal ?_) _
        go_wp2_with fail
        go_meet
        exact ⟨by first | rfl | (rw [hdz]), ⟨hk1⟩⟩
      case rest =>
        obtain ⟨rfl, hcut⟩ := hcut
        have HS2 := kept (HS.out.next hcut.out)
        obtain ⟨w4, hw4⟩ : ∃ w4 : World, w4 = wc := ⟨_, rfl⟩
        rw [← hw4] at HS2 ⊢
        clear hw4 hcut HC CL HS hdz hqi
        cases d with
        | true =>
          have HI2 := kept (And.intro (HY1.out rfl) HI.out.2)
          clear HY1 HY2 HI
          go_wp2_with fail
          go_roundw
          case rel => (refine ⟨q + 1, j, by go_num, rfl, by omega, by omega, hjb, ?_, ?_⟩ <;> with_reducible assumption)
          case measure => simp [intOf]; omega
        | false =>
          have HI2 := kept (And.intro HI.out.1 (HY2.out rfl))
          clear HY1 HY2 HI
          go_wp2_with fail
          go_roundw
          case rel => (refine ⟨i, q, rfl, by go_num, hmi, by omega, by omega, ?_, ?_⟩ <;> with_reducible assumption)
          case measure => simp [intOf]; omega
    · obtain rfl : i = j := by omega
      have hge : ¬ (i : Int) < (i : Int) := by omega
      obtain ⟨U, V, hUV, hUl⟩ := split_at (l := Y) (k := i - ml) (by have h3 := HBL.out; have h4 := HML.out; omega)
      have HM : Kept (mrg ltC [x] Y = U ++ x :: V) := ⟨by
        rw [hUV]
        refine one_mrg U V x (fun u hu => ?_) fun v hv => ?_
        · obtain ⟨t, ht, rfl⟩ := List.mem_iff_getElem.1 hu
          exact HI.out.1 t _ (by rw [hUV, List.getElem?_append_left ht, List.getElem?_eq_getElem ht]) (by omega)
        · refine HI.out.2 U.length v ?_ (by omega)
          rw [hUV, List.getElem?_append_right (Nat.le_refl _), Nat.sub_self]
          rw [List.head?_eq_getElem?] at hv
          exact hv⟩
      have HUL := kept hUl
      have H1 : Kept (∃ U1 U2, U = U1 ++ U2 ∧ U1.length = 0 ∧ SS base A n c w wr (P ++ U1 ++ x :: U2 ++ V ++ Q)) := ⟨[], U, rfl, rfl, by
        have := HS.out
        rw [hUV] at this
        simpa using this⟩
      clear HI HS hUV hUl
      have hw0 : Kept (IntKind.i64.wrap ((i : Int) - 1) = (i : Int) - 1) := ⟨IntWalk.i64_in _ (by omega)⟩
      go_wp2_with fail
      go_loopw [13] (fun kv wr => ∃ (k t : Nat), kv = .int .i64 (k : Int) ∧ pl ≤ k ∧ k + 1 ≤ i ∧ Kept (k = pl + t) ∧ Kept (∃ U1 U2, U = U1 ++ U2 ∧ U1.length = t ∧ SS base A n c w wr (P ++ U1 ++ x :: U2 ++ V ++ Q))) (fun kv _ => i - (intOf kv).toNat)
      case atStart => exact ⟨pl, 0, rfl, Nat.le_refl _, by omega, ⟨rfl⟩, H1⟩
      case round =>
        clear H1
        obtain ⟨k, t, rfl, hpk, hki, HKT, HU⟩ := hrel
        by_cases hlt : k + 1 < i
        · have hk1 : (k : Int) < (i : Int) - 1 := by omega
          obtain ⟨U1, U2, hu1, hu2, hss⟩ := HU.out
          obtain ⟨y, U3, rfl⟩ : ∃ y U3, U2 = y :: U3 := by
            cases U2 with
            | nil => exfalso; have h1 := HUL.out; rw [hu1] at h1; simp at h1; have h2 := HKT.out; have h4 := HML.out; omega
            | cons y U3 => exact ⟨y, U3, rfl⟩
          have hkn : k + 1 < n := by omega
          have e1 : P ++ U1 ++ x :: (y :: U3) ++ V ++ Q = (P ++ U1) ++ x :: [] ++ y :: (U3 ++ V ++ Q) := by simp
          have e2 : (P ++ U1) ++ y :: [] ++ x :: (U3 ++ V ++ Q) = P ++ (U1 ++ [y]) ++ x :: U3 ++ V ++ Q := by simp
          obtain ⟨l1, l2, l3⟩ := list_swap (P := P ++ U1) (M := []) (Q := U3 ++ V ++ Q) (x := x) (y := y) (p := k) (q := k + 1) (by rw [List.length_append, HPL.out, hu2]; exact HKT.out) (by rw [List.length_append, HPL.out, hu2, HKT.out]; rfl)
          rw [e1] at hss
          obtain ⟨g, rfl, f0, f1, k0, k1, hcc⟩ := hss.two l1 l2
          obtain ⟨c0, c1, d0, d1⟩ := hcc wr (Below.refl _ _)
          have HSW : Kept (SS base (some ⟨g, 0, none⟩) n c w (swW wr g k (k + 1) x y) (P ++ (U1 ++ [y]) ++ x :: U3 ++ V ++ Q)) := ⟨by
            have h2 := swW_own hss.1 l1 l2 (show k ≠ k + 1 by omega)
            rw [l3, e2] at h2
            exact ⟨h2, swW_upd hss.2 rfl _ _⟩⟩
          have HU2 : Kept (U = U1 ++ [y] ++ U3 ∧ (U1 ++ [y]).length = t + 1 ∧ k + 1 = pl + (t + 1)) := ⟨by rw [hu1]; simp, by simp; exact hu2, by have := HKT.out; omega⟩
          clear HU hss l1 l2 l3 e1 e2 hcc hu1 hu2
          obtain ⟨xcid, xX, xls, xc⟩ := x
          obtain ⟨ycid, yX, yls, yc⟩ := y
          dsimp only at c0 c1 d0 d1 HSW
          unfold swW at HSW
          dsimp only at HSW
          have hk0 : (0 : Int) ≤ (k : Int) + 1 := by omega
          have hkn1 : (k : Int) < (n : Int) := by omega
          have hkn2 : (k : Int) + 1 < (n : Int) := by omega
          have hkn3 : k < n := by omega
          have hne : ¬ k = k + 1 := by omega
          have hne2 : ¬ k + 1 = k := by omega
          have HW1 : Kept (IntKind.i64.wrap ((k : Int) + 1) = (k : Int) + 1) := ⟨IntWalk.i64_in _ (by omega)⟩
          have HW2 : Kept (((k : Int) + 1).toNat = k + 1) := ⟨by omega⟩
          have hw9 := hw0.out
          go_upto_region 11 with fail
          clear hw9
          have hw1 := HW1.out
          have hw2 := HW2.out
          go_region
          all_goals
            clear hw1 hw2
            go_wp2_with fail
            go_roundw
            case rel => (refine ⟨k + 1, t + 1, by go_num, by omega, by omega, ⟨HU2.out.2.2⟩, ⟨U1 ++ [⟨ycid, yX, yls, yc⟩], U3, HU2.out.1, HU2.out.2.1, ?_⟩⟩; with_reducible exact HSW.out)
            case measure => simp [intOf]; omega
        · have hk1 : ¬ (k : Int) < (i : Int) - 1 := by omega
          have HF := kept (HR.out wr (by
            obtain ⟨U1, U2, hu1, hu2, hss⟩ := HU.out
            obtain rfl : U2 = [] := by
              have h1 := HUL.out; rw [hu1] at h1; simp at h1; have h2 := HKT.out; have h4 := HML.out
              exact List.eq_nil_of_length_eq_zero (by omega)
            rw [HM.out, hu1]
            simpa using hss))
          have hw9 := hw0.out
          go_wp2_with fail
          go_end0
          exact HF.out
end Go.Proofs.YtfkfpanhbanljaaGreatDoor.Stab

/- slices.SortStableFunc of cards: merging, many ahead of one. (printed by tools/gensm.py) -/
namespace Go.Proofs.YtfkfpanhbanljaaGreatDoor.Stab
open Go.RowKit Go.Proofs.YtfkfpanhbanljaaGreatDoor.Mem Go.Proofs.YtfkfpanhbanljaaGreatDoor.Card Go.Proofs.YtfkfpanhbanljaaGreatDoor.List44

set_option maxRecDepth 100000 in
set_option maxHeartbeats 8000000 in
theorem symB_own (base : Nat) (A : Option Addr) (c n : Nat) (P X Q l : List CardM) (y : CardM) (w : World) (hn : (P ++ X ++ [y] ++ Q).length = n) (hsz : n ≤ 1000000) (h : cardE.Own w base 31 (.slice A n c) (P ++ X ++ [y] ++ Q)) (hc : CmpOk A n c w l) (hX : ∀ x ∈ X, x ∈ l) (hy : y ∈ l) (hs : Srt ltC X) (hx1 : X.length ≠ 1) :
    Calls Tryz.prog 122 #[.slice A n c, .int .i64 (P.length : Int), .int .i64 ((P.length + X.length : Nat) : Int), .int .i64 ((P.length + X.length + 1 : Nat) : Int), .func (.func 65) #[] #[]] w (RowTo base A n c w (P ++ mrg ltC X [y] ++ Q)) := by
  obtain ⟨T0, hT0⟩ : ∃ T0, P ++ mrg ltC X [y] ++ Q = T0 := ⟨_, rfl⟩
  have HR : Kept (∀ W, SS base A n c w W (P ++ mrg ltC X [y] ++ Q) → RowTo base A n c w T0 (.returned (.tuple #[])) W) := ⟨fun W h => ⟨rfl, by rw [← hT0]; exact h.1, h.2⟩⟩
  rw [hT0]
  clear hT0
  have HCMP := kept hc
  have HXL := kept hX
  have HS0 : Kept (SS base A n c w w (P ++ X ++ [y] ++ Q)) := ⟨⟨h, Upd.refl _ _⟩⟩
  have HSRT := kept hs
  obtain ⟨pl, hpl⟩ : ∃ pl, P.length = pl := ⟨_, rfl⟩
  obtain ⟨ml, hml⟩ : ∃ ml, P.length + X.length = ml := ⟨_, rfl⟩
  have hmln : ml + 1 ≤ n := by simp at hn; omega
  have hpm : pl ≤ ml := by omega
  have HPL := kept hpl
  have HML : Kept (pl + X.length = ml) := ⟨by omega⟩
  rw [hml, hpl]
  have hd0 : ¬ ((ml : Int) - (pl : Int)) = 1 := by omega
  have hd1 : (((ml : Int) - (pl : Int)) == 1) = false := by rw [beq_eq_false_iff_ne]; exact hd0
  obtain ⟨bl, hbl⟩ : ∃ bl, ml + 1 = bl := ⟨_, rfl⟩
  rw [hbl]
  have hd2 : ((bl : Int) - (ml : Int)) = 1 := by omega
  have hd3 : (((bl : Int) - (ml : Int)) == 1) = true := by rw [beq_iff_eq]; exact hd2
  have hbln : bl ≤ n := by omega
  have hmb : ml < bl := by omega
  clear hn h hc hX hs hpl hml hbl hx1
  go_enter Tryz.func122, Tryz.ntmps122
  go_wp2_with fail
  clear hd0 hd1 hd2 hd3
  go_loopw [14, 15] (fun iv jv wr => ∃ i j : Nat, iv = .int .i64 (i : Int) ∧ jv = .int .i64 (j : Int) ∧ pl ≤ i ∧ i ≤ j ∧ j ≤ ml ∧ Kept ((∀ t u, X[t]? = some u → t < i - pl → ltC y u = false) ∧ (∀ t u, X[t]? = some u → j - pl ≤ t → ltC y u = true)) ∧ Kept (SS base A n c w wr (P ++ X ++ [y] ++ Q))) (fun iv jv _ => (intOf jv).toNat - (intOf iv).toNat)
  case atStart => exact ⟨pl, ml, rfl, rfl, Nat.le_refl _, hpm, Nat.le_refl _, ⟨fun t y _ h => by omega, fun t y h1 h2 => by have := (List.getElem?_eq_some_iff.1 h1).1; have h4 := HML.out; omega⟩, HS0⟩
  case round =>
    clear HS0
    obtain ⟨i, j, rfl, rfl, hpi, hij, hjm, HI, HS⟩ := hrel
    by_cases hlt : i < j
    · obtain ⟨q, hq⟩ : ∃ q, (i + j) / 2 = q := ⟨_, rfl⟩
      have hq1 : i ≤ q := by omega
      have hq2 : q < j := by omega
      have hqi : ((i : Int) + (j : Int)) / 2 = (q : Int) := by omega
      have hqn : (q : Int) < (n : Int) := by omega
      have hmn : (ml : Int) < (n : Int) := by omega
      have hqn2 : q < n := by omega
      have hmn2 : ml < n := by omega
      have hij2 : (i : Int) < (j : Int) := by omega
      obtain ⟨x, hx⟩ : ∃ x, X[q - pl]? = some x := ⟨_, List.getElem?_eq_getElem (by have h4 := HML.out; omega)⟩
      have l1 : (P ++ X ++ [y] ++ Q)[ml]? = some y := at_mid (P := P ++ X) (t := 0) rfl (by rw [List.length_append, HPL.out]; have h4 := HML.out; omega)
      have l2 : (P ++ X ++ [y] ++ Q)[q]? = some x := by
        have : P ++ X ++ [y] ++ Q = P ++ X ++ ([y] ++ Q) := by simp
        rw [this]
        exact at_mid hx (by rw [HPL.out]; omega)
      obtain ⟨g, rfl, -, -, -, -, hcc⟩ := HS.out.two l1 l2
      have HC := kept hcc
      have CL := kept (fun W' (hb : Below wr.heap.size wr W') => HCMP.out W' y x (HS.out.2.next hb) hy (HXL.out x (List.mem_of_getElem? hx)))
      have HY1 : Kept (ltC y x = false → (∀ t u, X[t]? = some u → t < q + 1 - pl → ltC y u = false)) := ⟨fun h t u hu ht => swoC.neg y x u h (srt_at HSRT.out swoC hu hx (by omega))⟩
      have HY2 : Kept (ltC y x = true → (∀ t u, X[t]? = some u → q - pl ≤ t → ltC y u = true)) := ⟨fun h t u hu ht => swoC.lt_of h (srt_at HSRT.out swoC hx hu ht)⟩
      have HLT : Kept (ltC y x = decide (cmpC y x < 0)) := ⟨rfl⟩
      obtain ⟨xcid, xX, xls, xc⟩ := x
      obtain ⟨ycid, yX, yls, yc⟩ := y
      unfold CardM.val at CL
      dsimp only at HC CL
      generalize cmpC ⟨ycid, yX, yls, yc⟩ ⟨xcid, xX, xls, xc⟩ = z at *
      obtain ⟨d, hd⟩ : ∃ d, ltC ⟨ycid, yX, yls, yc⟩ ⟨xcid, xX, xls, xc⟩ = d := ⟨_, rfl⟩
      rw [hd] at HLT HY1 HY2
      have hdz : decide (z < 0) = d := HLT.out.symm
      clear hd HLT hcc l1 l2 hx hq
      go_upto_region 17 with fail
      go_cut [103] (fun v wr' => v = .bool (!d) ∧ Kept (Below wr.heap.size wr wr'))
      case first =>
        have hd0 : Below wr.heap.size wr wr := Below.refl _ _
        clear HY1 HY2 HI HS HR hqi
        refine wp_region_noPanic ?_
        refine wp_region_held_drew (S := fun W => W.cell? ⟨g, ml * 2, none⟩ = some (.int .u64 (ycid : Int)) ∧ W.cell? ⟨g, ml * 2 + 1, none⟩ = some (.slice yX yls.length yc) ∧ W.cell? ⟨g, q * 2, none⟩ = some (.int .u64 (xcid : Int)) ∧ W.cell? ⟨g, q * 2 + 1, none⟩ = some (.slice xX xls.length xc)) (by kernel_rfl) (HC.out _ (by (repeat (first | with_reducible assumption | with_reducible refine below_new ?_ _ | with_reducible refine Below.drew ?_ | with_reducible exact Below.refl _ _)))) (fun hS0 => ?_)
        refine wpAnyH_take (i := 0) (v := ?_) rfl (by kernel_rfl) (by kernel_rfl) (by kernel_rfl) (fun _ _ _ h => h) (Or.inl ⟨by rfl, ?_⟩) hS0 ?_
        case refine_2 => (intro W hSW; go_simp; try with_reducible rfl)
        try simp only [Act.put, List.setIfInBounds_toArray, List.set_cons_zero, List.set_cons_succ, List.getElem_toArray, List.getElem_cons_zero, List.getElem_cons_succ]
        refine wpAnyH_take (i := 1) (v := ?_) rfl (by kernel_rfl) (by kernel_rfl) (by kernel_rfl) (fun _ _ _ h => h) (Or.inl ⟨by rfl, ?_⟩) hS0 ?_
        case refine_2 => (intro W hSW; go_simp; try with_reducible rfl)
        try simp only [Act.put, List.setIfInBounds_toArray, List.set_cons_zero, List.set_cons_succ, List.getElem_toArray, List.getElem_cons_zero, List.getElem_cons_succ]
        refine wpAnyH_take (i := 2) (v := ?_) rfl (by kernel_rfl) (by kernel_rfl) (by kernel_rfl) (fun _ _ _ h => h) (Or.inl ⟨by rfl, ?_⟩) hS0 ?_
        case refine_2 => (intro W hSW; go_simp; try with_reducible rfl)
        try simp only [Act.put, List.setIfInBounds_toArray, List.set_cons_zero, List.set_cons_succ, List.getElem_toArray, List.getElem_cons_zero, List.getElem_cons_succ]
        refine wpAnyH_take (i := 3) (v := ?_) rfl (by kernel_rfl) (by kernel_rfl) (by kernel_rfl) (fun _ _ _ h => h) (Or.inl ⟨by rfl, ?_⟩) hS0 ?_
        case refine_2 => (intro W hSW; go_simp; try with_reducible rfl)
        try simp only [Act.put, List.setIfInBounds_toArray, List.set_cons_zero, List.set_cons_succ, List.getElem_toArray, List.getElem_cons_zero, List.getElem_cons_succ]
        refine wpAnyH_take (i := 4) (v := ?_) rfl (by kernel_rfl) (by kernel_rfl) (by kernel_rfl) (fun _ _ _ h => h) (Or.inl ⟨by rfl, ?_⟩) hS0 ?_
        case refine_2 => (intro W hSW; obtain ⟨z0, z1, z2, z3⟩ := hSW; go_simp; try with_reducible rfl)
        try simp only [Act.put, List.setIfInBounds_toArray, List.set_cons_zero, List.set_cons_succ, List.getElem_toArray, List.getElem_cons_zero, List.getElem_cons_succ]
        refine wpAnyH_take (i := 5) (v := ?_) rfl (by kernel_rfl) (by kernel_rfl) (by kernel_rfl) (fun _ _ _ h => h) (Or.inl ⟨by rfl, ?_⟩) hS0 ?_
        case refine_2 => (intro W hSW; go_simp; try with_reducible rfl)
        try simp only [Act.put, List.setIfInBounds_toArray, List.set_cons_zero, List.set_cons_succ, List.getElem_toArray, List.getElem_cons_zero, List.getElem_cons_succ]
        refine wpAnyH_take (i := 6) (v := ?_) rfl (by kernel_rfl) (by kernel_rfl) (by kernel_rfl) (fun _ _ _ h => h) (Or.inl ⟨by rfl, ?_⟩) hS0 ?_
        case refine_2 => (intro W hSW; go_simp; try with_reducible rfl)
        try simp only [Act.put, List.setIfInBounds_toArray, List.set_cons_zero, List.set_cons_succ, List.getElem_toArray, List.getElem_cons_zero, List.getElem_cons_succ]
        refine wpAnyH_take (i := 7) (v := ?_) rfl (by kernel_rfl) (by kernel_rfl) (by kernel_rfl) (fun _ _ _ h => h) (Or.inl ⟨by rfl, ?_⟩) hS0 ?_
        case refine_2 => (intro W hSW; go_simp; try with_reducible rfl)
        try simp only [Act.put, List.setIfInBounds_toArray, List.set_cons_zero, List.set_cons_succ, List.getElem_toArray, List.getElem_cons_zero, List.getElem_cons_succ]
        refine wpAnyH_take (i := 8) (v := ?_) rfl (by kernel_rfl) (by kernel_rfl) (by kernel_rfl) (fun _ _ _ h => h) (Or.inl ⟨by rfl, ?_⟩) hS0 ?_
        case refine_2 => (intro W hSW; obtain ⟨z0, z1, z2, z3⟩ := hSW; go_simp; try with_reducible rfl)
        try simp only [Act.put, List.setIfInBounds_toArray, List.set_cons_zero, List.set_cons_succ, List.getElem_toArray, List.getElem_cons_zero, List.getElem_cons_succ]
        refine wpAnyH_ready (rs := [9]) (by kernel_rfl) (by simp) ?_
        refine AllReadyH.cons rfl (fun K' hK => ?_) AllReadyH.nil
        go_simp
        go_at_call 65
        refine (CL.out _ (by (repeat (first | with_reducible assumption | with_reducible refine below_new ?_ _ | with_reducible refine Below.drew ?_ | with_reducible exact Below.refl _ _)))).mono ?_
        rintro e x1 ⟨rfl, hx1⟩
        have hk1 : Below wr.heap.size wr x1 := below_next (by (repeat (first | with_reducible assumption | with_reducible refine below_new ?_ _ | with_reducible refine Below.drew ?_ | with_reducible exact Below.refl _ _))) hx1
        try simp only [Act.put, List.setIfInBounds_toArray, List.set_cons_zero, List.set_cons_succ, List.getElem_toArray, List.getElem_cons_zero, List.getElem_cons_succ]
        refine hK.out _ _ (HC.out x1 hk1) (fun hS0 => ?_)
        refine wpAnyH_take (i := 10) (v := ?_) rfl (by kernel_rfl) (by kernel_rfl) (by kernel_rfl) (fun _ _ _ h => h) (Or.inl ⟨by rfl, ?_⟩) hS0 ?_
        case refine_2 => (intro W hSW; go_simp; try with_reducible rfl)
        try simp only [Act.put, List.setIfInBounds_toArray, List.set_cons_zero, List.set_cons_succ, List.getElem_toArray, List.getElem_cons_zero, List.getElem_cons_succ]
        refine wpAnyH_take (i := 11) (v := ?_) rfl (by kernel_rfl) (by kernel_rfl) (by kernel_rfl) (fun _ _ _ h => h) (Or.inl ⟨by rfl, ?_⟩) hS0 ?_
        case refine_2 => (intro W hSW; go_simp; try with_reducible rfl)
        try simp only [Act.put, List.setIfInBounds_toArray, List.set_cons_zero, List.set_cons_succ, List.getElem_toArray, List.getElem_cons_zero, List.getElem_cons_succ]
        refine wpAnyH_done (by kernel_rfl) (NoPanic.normal ?_) _
        go_wp2_with fail
        go_meet
        exact ⟨by first | rfl | (rw [hdz]), ⟨hk1⟩⟩
      case rest =>
        obtain ⟨rfl, hcut⟩ := hcut
        have HS2 := kept (HS.out.next hcut.out)
        obtain ⟨w4, hw4⟩ : ∃ w4 : World, w4 = wc := ⟨_, rfl⟩
        rw [← hw4] at HS2 ⊢
        clear hw4 hcut HC CL HS hdz hqi
        cases d with
        | false =>
          have HI2 := kept (And.intro (HY1.out rfl) HI.out.2)
          clear HY1 HY2 HI
          go_wp2_with fail
          go_roundw
          case rel => (refine ⟨q + 1, j, by go_num, rfl, by omega, by omega, hjm, ?_, ?_⟩ <;> with_reducible assumption)
          case measure => simp [intOf]; omega
        | true =>
          have HI2 := kept (And.intro HI.out.1 (HY2.out rfl))
          clear HY1 HY2 HI
          go_wp2_with fail
          go_roundw
          case rel => (refine ⟨i, q, rfl, by go_num, hpi, by omega, by omega, ?_, ?_⟩ <;> with_reducible assumption)
          case measure => simp [intOf]; omega
    · obtain rfl : i = j := by omega
      have hge : ¬ (i : Int) < (i : Int) := by omega
      obtain ⟨U, V, hUV, hUl⟩ := split_at (l := X) (k := i - pl) (by have h4 := HML.out; omega)
      have HM : Kept (mrg ltC X [y] = U ++ y :: V) := ⟨by
        rw [mrg_one, hUV]
        refine ins_split U V y (fun u hu => ?_) fun v hv => ?_
        · obtain ⟨t, ht, rfl⟩ := List.mem_iff_getElem.1 hu
          exact HI.out.1 t _ (by rw [hUV, List.getElem?_append_left ht, List.getElem?_eq_getElem ht]) (by omega)
        · refine HI.out.2 U.length v ?_ (by omega)
          rw [hUV, List.getElem?_append_right (Nat.le_refl _), Nat.sub_self]
          rw [List.head?_eq_getElem?] at hv
          exact hv⟩
      have HUL : Kept (pl + U.length = i) := ⟨by omega⟩
      have HVL : Kept (ml = i + V.length) := ⟨by have h4 := HML.out; rw [hUV, List.length_append] at h4; omega⟩
      have H1 : Kept (∃ V1 V2, V = V1 ++ V2 ∧ V1.length = V.length ∧ SS base A n c w wr (P ++ U ++ V1 ++ y :: V2 ++ Q)) := ⟨V, [], by simp, rfl, by
        have := HS.out
        rw [hUV] at this
        simpa using this⟩
      clear HI HS hUV hUl
      go_wp2_with fail
      go_loopw [17] (fun kv wr => ∃ (k t : Nat), kv = .int .i64 (k : Int) ∧ i ≤ k ∧ k ≤ ml ∧ Kept (k = i + t) ∧ Kept (∃ V1 V2, V = V1 ++ V2 ∧ V1.length = t ∧ SS base A n c w wr (P ++ U ++ V1 ++ y :: V2 ++ Q))) (fun kv _ => (intOf kv).toNat)
      case atStart => exact ⟨ml, V.length, rfl, hjm, Nat.le_refl _, HVL, H1⟩
      case round =>
        clear H1
        obtain ⟨k, t, rfl, hik, hkm, HKT, HU⟩ := hrel
        by_cases hlt : i < k
        · have hk1 : (i : Int) < (k : Int) := by omega
          obtain ⟨V1, V2, hu1, hu2, hss⟩ := HU.out
          rcases List.eq_nil_or_concat V1 with rfl | ⟨V3, v, rfl⟩
          · exfalso; have h2 := HKT.out; simp at hu2; omega
          · rw [List.concat_eq_append] at hu1 hu2 hss
            have hkn : k < n := by omega
            have e1 : P ++ U ++ (V3 ++ [v]) ++ y :: V2 ++ Q = (P ++ U ++ V3) ++ v :: y :: (V2 ++ Q) := by simp
            have e2 : (P ++ U ++ V3) ++ y :: v :: (V2 ++ Q) = P ++ U ++ V3 ++ y :: (v :: V2) ++ Q := by simp
            have hk4 : k = (P ++ U ++ V3).length + 1 := by
              have h1 := HUL.out; have h2 := HKT.out; have h3 := HPL.out
              simp at hu2 ⊢
              omega
            obtain ⟨l1, l2, l3⟩ := list_next (u := v) (x := y) (Q := V2 ++ Q) hk4
            rw [e1] at hss
            obtain ⟨g, rfl, f0, f1, k0, k1, hcc⟩ := hss.two l1 l2
            obtain ⟨c0, c1, d0, d1⟩ := hcc wr (Below.refl _ _)
            have HSW : Kept (SS base (some ⟨g, 0, none⟩) n c w (swW wr g k (k - 1) y v) (P ++ U ++ V3 ++ y :: (v :: V2) ++ Q)) := ⟨by
              have h2 := swW_own hss.1 l1 l2 (show k ≠ k - 1 by omega)
              rw [l3, e2] at h2
              exact ⟨h2, swW_upd hss.2 rfl _ _⟩⟩
            have HU2 : Kept (V = V3 ++ (v :: V2) ∧ V3.length = t - 1 ∧ k - 1 = i + (t - 1)) := ⟨by rw [hu1]; simp, by simp at hu2; omega, by have := HKT.out; omega⟩
            clear HU hss l1 l2 l3 e1 e2 hcc hu1 hu2 hk4
            obtain ⟨xcid, xX, xls, xc⟩ := v
            obtain ⟨ycid, yX, yls, yc⟩ := y
            dsimp only at c0 c1 d0 d1 HSW
            unfold swW at HSW
            dsimp only at HSW
            have hq1n : k - 1 < n := by omega
            have hqi2 : (0 : Int) ≤ ((k - 1 : Nat) : Int) := by omega
            have hqi3 : ((k - 1 : Nat) : Int) < (n : Int) := by omega
            have hqi4 : (k : Int) < (n : Int) := by omega
            have hne : ¬ k = k - 1 := by omega
            have hne2 : ¬ k - 1 = k := by omega
            have HW1 : Kept (IntKind.i64.wrap ((k : Int) - 1) = ((k - 1 : Nat) : Int)) := ⟨by rw [IntWalk.i64_in _ (by omega)]; omega⟩
            have HQI : Kept (((k : Int) - 1) = ((k - 1 : Nat) : Int)) := ⟨by omega⟩
            go_upto_region 23 with fail
            have hw1 := HW1.out
            go_region
            all_goals
              clear hw1
              go_wp2_with fail
              go_roundw
              case rel => (refine ⟨k - 1, t - 1, by first | rfl | (rw [HQI.out]), by omega, by omega, ⟨HU2.out.2.2⟩, ⟨V3, ⟨xcid, xX, xls, xc⟩ :: V2, HU2.out.1, HU2.out.2.1, ?_⟩⟩; with_reducible exact HSW.out)
              case measure => simp [intOf]; omega
        · have hk1 : ¬ (i : Int) < (k : Int) := by omega
          have HF := kept (HR.out wr (by
            obtain ⟨V1, V2, hu1, hu2, hss⟩ := HU.out
            obtain rfl : V1 = [] := by
              have h2 := HKT.out
              exact List.eq_nil_of_length_eq_zero (by omega)
            rw [HM.out, hu1]
            simpa using hss))
          go_wp2_with fail
          go_end0
          exact HF.out
end Go.Proofs.YtfkfpanhbanljaaGreatDoor.Stab

/- slices.SortStableFunc of cards: merging. (printed by tools/gensm.py) -/
namespace Go.Proofs.YtfkfpanhbanljaaGreatDoor.Stab
open Go.RowKit Go.Proofs.YtfkfpanhbanljaaGreatDoor.Mem Go.Proofs.YtfkfpanhbanljaaGreatDoor.Card Go.Proofs.YtfkfpanhbanljaaGreatDoor.List44

/-- what merging promises -/
def SymOk (base : Nat) (A : Option Addr) (n c : Nat) (l P X Y Q : List CardM) (w : World) : Prop :=
  (P ++ X ++ Y ++ Q).length = n → cardE.Own w base 31 (.slice A n c) (P ++ X ++ Y ++ Q) → CmpOk A n c w l → (∀ x ∈ X, x ∈ l) → (∀ y ∈ Y, y ∈ l) → 0 < X.length → 0 < Y.length → Srt ltC X → Srt ltC Y →
    Calls Tryz.prog 122 #[.slice A n c, .int .i64 (P.length : Int), .int .i64 ((P.length + X.length : Nat) : Int), .int .i64 ((P.length + X.length + Y.length : Nat) : Int), .func (.func 65) #[] #[]] w (RowTo base A n c w (P ++ mrg ltC X Y ++ Q))
theorem srt_left {X Y : List CardM} (h : Srt ltC (X ++ Y)) : Srt ltC X := (List.pairwise_append.1 h).1
theorem srt_right {X Y : List CardM} (h : Srt ltC (X ++ Y)) : Srt ltC Y := (List.pairwise_append.1 h).2.1
set_option maxRecDepth 100000 in
set_option maxHeartbeats 16000000 in
theorem symG_own (base : Nat) (A : Option Addr) (c n : Nat) (l P X Y Q : List CardM) (w : World) (hsz : n ≤ 1000000) (IH : ∀ P' X' Y' Q' w', X'.length + Y'.length < X.length + Y.length → SymOk base A n c l P' X' Y' Q' w') (hx2 : X.length ≠ 1) (hy2 : Y.length ≠ 1) : SymOk base A n c l P X Y Q w := by
  intro hn h hc hX hY hx0 hy0 hsX hsY
  obtain ⟨T0, hT0⟩ : ∃ T0, P ++ mrg ltC X Y ++ Q = T0 := ⟨_, rfl⟩
  have HR : Kept (∀ W, SS base A n c w W (P ++ mrg ltC X Y ++ Q) → RowTo base A n c w T0 (.returned (.tuple #[])) W) := ⟨fun W h => ⟨rfl, by rw [← hT0]; exact h.1, h.2⟩⟩
  rw [hT0]
  clear hT0
  have HCMP := kept hc
  have HXY := kept (And.intro hX hY)
  have HS0 : Kept (SS base A n c w w (P ++ X ++ Y ++ Q)) := ⟨⟨h, Upd.refl _ _⟩⟩
  have HSRT := kept (And.intro hsX hsY)
  have HIH := kept IH
  have HN := kept hn
  obtain ⟨pl, hpl⟩ : ∃ pl, P.length = pl := ⟨_, rfl⟩
  obtain ⟨ml, hml⟩ : ∃ ml, P.length + X.length = ml := ⟨_, rfl⟩
  obtain ⟨bl, hbl⟩ : ∃ bl, P.length + X.length + Y.length = bl := ⟨_, rfl⟩
  have hbln : bl ≤ n := by simp at hn; omega
  have hpm : pl < ml := by omega
  have hmb : ml < bl := by omega
  have HPL := kept hpl
  have HML : Kept (pl + X.length = ml) := ⟨by omega⟩
  have HBL : Kept (ml + Y.length = bl) := ⟨by omega⟩
  rw [hbl, hml, hpl]
  have hd0 : ¬ ((ml : Int) - (pl : Int)) = 1 := by omega
  have hd1 : (((ml : Int) - (pl : Int)) == 1) = false := by rw [beq_eq_false_iff_ne]; exact hd0
  have hd2 : ¬ ((bl : Int) - (ml : Int)) = 1 := by omega
  have hd3 : (((bl : Int) - (ml : Int)) == 1) = false := by rw [beq_eq_false_iff_ne]; exact hd2
  obtain ⟨md, hmd⟩ : ∃ md, (pl + bl) / 2 = md := ⟨_, rfl⟩
  have hmdi : ((pl : Int) + (bl : Int)) / 2 = (md : Int) := by omega
  have hpmd : pl ≤ md := by omega
  have hmdb : md < bl := by omega
  obtain ⟨lo, hi, HLO, hl1, hl2, hl3, hl4, hl5⟩ : ∃ lo hi, Kept ((md < ml → lo + bl = md + ml ∧ hi = md) ∧ (ml ≤ md → lo = pl ∧ hi = ml)) ∧ pl ≤ lo ∧ lo ≤ hi ∧ hi ≤ ml ∧ hi ≤ md ∧ md + ml ≤ lo + bl := by
    by_cases hg : md < ml
    · exact ⟨md + ml - bl, md, ⟨fun _ => ⟨by omega, rfl⟩, fun h => by omega⟩, by omega, by omega, by omega, by omega, by omega⟩
    · exact ⟨pl, ml, ⟨fun h => by omega, fun _ => ⟨rfl, rfl⟩⟩, by omega, by omega, by omega, by omega, by omega⟩
  have HMD : Kept (2 * md ≤ pl + bl ∧ pl + bl ≤ 2 * md + 1) := ⟨by omega⟩
  clear hn h hc hX hY hx0 hy0 hsX hsY hpl hml hbl hx2 hy2 IH hmd
  go_enter Tryz.func122, Tryz.ntmps122
  go_upto_if 140 with fail
  clear hd0 hd1 hd2 hd3
  go_cut [20, 21] (fun s r wx => s = .int .i64 (lo : Int) ∧ r = .int .i64 (hi : Int) ∧ wx = w)
  case first => as_aux_lemma =>
    clear HS0 HSRT HIH HR HCMP HXY HN
    by_cases hg : md < ml
    · have hgi : (md : Int) < (ml : Int) := by omega
      obtain ⟨e1, e2⟩ := HLO.out.1 hg
      have e3 : (md : Int) + (ml : Int) - (bl : Int) = (lo : Int) := by omega
      have E2 : Kept ((md : Int) = (hi : Int)) := ⟨by omega⟩
      clear e1 e2
      go_wp2_with fail
      go_meet
      exact ⟨rfl, by rw [E2.out], rfl⟩
    · have hgi : ¬ (md : Int) < (ml : Int) := by omega
      obtain ⟨e1, e2⟩ := HLO.out.2 (by omega)
      have E1 : Kept ((pl : Int) = (lo : Int) ∧ (ml : Int) = (hi : Int)) := ⟨by omega, by omega⟩
      clear e1 e2
      go_wp2_with fail
      go_meet
      exact ⟨by rw [E1.out.1], by rw [E1.out.2], rfl⟩
  case rest =>
    obtain ⟨rfl, rfl, hwc⟩ := hcut
    rw [hwc]
    clear hwc
    have hmm1 : (0 : Int) ≤ (md : Int) + (ml : Int) - 1 := by omega
    go_wp2_with fail
    go_loopw [20, 21] (fun sv rv wr => ∃ s r : Nat, sv = .int .i64 (s : Int) ∧ rv = .int .i64 (r : Int) ∧ lo ≤ s ∧ s ≤ r ∧ r ≤ hi ∧ Kept ((lo < s → ∀ x y, X[s - 1 - pl]? = some x → Y[md - s]? = some y → ltC y x = false) ∧ (r < hi → ∀ x y, X[r - pl]? = some x → Y[md - 1 - r]? = some y → ltC y x = true)) ∧ Kept (SS base A n c w wr (P ++ X ++ Y ++ Q))) (fun sv rv _ => (intOf rv).toNat - (intOf sv).toNat)
    case atStart => exact ⟨lo, hi, rfl, rfl, Nat.le_refl _, hl2, Nat.le_refl _, ⟨fun h => by omega, fun h => by omega⟩, HS0⟩
    case round =>
      clear HS0
      obtain ⟨s, r, rfl, rfl, hls, hsr, hrh, HF, HS⟩ := hrel
      by_cases hlt : s < r
      · obtain ⟨q, hq⟩ : ∃ q, (s + r) / 2 = q := ⟨_, rfl⟩
        have hq1 : s ≤ q := by omega
        have hq2 : q < r := by omega
        have hqi : ((s : Int) + (r : Int)) / 2 = (q : Int) := by omega
        have hsr2 : (s : Int) < (r : Int) := by omega
        obtain ⟨x, hx⟩ : ∃ x, X[q - pl]? = some x := ⟨_, List.getElem?_eq_getElem (by have h4 := HML.out; omega)⟩
        obtain ⟨y, hy⟩ : ∃ y, Y[md - 1 - q]? = some y := ⟨_, List.getElem?_eq_getElem (by have h4 := HBL.out; omega)⟩
        obtain ⟨k, hk⟩ : ∃ k, ml + (md - 1 - q) = k := ⟨_, rfl⟩
        have hkb : k < bl := by have h4 := HBL.out; have h5 := (List.getElem?_eq_some_iff.1 hy).1; omega
        have HKI : Kept ((md : Int) + (ml : Int) - 1 - (q : Int) = (k : Int)) := ⟨by omega⟩
        have l1 : (P ++ X ++ Y ++ Q)[k]? = some y := at_mid (P := P ++ X) hy (by rw [List.length_append, HPL.out]; have h4 := HML.out; omega)
        have l2 : (P ++ X ++ Y ++ Q)[q]? = some x := by
          have : P ++ X ++ Y ++ Q = P ++ X ++ (Y ++ Q) := by simp
          rw [this]
          exact at_mid hx (by rw [HPL.out]; omega)
        obtain ⟨g, rfl, -, -, -, -, hcc⟩ := HS.out.two l1 l2
        have HC := kept hcc
        have CL := kept (fun W' (hb : Below wr.heap.size wr W') => HCMP.out W' y x (HS.out.2.next hb) (HXY.out.2 y (List.mem_of_getElem? hy)) (HXY.out.1 x (List.mem_of_getElem? hx)))
        have HY1 : Kept (ltC y x = false → (lo < q + 1 → ∀ x y, X[q + 1 - 1 - pl]? = some x → Y[md - (q + 1)]? = some y → ltC y x = false)) := ⟨fun h _ x' y' hx' hy' => by
          rw [Nat.add_sub_cancel, hx] at hx'
          rw [show md - (q + 1) = md - 1 - q by omega, hy] at hy'
          rw [← Option.some.inj hx', ← Option.some.inj hy']; exact h⟩
        have HY2 : Kept (ltC y x = true → (q < hi → ∀ x y, X[q - pl]? = some x → Y[md - 1 - q]? = some y → ltC y x = true)) := ⟨fun h _ x' y' hx' hy' => by
          rw [hx] at hx'
          rw [hy] at hy'
          rw [← Option.some.inj hx', ← Option.some.inj hy']; exact h⟩
        have HLT : Kept (ltC y x = decide (cmpC y x < 0)) := ⟨rfl⟩
        have hqn : (q : Int) < (n : Int) := by omega
        have hqn2 : q < n := by omega
        have hkn : (k : Int) < (n : Int) := by omega
        have hkn2 : k < n := by omega
        have HKW : Kept (IntKind.i64.wrap ((md : Int) + (ml : Int) - 1 - (q : Int)) = (k : Int)) := ⟨by rw [IntWalk.i64_in _ (by omega)]; exact HKI.out⟩
        obtain ⟨xcid, xX, xls, xc⟩ := x
        obtain ⟨ycid, yX, yls, yc⟩ := y
        unfold CardM.val at CL
        dsimp only at HC CL
        generalize cmpC ⟨ycid, yX, yls, yc⟩ ⟨xcid, xX, xls, xc⟩ = z at *
        obtain ⟨d, hd⟩ : ∃ d, ltC ⟨ycid, yX, yls, yc⟩ ⟨xcid, xX, xls, xc⟩ = d := ⟨_, rfl⟩
        rw [hd] at HLT HY1 HY2
        have hdz : decide (z < 0) = d := HLT.out.symm
        clear hd HLT hcc l1 l2 hx hy hq hk
        go_upto_region 35 with fail
        go_cut [171] (fun v wr' => v = .bool (!d) ∧ Kept (Below wr.heap.size wr wr'))
        case first => as_aux_lemma =>
          have hd0 : Below wr.heap.size wr wr := Below.refl _ _
          clear HY1 HY2 HF HS HR hqi
          have hkw := HKW.out
          refine wp_region_noPanic ?_
          refine wp_region_held_drew (S := fun W => W.cell? ⟨g, k * 2, none⟩ = some (.int .u64 (ycid : Int)) ∧ W.cell? ⟨g, k * 2 + 1, none⟩ = some (.slice yX yls.length yc) ∧ W.cell? ⟨g, q * 2, none⟩ = some (.int .u64 (xcid : Int)) ∧ W.cell? ⟨g, q * 2 + 1, none⟩ = some (.slice xX xls.length xc)) (by kernel_rfl) (HC.out _ (by (repeat (first | with_reducible assumption | with_reducible refine below_new ?_ _ | with_reducible refine Below.drew ?_ | with_reducible exact Below.refl _ _)))) (fun hS0 => ?_)
          refine wpAnyH_take (i := 0) (v := ?_) rfl (by kernel_rfl) (by kernel_rfl) (by kernel_rfl) (fun _ _ _ h => h) (Or.inl ⟨by rfl, ?_⟩) hS0 ?_
          case refine_2 => (intro W hSW; go_simp; try with_reducible rfl)
          try simp only [Act.put, List.setIfInBounds_toArray, List.set_cons_zero, List.set_cons_succ, List.getElem_toArray, List.getElem_cons_zero, List.getElem_cons_succ]
          refine wpAnyH_take (i := 1) (v := ?_) rfl (by kernel_rfl) (by kernel_rfl) (by kernel_rfl) (fun _ _ _ h => h) (Or.inl ⟨by rfl, ?_⟩) hS0 ?_
          case refine_2 => (intro W hSW; go_simp; try with_reducible rfl)
          try simp only [Act.put, List.setIfInBounds_toArray, List.set_cons_zero, List.set_cons_succ, List.getElem_toArray, List.getElem_cons_zero, List.getElem_cons_succ]
          refine wpAnyH_take (i := 2) (v := ?_) rfl (by kernel_rfl) (by kernel_rfl) (by kernel_rfl) (fun _ _ _ h => h) (Or.inl ⟨by rfl, ?_⟩) hS0 ?_
          case refine_2 => (intro W hSW; go_simp; try with_reducible rfl)
          try simp only [Act.put, List.setIfInBounds_toArray, List.set_cons_zero, List.set_cons_succ, List.getElem_toArray, List.getElem_cons_zero, List.getElem_cons_succ]
          refine wpAnyH_take (i := 3) (v := ?_) rfl (by kernel_rfl) (by kernel_rfl) (by kernel_rfl) (fun _ _ _ h => h) (Or.inl ⟨by rfl, ?_⟩) hS0 ?_
          case refine_2 => (intro W hSW; go_simp; try with_reducible rfl)
          try simp only [Act.put, List.setIfInBounds_toArray, List.set_cons_zero, List.set_cons_succ, List.getElem_toArray, List.getElem_cons_zero, List.getElem_cons_succ]
          refine wpAnyH_take (i := 4) (v := ?_) rfl (by kernel_rfl) (by kernel_rfl) (by kernel_rfl) (fun _ _ _ h => h) (Or.inl ⟨by rfl, ?_⟩) hS0 ?_
          case refine_2 => (intro W hSW; go_simp; try with_reducible rfl)
          try simp only [Act.put, List.setIfInBounds_toArray, List.set_cons_zero, List.set_cons_succ, List.getElem_toArray, List.getElem_cons_zero, List.getElem_cons_succ]
          refine wpAnyH_take (i := 5) (v := ?_) rfl (by kernel_rfl) (by kernel_rfl) (by kernel_rfl) (fun _ _ _ h => h) (Or.inl ⟨by rfl, ?_⟩) hS0 ?_
          case refine_2 => (intro W hSW; go_simp; try with_reducible rfl)
          try simp only [Act.put, List.setIfInBounds_toArray, List.set_cons_zero, List.set_cons_succ, List.getElem_toArray, List.getElem_cons_zero, List.getElem_cons_succ]
          refine wpAnyH_take (i := 6) (v := ?_) rfl (by kernel_rfl) (by kernel_rfl) (by kernel_rfl) (fun _ _ _ h => h) (Or.inl ⟨by rfl, ?_⟩) hS0 ?_
          case refine_2 => (intro W hSW; obtain ⟨z0, z1, z2, z3⟩ := hSW; go_simp; try with_reducible rfl)
          try simp only [Act.put, List.setIfInBounds_toArray, List.set_cons_zero, List.set_cons_succ, List.getElem_toArray, List.getElem_cons_zero, List.getElem_cons_succ]
          refine wpAnyH_take (i := 7) (v := ?_) rfl (by kernel_rfl) (by kernel_rfl) (by kernel_rfl) (fun _ _ _ h => h) (Or.inl ⟨by rfl, ?_⟩) hS0 ?_
          case refine_2 => (intro W hSW; go_simp; try with_reducible rfl)
          try simp only [Act.put, List.setIfInBounds_toArray, List.set_cons_zero, List.set_cons_succ, List.getElem_toArray, List.getElem_cons_zero, List.getElem_cons_succ]
          refine wpAnyH_take (i := 8) (v := ?_) rfl (by kernel_rfl) (by kernel_rfl) (by kernel_rfl) (fun _ _ _ h => h) (Or.inl ⟨by rfl, ?_⟩) hS0 ?_
          case refine_2 => (intro W hSW; go_simp; try with_reducible rfl)
          try simp only [Act.put, List.setIfInBounds_toArray, List.set_cons_zero, List.set_cons_succ, List.getElem_toArray, List.getElem_cons_zero, List.getElem_cons_succ]
          refine wpAnyH_take (i := 9) (v := ?_) rfl (by kernel_rfl) (by kernel_rfl) (by kernel_rfl) (fun _ _ _ h => h) (Or.inl ⟨by rfl, ?_⟩) hS0 ?_
          case refine_2 => (intro W hSW; go_simp; try with_reducible rfl)
          try simp only [Act.put, List.setIfInBounds_toArray, List.set_cons_zero, List.set_cons_succ, List.getElem_toArray, List.getElem_cons_zero, List.getElem_cons_succ]
          refine wpAnyH_take (i := 10) (v := ?_) rfl (by kernel_rfl) (by kernel_rfl) (by kernel_rfl) (fun _ _ _ h => h) (Or.inl ⟨by rfl, ?_⟩) hS0 ?_
          case refine_2 => (intro W hSW; obtain ⟨z0, z1, z2, z3⟩ := hSW; go_simp; try with_reducible rfl)
          try simp only [Act.put, List.setIfInBounds_toArray, List.set_cons_zero, List.set_cons_succ, List.getElem_toArray, List.getElem_cons_zero, List.getElem_cons_succ]
          refine wpAnyH_ready (rs := [11]) (by kernel_rfl) (by simp) ?_
          refine AllReadyH.cons rfl (fun K' hK => ?_) AllReadyH.nil
          go_simp
          go_at_call 65
          refine (CL.out _ (by (repeat (first | with_reducible assumption | with_reducible refine below_new ?_ _ | with_reducible refine Below.drew ?_ | with_reducible exact Below.refl _ _)))).mono ?_
          rintro e x1 ⟨rfl, hx1⟩
          have hk1 : Below wr.heap.size wr x1 := below_next (by (repeat (first | with_reducible assumption | with_reducible refine below_new ?_ _ | with_reducible refine Below.drew ?_ | with_reducible exact Below.refl _ _))) hx1
          try simp only [Act.put, List.setIfInBounds_toArray, List.set_cons_zero, List.set_cons_succ, List.getElem_toArray, List.getElem_cons_zero, List.getElem_cons_succ]
          refine hK.out _ _ (HC.out x1 hk1) (fun hS0 => ?_)
          refine wpAnyH_take (i := 12) (v := ?_) rfl (by kernel_rfl) (by kernel_rfl) (by kernel_rfl) (fun _ _ _ h => h) (Or.inl ⟨by rfl, ?_⟩) hS0 ?_
          case refine_2 => (intro W hSW; go_simp; try with_reducible rfl)
          try simp only [Act.put, List.setIfInBounds_toArray, List.set_cons_zero, List.set_cons_succ, List.getElem_toArray, List.getElem_cons_zero, List.getElem_cons_succ]
          refine wpAnyH_take (i := 13) (v := ?_) rfl (by kernel_rfl) (by kernel_rfl) (by kernel_rfl) (fun _ _ _ h => h) (Or.inl ⟨by rfl, ?_⟩) hS0 ?_
          case refine_2 => (intro W hSW; go_simp; try with_reducible rfl)
          try simp only [Act.put, List.setIfInBounds_toArray, List.set_cons_zero, List.set_cons_succ, List.getElem_toArray, List.getElem_cons_zero, List.getElem_cons_succ]
          refine wpAnyH_done (by kernel_rfl) (NoPanic.normal ?_) _
          go_wp2_with fail
          go_meet
          exact ⟨by first | rfl | (rw [hdz]), ⟨hk1⟩⟩
        case rest =>
          obtain ⟨rfl, hcut⟩ := hcut
          have HS2 := kept (HS.out.next hcut.out)
          obtain ⟨w4, hw4⟩ : ∃ w4 : World, w4 = wc := ⟨_, rfl⟩
          rw [← hw4] at HS2 ⊢
          clear hw4 hcut HC CL HS hdz hqi
          cases d with
          | false =>
            have HI2 := kept (And.intro (HY1.out rfl) HF.out.2)
            clear HY1 HY2 HF
            go_wp2_with fail
            go_roundw
            case rel => (refine ⟨q + 1, r, by go_num, rfl, by omega, by omega, hrh, ?_, ?_⟩ <;> with_reducible assumption)
            case measure => simp [intOf]; omega
          | true =>
            have HI2 := kept (And.intro HF.out.1 (HY2.out rfl))
            clear HY1 HY2 HF
            go_wp2_with fail
            go_roundw
            case rel => (refine ⟨s, q, rfl, by go_num, hls, by omega, by omega, ?_, ?_⟩ <;> with_reducible assumption)
            case measure => simp [intOf]; omega
      · obtain rfl : s = r := by omega
        have hge : ¬ (s : Int) < (s : Int) := by omega
        obtain ⟨X1, X2, hX12, hX1⟩ := split_at (l := X) (k := s - pl) (by have h4 := HML.out; omega)
        obtain ⟨Y1, Y2, hY12, hY1⟩ := split_at (l := Y) (k := md - s) (by have h4 := HBL.out; omega)
        have HCUT : Kept (mrg ltC X Y = mrg ltC X1 Y1 ++ mrg ltC X2 Y2) := ⟨by
          have hc := cut_ok (u := s - pl) (v := md - s) swoC HSRT.out.1 HSRT.out.2 (by have h4 := HML.out; omega) (by have h4 := HBL.out; omega) (fun x y h0 hx hy => by
            by_cases h1 : lo < s
            · exact HF.out.1 h1 x y (by rw [show s - 1 - pl = s - pl - 1 by omega]; exact hx) hy
            · exfalso
              have h5 := (List.getElem?_eq_some_iff.1 hy).1
              have h6 := HBL.out
              by_cases hg : md < ml
              · have h7 := HLO.out.1 hg; omega
              · have h7 := HLO.out.2 (by omega); omega) (fun x y h0 hx hy => by
            by_cases h1 : s < hi
            · exact HF.out.2 h1 x y hx (by rw [show md - 1 - s = md - s - 1 by omega]; exact hy)
            · exfalso
              have h5 := (List.getElem?_eq_some_iff.1 hx).1
              have h6 := HML.out
              by_cases hg : md < ml
              · have h7 := HLO.out.1 hg; omega
              · have h7 := HLO.out.2 (by omega); omega)
          have t1 : X.take (s - pl) = X1 := by rw [hX12, ← hX1]; exact List.take_left
          have t2 : X.drop (s - pl) = X2 := by rw [hX12, ← hX1]; exact List.drop_left
          have t3 : Y.take (md - s) = Y1 := by rw [hY12, ← hY1]; exact List.take_left
          have t4 : Y.drop (md - s) = Y2 := by rw [hY12, ← hY1]; exact List.drop_left
          rw [t1, t2, t3, t4] at hc
          exact hc⟩
        obtain ⟨en, hen⟩ : ∃ en, ml + (md - s) = en := ⟨_, rfl⟩
        have hmen : ml ≤ en := by omega
        have henb : en ≤ bl := by omega
        have heni : (md : Int) + (ml : Int) - (s : Int) = (en : Int) := by omega
        have HSZ : Kept (X1.length = s - pl ∧ X2.length = ml - s ∧ Y1.length = md - s ∧ Y2.length = bl - en) := ⟨hX1, by have h4 := HML.out; rw [hX12, List.length_append] at h4; omega, hY1, by have h4 := HBL.out; rw [hY12, List.length_append] at h4; omega⟩
        have HLL : Kept (X.length + Y.length = bl - pl) := ⟨by have h4 := HML.out; have h5 := HBL.out; omega⟩
        have HEN := kept hen
        have HST : Kept (Srt ltC X1 ∧ Srt ltC X2 ∧ Srt ltC Y1 ∧ Srt ltC Y2) := ⟨by
          have h1 := HSRT.out.1
          have h2 := HSRT.out.2
          rw [hX12] at h1
          rw [hY12] at h2
          exact ⟨srt_left h1, srt_right h1, srt_left h2, srt_right h2⟩⟩
        have HMM : Kept ((∀ x ∈ X1, x ∈ l) ∧ (∀ x ∈ X2, x ∈ l) ∧ (∀ x ∈ Y1, x ∈ l) ∧ (∀ x ∈ Y2, x ∈ l)) := ⟨by
          have h1 := HXY.out.1
          have h2 := HXY.out.2
          rw [hX12] at h1
          rw [hY12] at h2
          exact ⟨fun x hx => h1 x (List.mem_append_left _ hx), fun x hx => h1 x (List.mem_append_right _ hx), fun x hx => h2 x (List.mem_append_left _ hx), fun x hx => h2 x (List.mem_append_right _ hx)⟩⟩
        have HN2 : Kept ((P ++ X1 ++ X2 ++ Y1 ++ (Y2 ++ Q)).length = n) := ⟨by
          have h1 := HN.out
          rw [hX12, hY12] at h1
          simp at h1 ⊢
          omega⟩
        have HS3 : Kept (SS base A n c w wr (P ++ X1 ++ X2 ++ Y1 ++ (Y2 ++ Q))) := ⟨by
          have h1 := HS.out
          rw [hX12, hY12] at h1
          simpa using h1⟩
        have hps : pl ≤ s := by omega
        have hsm : s ≤ ml := by omega
        have hsmd : s ≤ md := by omega
        clear HS HF hX12 hX1 hY12 hY1 hen HN HXY HSRT HLO hls hrh hsr
        obtain ⟨w3, hw3⟩ : ∃ w3 : World, w3 = wr := ⟨_, rfl⟩
        rw [← hw3] at HS3 ⊢
        clear hw3 wr
        obtain ⟨BB, hBB⟩ : ∃ BB, (decide (s < ml) && decide (ml < en)) = BB := ⟨_, rfl⟩
        have HBB := kept hBB
        clear hBB
        go_upto_region 39 with fail
        go_cut [185] (fun b wx => b = .bool BB ∧ wx = w3)
        case first => as_aux_lemma =>
          clear HIH HR HCUT HST HMM HSZ HEN HLL HCMP HMD
          by_cases h1 : s < ml
          · have h1i : (s : Int) < (ml : Int) := by omega
            by_cases h2 : ml < en
            · have h2i : (ml : Int) < (en : Int) := by omega
              go_wp2_with fail
              go_meet
              exact ⟨by rw [← HBB.out, decide_eq_true h1, decide_eq_true h2]; rfl, rfl⟩
            · have h2i : ¬ (ml : Int) < (en : Int) := by omega
              go_wp2_with fail
              go_meet
              exact ⟨by rw [← HBB.out, decide_eq_true h1, decide_eq_false h2]; rfl, rfl⟩
          · have h1i : ¬ (s : Int) < (ml : Int) := by omega
            go_wp2_with fail
            go_meet
            exact ⟨by rw [← HBB.out, decide_eq_false h1]; rfl, rfl⟩
        obtain ⟨rfl, hwcut⟩ := hcut
        rw [hwcut]
        clear hwcut
        clear heni
        go_upto_if 185 with fail
        go_cut [] (fun wx => Kept (SS base A n c w wx (P ++ X1 ++ Y1 ++ X2 ++ (Y2 ++ Q))))
        case first => as_aux_lemma =>
          clear HIH HR HCUT HST HMM
          by_cases h1 : s < ml
          · by_cases h2 : ml < en
            · obtain rfl : BB = true := by rw [← HBB.out, decide_eq_true h1, decide_eq_true h2]; rfl
              have CR := rotate_own base A c (P ++ X1) X2 Y1 (Y2 ++ Q) (.func (.func 65) #[] #[]) w3 n (by have := HSZ.out.2.1; omega) (by have := HSZ.out.2.2.1; have h5 := HEN.out; omega) HN2.out hsz HS3.out.1
              rw [show (((P ++ X1).length : Nat) : Int) = (s : Int) by rw [List.length_append, HPL.out, HSZ.out.1]; omega, show ((((P ++ X1).length + X2.length : Nat)) : Int) = (ml : Int) by rw [List.length_append, HPL.out, HSZ.out.1, HSZ.out.2.1]; omega, show ((((P ++ X1).length + X2.length + Y1.length : Nat)) : Int) = (en : Int) by rw [List.length_append, HPL.out, HSZ.out.1, HSZ.out.2.1, HSZ.out.2.2.1]; have h5 := HEN.out; omega] at CR
              have CR := kept CR
              have HU := kept HS3.out.2
              clear HS3 HN2 HSZ
              go_wp2_with fail
              refine CR.out.mono ?_
              rintro e w5 ⟨rfl, ho5, hu5⟩
              have HX5 : Kept (SS base A n c w w5 (P ++ X1 ++ Y1 ++ X2 ++ (Y2 ++ Q))) := ⟨⟨ho5, HU.out.trans hu5⟩⟩
              clear ho5 hu5
              go_wp2_with fail
              go_meet
              with_reducible exact HX5
            · obtain rfl : BB = false := by rw [← HBB.out, decide_eq_true h1, decide_eq_false h2]; rfl
              have HX5 : Kept (SS base A n c w w3 (P ++ X1 ++ Y1 ++ X2 ++ (Y2 ++ Q))) := ⟨by
                obtain rfl : Y1 = [] := List.eq_nil_of_length_eq_zero (by have := HSZ.out.2.2.1; have h5 := HEN.out; omega)
                have h6 := HS3.out
                simpa using h6⟩
              clear HS3
              go_wp2_with fail
              go_meet
              with_reducible exact HX5
          · obtain rfl : BB = false := by rw [← HBB.out, decide_eq_false h1]; rfl
            have HX5 : Kept (SS base A n c w w3 (P ++ X1 ++ Y1 ++ X2 ++ (Y2 ++ Q))) := ⟨by
              obtain rfl : X2 = [] := List.eq_nil_of_length_eq_zero (by have := HSZ.out.2.1; omega)
              have h6 := HS3.out
              simpa using h6⟩
            clear HS3
            go_wp2_with fail
            go_meet
            with_reducible exact HX5
        case rest =>
          clear HBB
          have HS4 := hcut
          have HN3 : Kept ((P ++ X1 ++ Y1 ++ (X2 ++ Y2 ++ Q)).length = n) := ⟨by have := HN2.out; simp at this ⊢; omega⟩
          clear hcut HS3 HN2
          obtain ⟨w4, hw4⟩ : ∃ w4 : World, w4 = wc := ⟨_, rfl⟩
          rw [← hw4] at HS4 ⊢
          clear hw4
          obtain ⟨BB, hBB⟩ : ∃ BB, (decide (pl < s) && decide (s < md)) = BB := ⟨_, rfl⟩
          have HBB := kept hBB
          clear hBB
          go_upto_region 41 with fail
          go_cut [199] (fun b wx => b = .bool BB ∧ wx = w4)
          case first => as_aux_lemma =>
            clear HIH HR HCUT HST HMM HSZ HEN HLL HCMP HMD
            by_cases h1 : pl < s
            · have h1i : (pl : Int) < (s : Int) := by omega
              by_cases h2 : s < md
              · have h2i : (s : Int) < (md : Int) := by omega
                go_wp2_with fail
                go_meet
                exact ⟨by rw [← HBB.out, decide_eq_true h1, decide_eq_true h2]; rfl, rfl⟩
              · have h2i : ¬ (s : Int) < (md : Int) := by omega
                go_wp2_with fail
                go_meet
                exact ⟨by rw [← HBB.out, decide_eq_true h1, decide_eq_false h2]; rfl, rfl⟩
            · have h1i : ¬ (pl : Int) < (s : Int) := by omega
              go_wp2_with fail
              go_meet
              exact ⟨by rw [← HBB.out, decide_eq_false h1]; rfl, rfl⟩
          obtain ⟨rfl, hwcut⟩ := hcut
          rw [hwcut]
          clear hwcut
          go_upto_if 199 with fail
          go_cut [] (fun wx => Kept (SS base A n c w wx (P ++ mrg ltC X1 Y1 ++ X2 ++ Y2 ++ Q)))
          case first => as_aux_lemma =>
            clear HR HCUT
            by_cases h1 : pl < s
            · by_cases h2 : s < md
              · obtain rfl : BB = true := by rw [← HBB.out, decide_eq_true h1, decide_eq_true h2]; rfl
                have CR := HIH.out P X1 Y1 (X2 ++ Y2 ++ Q) w4 (by rw [HLL.out, HSZ.out.1, HSZ.out.2.2.1]; have h9 := HMD.out; omega) HN3.out (by have h6 := HS4.out.1; simpa using h6) (HCMP.out.after HS4.out.2) HMM.out.1 HMM.out.2.2.1 (by rw [HSZ.out.1]; omega) (by rw [HSZ.out.2.2.1]; omega) HST.out.1 HST.out.2.2.1
                rw [show ((P.length : Nat) : Int) = (pl : Int) by rw [HPL.out], show (((P.length + X1.length : Nat)) : Int) = (s : Int) by rw [HPL.out, HSZ.out.1]; omega, show (((P.length + X1.length + Y1.length : Nat)) : Int) = (md : Int) by rw [HPL.out, HSZ.out.1, HSZ.out.2.2.1]; omega] at CR
                have CR := kept CR
                have HU := kept HS4.out.2
                clear HS4 HN3 HSZ HIH HMM HST
                go_wp2_with fail
                refine CR.out.mono ?_
                rintro e w5 ⟨rfl, ho5, hu5⟩
                have HX5 : Kept (SS base A n c w w5 (P ++ mrg ltC X1 Y1 ++ X2 ++ Y2 ++ Q)) := ⟨⟨(by simpa using ho5), HU.out.trans hu5⟩⟩
                clear ho5 hu5
                go_wp2_with fail
                go_meet
                with_reducible exact HX5
              · obtain rfl : BB = false := by rw [← HBB.out, decide_eq_true h1, decide_eq_false h2]; rfl
                have HX5 : Kept (SS base A n c w w4 (P ++ mrg ltC X1 Y1 ++ X2 ++ Y2 ++ Q)) := ⟨by
                  obtain rfl : Y1 = [] := List.eq_nil_of_length_eq_zero (by have := HSZ.out.2.2.1; omega)
                  have h6 := HS4.out
                  rw [mrg_nil]
                  simpa using h6⟩
                clear HS4
                go_wp2_with fail
                go_meet
                with_reducible exact HX5
            · obtain rfl : BB = false := by rw [← HBB.out, decide_eq_false h1]; rfl
              have HX5 : Kept (SS base A n c w w4 (P ++ mrg ltC X1 Y1 ++ X2 ++ Y2 ++ Q)) := ⟨by
                obtain rfl : X1 = [] := List.eq_nil_of_length_eq_zero (by have := HSZ.out.1; omega)
                have h6 := HS4.out
                rw [nil_mrg]
                simpa using h6⟩
              clear HS4
              go_wp2_with fail
              go_meet
              with_reducible exact HX5
          case rest =>
            clear HBB
            have HS5 := hcut
            have HN4 : Kept ((P ++ mrg ltC X1 Y1 ++ X2 ++ Y2 ++ Q).length = n) := ⟨by have := HN3.out; simp [mrg_len] at this ⊢; omega⟩
            clear hcut HS4 HN3
            obtain ⟨w5, hw5⟩ : ∃ w5 : World, w5 = wc := ⟨_, rfl⟩
            rw [← hw5] at HS5 ⊢
            clear hw5
            by_cases h1 : md < en
            · have h1i : (md : Int) < (en : Int) := by omega
              by_cases h2 : en < bl
              · have h2i : (en : Int) < (bl : Int) := by omega
                have hpl2 : (P ++ mrg ltC X1 Y1).length = md := by rw [List.length_append, mrg_len, HPL.out, HSZ.out.1, HSZ.out.2.2.1]; omega
                have CR := HIH.out (P ++ mrg ltC X1 Y1) X2 Y2 Q w5 (by rw [HLL.out, HSZ.out.2.1, HSZ.out.2.2.2]; have h9 := HMD.out; have h5 := HEN.out; omega) HN4.out HS5.out.1 (HCMP.out.after HS5.out.2) HMM.out.2.1 HMM.out.2.2.2 (by rw [HSZ.out.2.1]; have h5 := HEN.out; omega) (by rw [HSZ.out.2.2.2]; omega) HST.out.2.1 HST.out.2.2.2
                rw [hpl2, show (((md + X2.length : Nat)) : Int) = (en : Int) by rw [HSZ.out.2.1]; have h5 := HEN.out; omega, show (((md + X2.length + Y2.length : Nat)) : Int) = (bl : Int) by rw [HSZ.out.2.1, HSZ.out.2.2.2]; have h5 := HEN.out; omega] at CR
                have CR := kept CR
                have HU := kept HS5.out.2
                clear HS5 HN4 HSZ HIH HMM HST hpl2
                go_wp2_with fail
                refine CR.out.mono ?_
                rintro e w6 ⟨rfl, ho6, hu6⟩
                have HF := kept (HR.out w6 ⟨(by rw [HCUT.out]; simpa using ho6), HU.out.trans hu6⟩)
                clear ho6 hu6
                go_wp2_with fail
                go_end0
                exact HF.out
              · have h2i : ¬ (en : Int) < (bl : Int) := by omega
                have HF := kept (HR.out w5 (by
                  obtain rfl : Y2 = [] := List.eq_nil_of_length_eq_zero (by have := HSZ.out.2.2.2; omega)
                  rw [HCUT.out, mrg_nil]
                  have h6 := HS5.out
                  simpa using h6))
                clear HS5
                go_wp2_with fail
                go_end0
                exact HF.out
            · have h1i : ¬ (md : Int) < (en : Int) := by omega
              have HF := kept (HR.out w5 (by
                obtain rfl : X2 = [] := List.eq_nil_of_length_eq_zero (by have := HSZ.out.2.1; have h5 := HEN.out; omega)
                rw [HCUT.out, nil_mrg]
                have h6 := HS5.out
                simpa using h6))
              clear HS5
              go_wp2_with fail
              go_end0
              exact HF.out
theorem symM_own (base : Nat) (A : Option Addr) (c n : Nat) (l : List CardM) (hsz : n ≤ 1000000) : ∀ (N : Nat) (P X Y Q : List CardM) (w : World), X.length + Y.length ≤ N → SymOk base A n c l P X Y Q w
  | 0, P, X, Y, Q, w, h => fun _ _ _ _ _ hx => by omega
  | N + 1, P, X, Y, Q, w, h => by
    by_cases h1 : X.length = 1
    · obtain ⟨x, rfl⟩ := List.length_eq_one_iff.1 h1
      intro hn ho hc hX hY _ _ _ hsY
      exact symA_own base A c n P Y Q l x w hn hsz ho hc hY (hX x (List.mem_singleton.2 rfl)) hsY
    · by_cases h2 : Y.length = 1
      · obtain ⟨y, rfl⟩ := List.length_eq_one_iff.1 h2
        intro hn ho hc hX hY _ _ hsX _
        exact symB_own base A c n P X Q l y w hn hsz ho hc hX (hY y (List.mem_singleton.2 rfl)) hsX h1
      · exact symG_own base A c n l P X Y Q w hsz (fun P' X' Y' Q' w' hlt => symM_own base A c n l hsz N P' X' Y' Q' w' (by omega)) h1 h2
end Go.Proofs.YtfkfpanhbanljaaGreatDoor.Stab

/- slices.SortStableFunc of fewer than forty cards. -/
namespace Go.Proofs.YtfkfpanhbanljaaGreatDoor.Stab
open Go.RowKit Go.Proofs.YtfkfpanhbanljaaGreatDoor.Mem Go.Proofs.YtfkfpanhbanljaaGreatDoor.Card Go.Proofs.YtfkfpanhbanljaaGreatDoor.List44

set_option maxRecDepth 100000 in
set_option maxHeartbeats 8000000 in
theorem stableC_few (base : Nat) (A : Option Addr) (c n : Nat) (l : List CardM) (w : World) (hn : l.length = n) (h20 : n < 20) (h : cardE.Own w base 31 (.slice A n c) l) (hc : CmpOk A n c w l) :
    Calls Tryz.prog 91 #[.slice A n c, .int .i64 (n : Int), .func (.func 65) #[] #[]] w (RowTo base A n c w (stab ltC l)) := by
  have C1 := insC_own base A c n [] l [] l w (by simpa using hn) (by omega) (by simpa using h) hc (fun x hx => hx)
  rw [show ((([] : List CardM).length : Nat) : Int) = 0 from rfl, show ((([] : List CardM).length + l.length : Nat) : Int) = (n : Int) by simp [hn], show ([] : List CardM) ++ stab ltC l ++ [] = stab ltC l by simp] at C1
  have C1 := kept C1
  have h1 : ¬ (20 : Int) ≤ (n : Int) := by omega
  have h2 : ¬ (20 : Int) < (n : Int) := by omega
  generalize stab ltC l = T at *
  clear h hc hn
  go_enter Tryz.func91, Tryz.ntmps91
  go_wp2_with fail
  go_loopw [7, 8] (fun a b wr => a = .int .i64 0 ∧ b = .int .i64 20 ∧ wr = w) (fun _ _ _ => 0)
  case atStart => exact ⟨rfl, rfl, rfl⟩
  case round =>
    obtain ⟨rfl, rfl, hw⟩ := hrel
    subst hw
    go_wp2_with fail
    refine C1.out.mono ?_
    rintro e w2 ⟨rfl, ho, hu⟩
    have HF : Kept (RowTo base A n c wr T (.returned (.tuple #[])) w2) := ⟨⟨rfl, ho, hu⟩⟩
    clear ho hu C1
    go_wp2_with fail
    go_loopw [6] (fun a wr' => a = .int .i64 20 ∧ wr' = w2) (fun _ _ => 0)
    case atStart => exact ⟨rfl, rfl⟩
    case round =>
      obtain ⟨rfl, hw⟩ := hrel
      subst hw
      go_wp2_with fail
      go_end0
      exact HF.out
set_option maxRecDepth 100000 in
set_option maxHeartbeats 8000000 in
theorem stableC_more (base : Nat) (A : Option Addr) (c n : Nat) (l : List CardM) (w : World) (hn : l.length = n) (h20 : 20 ≤ n) (h40 : n < 40) (h : cardE.Own w base 31 (.slice A n c) l) (hc : CmpOk A n c w l) :
    Calls Tryz.prog 91 #[.slice A n c, .int .i64 (n : Int), .func (.func 65) #[] #[]] w (RowTo base A n c w (stab ltC l)) := by
  obtain ⟨X, Y, hXY, hX⟩ := split_at (l := l) (k := 20) (by omega)
  have hY : Y.length = n - 20 := by rw [hXY, List.length_append] at hn; omega
  have HST : Kept (stab ltC l = mrg ltC (stab ltC X) (stab ltC Y)) := ⟨by rw [hXY]; exact stab_append swoC X Y⟩
  have hxl : ∀ x ∈ X, x ∈ l := fun x hx => by rw [hXY]; exact List.mem_append_left _ hx
  have hyl : ∀ x ∈ Y, x ∈ l := fun x hx => by rw [hXY]; exact List.mem_append_right _ hx
  have C1 := insC_own base A c n [] X Y l w (by simp; omega) (by omega) (by rw [hXY] at h; simpa using h) hc hxl
  rw [show ((([] : List CardM).length : Nat) : Int) = 0 from rfl, show ((([] : List CardM).length + X.length : Nat) : Int) = 20 by simp [hX], show ([] : List CardM) ++ stab ltC X ++ Y = stab ltC X ++ Y by simp] at C1
  have C1 := kept C1
  have C2 : Kept (∀ W, SS base A n c w W (stab ltC X ++ Y) → Calls Tryz.prog 121 #[.slice A n c, .int .i64 20, .int .i64 (n : Int), .func (.func 65) #[] #[]] W (RowTo base A n c W (stab ltC X ++ stab ltC Y))) := ⟨fun W hs => by
    have C := insC_own base A c n (stab ltC X) Y [] l W (by simp [stab_len]; omega) (by omega) (by simpa using hs.1) (hc.after hs.2) hyl
    rw [show (((stab ltC X).length : Nat) : Int) = 20 by rw [stab_len, hX]; rfl, show (((stab ltC X).length + Y.length : Nat) : Int) = (n : Int) by rw [stab_len, hX, hY]; omega, show stab ltC X ++ stab ltC Y ++ [] = stab ltC X ++ stab ltC Y by simp] at C
    exact C⟩
  have C3 : Kept (20 < n → ∀ W, SS base A n c w W (stab ltC X ++ stab ltC Y) → Calls Tryz.prog 122 #[.slice A n c, .int .i64 0, .int .i64 20, .int .i64 (n : Int), .func (.func 65) #[] #[]] W (RowTo base A n c W (stab ltC l))) := ⟨fun hlt W hs => by
    have C := symM_own base A c n l (by omega) _ [] (stab ltC X) (stab ltC Y) [] W (Nat.le_refl _) (by simp [stab_len]; omega) (by simpa using hs.1) (hc.after hs.2) (fun x hx => hxl x ((stab_perm X).mem_iff.1 hx)) (fun x hx => hyl x ((stab_perm Y).mem_iff.1 hx)) (by rw [stab_len]; omega) (by rw [stab_len]; omega) (stab_srt swoC X) (stab_srt swoC Y)
    rw [show ((([] : List CardM).length : Nat) : Int) = 0 from rfl, show ((([] : List CardM).length + (stab ltC X).length : Nat) : Int) = 20 by simp [stab_len, hX], show ((([] : List CardM).length + (stab ltC X).length + (stab ltC Y).length : Nat) : Int) = (n : Int) by simp [stab_len, hX, hY]; omega, show ([] : List CardM) ++ mrg ltC (stab ltC X) (stab ltC Y) ++ [] = stab ltC l by rw [HST.out]; simp] at C
    exact C⟩
  have C4 : Kept (n = 20 → stab ltC X ++ stab ltC Y = stab ltC l) := ⟨fun e => by
    have : Y = [] := List.eq_nil_of_length_eq_zero (by omega)
    rw [HST.out, this, show stab ltC ([] : List CardM) = [] from rfl, mrg_nil, List.append_nil]⟩
  have h1 : (20 : Int) ≤ (n : Int) := by omega
  have h2 : ¬ (40 : Int) ≤ (n : Int) := by omega
  have h3 : ¬ (40 : Int) < (n : Int) := by omega
  generalize stab ltC l = T at *
  clear h hc hn HST hxl hyl hX hY hXY
  generalize stab ltC X ++ Y = R1 at *
  generalize stab ltC X ++ stab ltC Y = R2 at *
  go_enter Tryz.func91, Tryz.ntmps91
  go_wp2_with fail
  go_loopw [7, 8] (fun a b wr => (a = .int .i64 0 ∧ b = .int .i64 20 ∧ wr = w) ∨ (a = .int .i64 20 ∧ b = .int .i64 40 ∧ Kept (SS base A n c w wr R1))) (fun _ b _ => 60 - (intOf b).toNat)
  case atStart => exact .inl ⟨rfl, rfl, rfl⟩
  case round =>
    rcases hrel with ⟨rfl, rfl, hw⟩ | ⟨rfl, rfl, HS1⟩
    · rw [hw]
      clear hw wr
      go_wp2_with fail
      refine C1.out.mono ?_
      rintro e w2 ⟨rfl, ho, hu⟩
      have HS : Kept (SS base A n c w w2 R1) := ⟨⟨ho, hu⟩⟩
      clear ho hu
      go_wp2_with fail
      go_roundw
      case rel => exact .inr ⟨rfl, rfl, HS⟩
      case measure => simp [intOf]
    · have C2' := kept (C2.out wr HS1.out)
      go_wp2_with fail
      refine C2'.out.mono ?_
      rintro e w2 ⟨rfl, ho, hu⟩
      have HS : Kept (SS base A n c w w2 R2) := ⟨⟨ho, HS1.out.2.trans hu⟩⟩
      clear ho hu C2' HS1 C1 C2
      by_cases hlt : 20 < n
      · have hl1 : (20 : Int) < (n : Int) := by omega
        have C3' := kept (C3.out hlt w2 HS.out)
        go_wp2_with fail
        go_loopw [6] (fun a wr' => (a = .int .i64 20 ∧ wr' = w2) ∨ (a = .int .i64 40 ∧ Kept (RowTo base A n c w T (.returned (.tuple #[])) wr'))) (fun a _ => 60 - (intOf a).toNat)
        case atStart => exact .inl ⟨rfl, rfl⟩
        case round =>
          rcases hrel with ⟨rfl, hw⟩ | ⟨rfl, HF⟩
          · rw [hw]
            clear hw
            go_wp2_with fail
            go_loopw [7, 8] (fun a b wr' => a = .int .i64 0 ∧ b = .int .i64 40 ∧ wr' = w2) (fun _ _ _ => 0)
            case atStart => exact ⟨rfl, rfl, rfl⟩
            case round =>
              obtain ⟨rfl, rfl, hw⟩ := hrel
              rw [hw]
              clear hw
              go_wp2_with fail
              refine C3'.out.mono ?_
              rintro e w3 ⟨rfl, ho, hu⟩
              have HF : Kept (RowTo base A n c w T (.returned (.tuple #[])) w3) := ⟨⟨rfl, ho, HS.out.2.trans hu⟩⟩
              clear ho hu C3'
              go_wp2_with fail
              go_roundw
              case rel => exact .inr ⟨rfl, HF⟩
              case measure => simp [intOf]
          · go_wp2_with fail
            go_end0
            exact HF.out
      · have hl1 : ¬ (20 : Int) < (n : Int) := by omega
        have HF : Kept (RowTo base A n c w T (.returned (.tuple #[])) w2) := ⟨⟨rfl, by rw [← C4.out (by omega)]; exact HS.out.1, HS.out.2⟩⟩
        clear C3 C4 HS
        go_wp2_with fail
        go_loopw [6] (fun a wr' => a = .int .i64 20 ∧ wr' = w2) (fun _ _ => 0)
        case atStart => exact ⟨rfl, rfl⟩
        case round =>
          obtain ⟨rfl, hw⟩ := hrel
          rw [hw]
          clear hw
          go_wp2_with fail
          go_end0
          exact HF.out
/-- cards, sorted stably -/
theorem sortC_own (base : Nat) (A : Option Addr) (c n : Nat) (l : List CardM) (w : World) (hn : l.length = n) (h40 : n < 40) (h : cardE.Own w base 31 (.slice A n c) l) (hc : CmpOk A n c w l) :
    Calls Tryz.prog 64 #[.slice A n c, .func (.func 65) #[] #[]] w (RowTo base A n c w (stab ltC l)) := by
  have C : Kept (Calls Tryz.prog 91 #[.slice A n c, .int .i64 (n : Int), .func (.func 65) #[] #[]] w (RowTo base A n c w (stab ltC l))) := ⟨by
    by_cases h20 : n < 20
    · exact stableC_few base A c n l w hn h20 h hc
    · exact stableC_more base A c n l w hn (by omega) h40 h hc⟩
  generalize stab ltC l = T at *
  clear h hc hn
  go_enter Tryz.func64, Tryz.ntmps64
  go_wp2_with fail
  refine C.out.mono ?_
  rintro e w2 ⟨rfl, ho, hu⟩
  have HF : Kept (RowTo base A n c w T (.returned (.tuple #[])) w2) := ⟨⟨rfl, ho, hu⟩⟩
  clear ho hu
  go_wp2_with fail
  go_end0
  exact HF.out
end Go.Proofs.YtfkfpanhbanljaaGreatDoor.Stab
