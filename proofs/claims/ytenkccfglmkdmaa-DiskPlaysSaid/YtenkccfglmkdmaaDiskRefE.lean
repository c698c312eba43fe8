/- Layer 22 (disk): the walk of the document's Append. Printed by gendre.py. -/
import Derived.Test.YtenkccfglmkdmaaDiskRefD
import Derived.Laws.Concat
namespace Go.Proofs.Ytenkccfglmkdmaa.Disk
open Go.RowKit Go.Proofs.Ytenkccfglmkdmaa.Mem

theorem strB_app (a b : List Nat) : strB a ++ strB b = strB (a ++ b) := by
  apply ByteArray.ext
  simp [strB]
theorem rapp_no (d : DS) (f : Int) (X : Option Addr) (m c : Nat) (w : World) (hf : isF f = false) : Calls Try.prog 18 #[rV d, .int .i64 f, .slice X m c] w (RGives w (.tuple #[rV d, .int .i64 1])) := by
  obtain ⟨b0, s0, b1, s1, room, fuse, down⟩ := d
  have H := kept (Rn.start w (rL ⟨b0, s0, b1, s1, room, fuse, down⟩) (rL ⟨b0, s0, b1, s1, room, fuse, down⟩))
  show Calls Try.prog 18 #[.agg #[.string (strB b0), .string (strB b1), .int .i64 (s0 : Int), .int .i64 (s1 : Int), .int .i64 (room : Int), .int .i64 fuse, .bool down], .int .i64 f, .slice X m c] w _
  have hne : f < 0 ∨ 1 < f := by simp [isF] at hf; omega
  clear hf
  rcases hne with hne | hne
  · go_enter Try.func18, Try.ntmps18
    go_wp2
    exact bodyPost_ret (res_cell_tmp rfl _ (w.heap.size + 1) _ (rL ⟨b0, s0, b1, s1, room, fuse, down⟩) _ rfl H.out.2.2 rfl rfl rfl) rfl ⟨rfl, H.out.1⟩
  · have hne2 : ¬ f < 0 := by omega
    go_enter Try.func18, Try.ntmps18
    go_wp2
    exact bodyPost_ret (res_cell_tmp rfl _ (w.heap.size + 1) _ (rL ⟨b0, s0, b1, s1, room, fuse, down⟩) _ rfl H.out.2.2 rfl rfl rfl) rfl ⟨rfl, H.out.1⟩
set_option maxHeartbeats 400000 in
theorem rapp_0 (d : DS) (X : Option Addr) (c : Nat) (l : List Nat) (w : World) (h : d.Ok) (hr : Rd w w.heap.size X (BB l)) (hsz : l.length ≤ 140737488355000) : Calls Try.prog 18 #[rV d, .int .i64 0, .slice X l.length c] w (RGives w (.tuple #[rV (d.appM 0 l).1, .int .i64 ((d.appM 0 l).2 : Int)])) := by
  have C := kept (fun W => rburn_ds d W h)
  have H := kept (Rn.start w (rL d) rZ)
  have HR := kept (fun W (hb : Below w.heap.size w W) => run_str W _ X l.length c l rfl (hr.next hb))
  have hu5 := h.2.2.2.2.1
  unfold DS.used at hu5
  unfold DS.appM
  rw [if_pos (show isF 0 = true from rfl)]
  have hD0 := (burn_b d).1
  have hD1 := (burn_b d).2.1
  clear h hr
  generalize d.burn = D at *
  obtain ⟨b0, s0, b1, s1, room, fuse, down⟩ := d
  obtain ⟨c0, t0, c1, t1, roon, fuze, dn⟩ := D
  obtain rfl : b0 = c0 := hD0.symm
  obtain rfl : b1 = c1 := hD1.symm
  clear hD0 hD1
  replace hu5 : b0.length + b1.length ≤ 1048576 := hu5
  have hu6 := hu5
  rw [← strB_size, ← strB_size b1] at hu6
  have rsa : ∀ W, (Op.stringOp .add (strB b0) (strB l)).run Try.prog W = .ok (.string (strB (b0 ++ l))) W := fun W => by
    rw [run_string_add_sum _ (strB b0) (strB l) (by rw [strB_size, strB_size]; omega), strB_app]
  show Calls Try.prog 18 #[.agg #[.string (strB b0), .string (strB b1), .int .i64 (s0 : Int), .int .i64 (s1 : Int), .int .i64 (room : Int), .int .i64 fuse, .bool down], .int .i64 0, .slice X l.length c] w _
  cases dn with
  | true =>
    simp only [if_true]
    generalize l.length = m at *
    clear hu5 hu6 rsa
    go_enter Try.func18, Try.ntmps18
    go_wp2_with fail
    refine (C.out _).mono ?_
    rintro e w1 ⟨rfl, hb⟩
    replace H := kept (H.out.next hb)
    clear hb C
    have hk1 := H.out.2.1
    go_wp2_with (first | (refine wpl_storeB rfl _ _ _ rfl w.heap.size (rL ⟨b0, t0, b1, t1, roon, fuze, true⟩) rfl rfl _ _ hk1 rfl rfl rfl ?_; intro w2 hk3 hu3; have H2 := kept (H.out.par hk3 hu3); have hk4 := H2.out.2.2; clear hk1 H hu3) | (refine wpl_loadB rfl _ _ rfl w.heap.size rfl _ _ hk3 _ rfl rfl rfl ?_) | (refine wpl_storeB rfl _ _ _ rfl (w.heap.size + 1) (rL ⟨b0, t0, b1, t1, roon, fuze, true⟩) rfl rfl _ _ hk4 rfl rfl rfl ?_; intro w5 hk5 hu5; have H5 := kept (H2.out.res hk5 hu5)))
    exact bodyPost_ret (res_cell_tmp rfl _ (w.heap.size + 1) _ (rL ⟨b0, t0, b1, t1, roon, fuze, true⟩) _ rfl H5.out.2.2 rfl rfl rfl) rfl ⟨rfl, H5.out.1⟩
  | false =>
    simp only [Bool.false_eq_true, if_false]
    have hus : (⟨b0, t0, b1, t1, roon, fuze, false⟩ : DS).used = b0.length + b1.length := rfl
    rw [hus]
    clear hus
    by_cases hfull : roon < b0.length + b1.length + l.length
    · rw [if_pos hfull]
      rw [← strB_size, ← strB_size b1] at hfull
      clear hu5
      clear rsa
      generalize l.length = m at *
      go_enter Try.func18, Try.ntmps18
      go_wp2_with fail
      refine (C.out _).mono ?_
      rintro e w1 ⟨rfl, hb⟩
      replace H := kept (H.out.next hb)
      clear hb C
      have hk1 := H.out.2.1
      go_wp2_with (first | (refine wpl_storeB rfl _ _ _ rfl w.heap.size (rL ⟨b0, t0, b1, t1, roon, fuze, false⟩) rfl rfl _ _ hk1 rfl rfl rfl ?_; intro w2 hk3 hu3; have H2 := kept (H.out.par hk3 hu3); have z0 : w2.cell? ⟨w.heap.size, 0, none⟩ = some (.string (strB b0)) := hk3.cell rfl; have z1 : w2.cell? ⟨w.heap.size, 1, none⟩ = some (.string (strB b1)) := hk3.cell rfl; have z4 : w2.cell? ⟨w.heap.size, 4, none⟩ = some (.int .i64 (roon : Int)) := hk3.cell rfl; have hk4 := H2.out.2.2; clear hk1 H hu3) | (refine wpl_loadB rfl _ _ rfl w.heap.size rfl _ _ hk3 _ rfl rfl rfl ?_) | (refine wpl_storeB rfl _ _ _ rfl (w.heap.size + 1) _ rfl rfl _ _ hk4 rfl rfl rfl ?_; intro w5 hk5 hu5; have H5 := kept (H2.out.res hk5 hu5)))
      exact bodyPost_ret (res_cell_tmp rfl _ (w.heap.size + 1) _ (rL ⟨b0, t0, b1, t1, roon, fuze, false⟩) _ rfl H5.out.2.2 rfl rfl rfl) rfl ⟨rfl, H5.out.1⟩
    · rw [if_neg hfull]
      rw [← strB_size, ← strB_size b1] at hfull
      clear hu5
      have hbf : (⟨b0, t0, b1, t1, roon, fuze, false⟩ : DS).put 0 ((⟨b0, t0, b1, t1, roon, fuze, false⟩ : DS).b 0 ++ l) ((⟨b0, t0, b1, t1, roon, fuze, false⟩ : DS).s 0) = ⟨b0 ++ l, t0, b1, t1, roon, fuze, false⟩ := rfl
      rw [hbf]
      clear hbf
      go_enter Try.func18, Try.ntmps18
      go_wp2_with fail
      refine (C.out _).mono ?_
      rintro e w1 ⟨rfl, hb⟩
      replace H := kept (H.out.next hb)
      clear hb C
      have hk1 := H.out.2.1
      go_wp2_with (refine wpl_storeB rfl _ _ _ rfl w.heap.size (rL ⟨b0, t0, b1, t1, roon, fuze, false⟩) rfl rfl _ _ hk1 rfl rfl rfl ?_; intro w2 hk3 hu3; have H2 := kept (H.out.par hk3 hu3); have z0 : w2.cell? ⟨w.heap.size, 0, none⟩ = some (.string (strB b0)) := hk3.cell rfl; have z1 : w2.cell? ⟨w.heap.size, 1, none⟩ = some (.string (strB b1)) := hk3.cell rfl; have z4 : w2.cell? ⟨w.heap.size, 4, none⟩ = some (.int .i64 (roon : Int)) := hk3.cell rfl; have hk4 := H2.out.2.2; have rs := HR.out w2.drew H2.out.drew.1; have zf := hk3.frozen 0; have hlt := hk3.lt; clear hk1 H hu3)
      go_region_law (fail)
      all_goals
        have H3 := kept (H2.out.set 0 (.string (strB (b0 ++ l)))).drew
        have hk6 := H3.out.2.1
        have hk4 := H3.out.2.2
        go_wp2_with (first | (refine wpl_loadB rfl _ _ rfl w.heap.size rfl _ _ hk6 _ rfl rfl rfl ?_) | (refine wpl_storeB rfl _ _ _ rfl (w.heap.size + 1) _ rfl rfl _ _ hk4 rfl rfl rfl ?_; intro w5 hk5 hu5; have H5 := kept (H3.out.res hk5 hu5)))
        exact bodyPost_ret (res_cell_tmp rfl _ (w.heap.size + 1) _ _ _ rfl H5.out.2.2 rfl rfl rfl) rfl ⟨rfl, H5.out.1⟩
set_option maxHeartbeats 400000 in
theorem rapp_1 (d : DS) (X : Option Addr) (c : Nat) (l : List Nat) (w : World) (h : d.Ok) (hr : Rd w w.heap.size X (BB l)) (hsz : l.length ≤ 140737488355000) : Calls Try.prog 18 #[rV d, .int .i64 1, .slice X l.length c] w (RGives w (.tuple #[rV (d.appM 1 l).1, .int .i64 ((d.appM 1 l).2 : Int)])) := by
  have C := kept (fun W => rburn_ds d W h)
  have H := kept (Rn.start w (rL d) rZ)
  have HR := kept (fun W (hb : Below w.heap.size w W) => run_str W _ X l.length c l rfl (hr.next hb))
  have hu5 := h.2.2.2.2.1
  unfold DS.used at hu5
  unfold DS.appM
  rw [if_pos (show isF 1 = true from rfl)]
  have hD0 := (burn_b d).1
  have hD1 := (burn_b d).2.1
  clear h hr
  generalize d.burn = D at *
  obtain ⟨b0, s0, b1, s1, room, fuse, down⟩ := d
  obtain ⟨c0, t0, c1, t1, roon, fuze, dn⟩ := D
  obtain rfl : b0 = c0 := hD0.symm
  obtain rfl : b1 = c1 := hD1.symm
  clear hD0 hD1
  replace hu5 : b0.length + b1.length ≤ 1048576 := hu5
  have hu6 := hu5
  rw [← strB_size, ← strB_size b1] at hu6
  have rsa : ∀ W, (Op.stringOp .add (strB b1) (strB l)).run Try.prog W = .ok (.string (strB (b1 ++ l))) W := fun W => by
    rw [run_string_add_sum _ (strB b1) (strB l) (by rw [strB_size, strB_size]; omega), strB_app]
  show Calls Try.prog 18 #[.agg #[.string (strB b0), .string (strB b1), .int .i64 (s0 : Int), .int .i64 (s1 : Int), .int .i64 (room : Int), .int .i64 fuse, .bool down], .int .i64 1, .slice X l.length c] w _
  cases dn with
  | true =>
    simp only [if_true]
    generalize l.length = m at *
    clear hu5 hu6 rsa
    go_enter Try.func18, Try.ntmps18
    go_wp2_with fail
    refine (C.out _).mono ?_
    rintro e w1 ⟨rfl, hb⟩
    replace H := kept (H.out.next hb)
    clear hb C
    have hk1 := H.out.2.1
    go_wp2_with (first | (refine wpl_storeB rfl _ _ _ rfl w.heap.size (rL ⟨b0, t0, b1, t1, roon, fuze, true⟩) rfl rfl _ _ hk1 rfl rfl rfl ?_; intro w2 hk3 hu3; have H2 := kept (H.out.par hk3 hu3); have hk4 := H2.out.2.2; clear hk1 H hu3) | (refine wpl_loadB rfl _ _ rfl w.heap.size rfl _ _ hk3 _ rfl rfl rfl ?_) | (refine wpl_storeB rfl _ _ _ rfl (w.heap.size + 1) (rL ⟨b0, t0, b1, t1, roon, fuze, true⟩) rfl rfl _ _ hk4 rfl rfl rfl ?_; intro w5 hk5 hu5; have H5 := kept (H2.out.res hk5 hu5)))
    exact bodyPost_ret (res_cell_tmp rfl _ (w.heap.size + 1) _ (rL ⟨b0, t0, b1, t1, roon, fuze, true⟩) _ rfl H5.out.2.2 rfl rfl rfl) rfl ⟨rfl, H5.out.1⟩
  | false =>
    simp only [Bool.false_eq_true, if_false]
    have hus : (⟨b0, t0, b1, t1, roon, fuze, false⟩ : DS).used = b0.length + b1.length := rfl
    rw [hus]
    clear hus
    by_cases hfull : roon < b0.length + b1.length + l.length
    · rw [if_pos hfull]
      rw [← strB_size, ← strB_size b1] at hfull
      clear hu5
      clear rsa
      generalize l.length = m at *
      go_enter Try.func18, Try.ntmps18
      go_wp2_with fail
      refine (C.out _).mono ?_
      rintro e w1 ⟨rfl, hb⟩
      replace H := kept (H.out.next hb)
      clear hb C
      have hk1 := H.out.2.1
      go_wp2_with (first | (refine wpl_storeB rfl _ _ _ rfl w.heap.size (rL ⟨b0, t0, b1, t1, roon, fuze, false⟩) rfl rfl _ _ hk1 rfl rfl rfl ?_; intro w2 hk3 hu3; have H2 := kept (H.out.par hk3 hu3); have z0 : w2.cell? ⟨w.heap.size, 0, none⟩ = some (.string (strB b0)) := hk3.cell rfl; have z1 : w2.cell? ⟨w.heap.size, 1, none⟩ = some (.string (strB b1)) := hk3.cell rfl; have z4 : w2.cell? ⟨w.heap.size, 4, none⟩ = some (.int .i64 (roon : Int)) := hk3.cell rfl; have hk4 := H2.out.2.2; clear hk1 H hu3) | (refine wpl_loadB rfl _ _ rfl w.heap.size rfl _ _ hk3 _ rfl rfl rfl ?_) | (refine wpl_storeB rfl _ _ _ rfl (w.heap.size + 1) _ rfl rfl _ _ hk4 rfl rfl rfl ?_; intro w5 hk5 hu5; have H5 := kept (H2.out.res hk5 hu5)))
      exact bodyPost_ret (res_cell_tmp rfl _ (w.heap.size + 1) _ (rL ⟨b0, t0, b1, t1, roon, fuze, false⟩) _ rfl H5.out.2.2 rfl rfl rfl) rfl ⟨rfl, H5.out.1⟩
    · rw [if_neg hfull]
      rw [← strB_size, ← strB_size b1] at hfull
      clear hu5
      have hbf : (⟨b0, t0, b1, t1, roon, fuze, false⟩ : DS).put 1 ((⟨b0, t0, b1, t1, roon, fuze, false⟩ : DS).b 1 ++ l) ((⟨b0, t0, b1, t1, roon, fuze, false⟩ : DS).s 1) = ⟨b0, t0, b1 ++ l, t1, roon, fuze, false⟩ := rfl
      rw [hbf]
      clear hbf
      go_enter Try.func18, Try.ntmps18
      go_wp2_with fail
      refine (C.out _).mono ?_
      rintro e w1 ⟨rfl, hb⟩
      replace H := kept (H.out.next hb)
      clear hb C
      have hk1 := H.out.2.1
      go_wp2_with (refine wpl_storeB rfl _ _ _ rfl w.heap.size (rL ⟨b0, t0, b1, t1, roon, fuze, false⟩) rfl rfl _ _ hk1 rfl rfl rfl ?_; intro w2 hk3 hu3; have H2 := kept (H.out.par hk3 hu3); have z0 : w2.cell? ⟨w.heap.size, 0, none⟩ = some (.string (strB b0)) := hk3.cell rfl; have z1 : w2.cell? ⟨w.heap.size, 1, none⟩ = some (.string (strB b1)) := hk3.cell rfl; have z4 : w2.cell? ⟨w.heap.size, 4, none⟩ = some (.int .i64 (roon : Int)) := hk3.cell rfl; have hk4 := H2.out.2.2; have rs := HR.out w2.drew H2.out.drew.1; have zf := hk3.frozen 1; have hlt := hk3.lt; clear hk1 H hu3)
      go_region_law (fail)
      all_goals
        have H3 := kept (H2.out.set 1 (.string (strB (b1 ++ l)))).drew
        have hk6 := H3.out.2.1
        have hk4 := H3.out.2.2
        go_wp2_with (first | (refine wpl_loadB rfl _ _ rfl w.heap.size rfl _ _ hk6 _ rfl rfl rfl ?_) | (refine wpl_storeB rfl _ _ _ rfl (w.heap.size + 1) _ rfl rfl _ _ hk4 rfl rfl rfl ?_; intro w5 hk5 hu5; have H5 := kept (H3.out.res hk5 hu5)))
        exact bodyPost_ret (res_cell_tmp rfl _ (w.heap.size + 1) _ _ _ rfl H5.out.2.2 rfl rfl rfl) rfl ⟨rfl, H5.out.1⟩
theorem rapp_any (d : DS) (f : Int) (X : Option Addr) (m c : Nat) (l : List Nat) (w : World) (h : d.Ok) (hm : m = l.length) (hr : Rd w w.heap.size X (BB l)) (hsz : l.length ≤ 140737488355000) : Calls Try.prog 18 #[rV d, .int .i64 f, .slice X m c] w (RGives w (.tuple #[rV (d.appM f l).1, .int .i64 ((d.appM f l).2 : Int)])) := by
  subst hm
  by_cases h0 : f = 0
  · subst h0; exact rapp_0 d X c l w h hr hsz
  · by_cases h1 : f = 1
    · subst h1; exact rapp_1 d X c l w h hr hsz
    · have hi : isF f = false := by simp [isF, h0, h1]
      have he : d.appM f l = (d, 1) := by unfold DS.appM; rw [hi]; rfl
      rw [he]
      exact rapp_no d f X _ c w hi
end Go.Proofs.Ytenkccfglmkdmaa.Disk
