/- Layer 22 (disk): the walks of the document's Cut. Printed by gendrd.py. -/
import Derived.Test.YtenkccfglmkdmaaDiskRefC
namespace Go.Proofs.Ytenkccfglmkdmaa.Disk
open Go.RowKit Go.Proofs.Ytenkccfglmkdmaa.Mem

theorem strB_cut (l : List Nat) (n : Nat) : (strB l).extract 0 n = strB (l.take n) := by
  apply ByteArray.ext
  simp [strB, ByteArray.data_extract]
theorem rcut_no (d : DS) (f n : Int) (w : World) (hi : ¬ (isF f = true ∧ 0 ≤ n ∧ n ≤ (d.b f).length)) : Calls Try.prog 21 #[rV d, .int .i64 f, .int .i64 n] w (RGives w (.tuple #[rV d, .int .i64 1])) := by
  obtain ⟨b0, s0, b1, s1, room, fuse, down⟩ := d
  have H := kept (Rn.start w (rL ⟨b0, s0, b1, s1, room, fuse, down⟩) (rL ⟨b0, s0, b1, s1, room, fuse, down⟩))
  show Calls Try.prog 21 #[.agg #[.string (strB b0), .string (strB b1), .int .i64 (s0 : Int), .int .i64 (s1 : Int), .int .i64 (room : Int), .int .i64 fuse, .bool down], .int .i64 f, .int .i64 n] w _
  have hs0 := strB_size b0
  have hs1 := strB_size b1
  by_cases hf0 : f < 0
  · clear hi hs0 hs1
    go_enter Try.func21, Try.ntmps21
    go_wp2
    exact bodyPost_ret (res_cell_tmp rfl _ (w.heap.size + 1) _ (rL ⟨b0, s0, b1, s1, room, fuse, down⟩) _ rfl H.out.2.2 rfl rfl rfl) rfl ⟨rfl, H.out.1⟩
  by_cases hf1 : 1 < f
  · clear hi hs0 hs1
    go_enter Try.func21, Try.ntmps21
    go_wp2
    exact bodyPost_ret (res_cell_tmp rfl _ (w.heap.size + 1) _ (rL ⟨b0, s0, b1, s1, room, fuse, down⟩) _ rfl H.out.2.2 rfl rfl rfl) rfl ⟨rfl, H.out.1⟩
  by_cases hn : n < 0
  · clear hi hs0 hs1
    go_enter Try.func21, Try.ntmps21
    go_wp2
    exact bodyPost_ret (res_cell_tmp rfl _ (w.heap.size + 1) _ (rL ⟨b0, s0, b1, s1, room, fuse, down⟩) _ rfl H.out.2.2 rfl rfl rfl) rfl ⟨rfl, H.out.1⟩
  have hf2 : f = 0 ∨ f = 1 := by omega
  rcases hf2 with rfl | rfl
  · have hlt : (b0.length : Int) < n := by
      have h2 : ¬ n ≤ (b0.length : Int) := fun e => hi ⟨rfl, by omega, e⟩
      omega
    rw [← hs0] at hlt
    clear hi hs0 hs1
    go_enter Try.func21, Try.ntmps21
    go_wp2
    exact bodyPost_ret (res_cell_tmp rfl _ (w.heap.size + 1) _ (rL ⟨b0, s0, b1, s1, room, fuse, down⟩) _ rfl H.out.2.2 rfl rfl rfl) rfl ⟨rfl, H.out.1⟩
  · have hlt : (b1.length : Int) < n := by
      have h2 : ¬ n ≤ (b1.length : Int) := fun e => hi ⟨rfl, by omega, e⟩
      omega
    rw [← hs1] at hlt
    clear hi hs0 hs1
    go_enter Try.func21, Try.ntmps21
    go_wp2
    exact bodyPost_ret (res_cell_tmp rfl _ (w.heap.size + 1) _ (rL ⟨b0, s0, b1, s1, room, fuse, down⟩) _ rfl H.out.2.2 rfl rfl rfl) rfl ⟨rfl, H.out.1⟩
set_option maxHeartbeats 400000 in
theorem rcut_0 (d : DS) (n : Nat) (w : World) (h : d.Ok) (hn : n ≤ (d.b 0).length) : Calls Try.prog 21 #[rV d, .int .i64 0, .int .i64 (n : Int)] w (RGives w (.tuple #[rV (d.cutM 0 n).1, .int .i64 ((d.cutM 0 n).2 : Int)])) := by
  have C := kept (fun W => rburn_ds d W h)
  have H := kept (Rn.start w (rL d) rZ)
  have hu5 := h.2.2.2.2.1
  unfold DS.used at hu5
  unfold DS.cutM
  rw [if_pos ⟨show isF 0 = true from rfl, by omega, by omega⟩]
  have hD0 := (burn_b d).1
  have hD1 := (burn_b d).2.1
  generalize d.burn = D at *
  obtain ⟨b0, s0, b1, s1, room, fuse, down⟩ := d
  obtain ⟨c0, t0, c1, t1, roon, fuze, dn⟩ := D
  obtain rfl : b0 = c0 := hD0.symm
  obtain rfl : b1 = c1 := hD1.symm
  clear hD0 hD1 h
  replace hn : n ≤ b0.length := hn
  rw [← strB_size] at hn
  replace hu5 : b0.length + b1.length ≤ 1048576 := hu5
  have hmx : n ≤ 9223372036854775807 := by rw [strB_size] at hn; omega
  have hsx : (strB b0).size ≤ 9223372036854775807 := by rw [strB_size]; omega
  clear hu5
  have HC := kept (strB_cut b0 n)
  show Calls Try.prog 21 #[.agg #[.string (strB b0), .string (strB b1), .int .i64 (s0 : Int), .int .i64 (s1 : Int), .int .i64 (room : Int), .int .i64 fuse, .bool down], .int .i64 0, .int .i64 (n : Int)] w _
  cases dn with
  | true =>
    simp only [if_true]
    go_enter Try.func21, Try.ntmps21
    go_wp2_with fail
    refine (C.out _).mono ?_
    rintro e w1 ⟨rfl, hb⟩
    replace H := kept (H.out.next hb)
    clear hb C
    have hk1 := H.out.2.1
    go_wp2_with (first | (refine wpl_storeB rfl _ _ _ rfl w.heap.size (rL ⟨b0, t0, b1, t1, roon, fuze, true⟩) rfl rfl _ _ hk1 rfl rfl rfl ?_; intro w2 hk3 hu3; have H2 := kept (H.out.par hk3 hu3); have hk4 := H2.out.2.2; clear hk1 H hu3) | (refine wpl_loadB rfl _ _ rfl w.heap.size rfl _ _ hk3 _ rfl rfl rfl ?_) | (refine wpl_storeB rfl _ _ _ rfl (w.heap.size + 1) (rL ⟨b0, t0, b1, t1, roon, fuze, true⟩) rfl rfl _ _ hk4 rfl rfl rfl ?_; intro w5 hk5 hu5; have H5 := kept (H2.out.res hk5 hu5)))
    exact bodyPost_ret (res_cell_tmp rfl _ (w.heap.size + 1) _ (rL ⟨b0, t0, b1, t1, roon, fuze, true⟩) _ rfl H5.out.2.2 rfl rfl rfl) rfl ⟨rfl, H5.out.1⟩
  | false =>
    simp only [Bool.false_eq_true, if_false]
    have hbf : (⟨b0, t0, b1, t1, roon, fuze, false⟩ : DS).put 0 (((⟨b0, t0, b1, t1, roon, fuze, false⟩ : DS).b 0).take (n : Int).toNat) (n : Int).toNat = ⟨b0.take n, n, b1, t1, roon, fuze, false⟩ := rfl
    rw [hbf]
    clear hbf
    go_enter Try.func21, Try.ntmps21
    go_wp2_with fail
    refine (C.out _).mono ?_
    rintro e w1 ⟨rfl, hb⟩
    replace H := kept (H.out.next hb)
    clear hb C
    have hk1 := H.out.2.1
    go_wp2_with (first | (refine wpl_storeB rfl _ _ _ rfl w.heap.size (rL ⟨b0, t0, b1, t1, roon, fuze, false⟩) rfl rfl _ _ hk1 rfl rfl rfl ?_; intro w2 hk3 hu3; have H2 := kept (H.out.par hk3 hu3); have z0 : w2.cell? ⟨w.heap.size, 0, none⟩ = some (.string (strB b0)) := hk3.cell rfl; have z1 : w2.cell? ⟨w.heap.size, 2, none⟩ = some (.int .i64 t0) := hk3.cell rfl; have z2 := hk3.frozen 0; have z3 := hk3.frozen 2; have hlt := hk3.lt; have H3 := kept ((H2.out.set 0 (.string ((strB b0).extract 0 n))).set 2 (.int .i64 (n : Int))); have hk6 := H3.out.2.1; have hk4 := H3.out.2.2; clear hk1 H hu3) | (refine wpl_loadB rfl _ _ rfl w.heap.size rfl _ _ hk6 _ rfl rfl rfl ?_) | (refine wpl_storeB rfl _ _ _ rfl (w.heap.size + 1) _ rfl rfl _ _ hk4 rfl rfl rfl ?_; intro w5 hk5 hu5; have H5 := kept (H3.out.res hk5 hu5)))
    have HR : Value.agg (((rL ⟨b0, t0, b1, t1, roon, fuze, false⟩).set 0 (.string ((strB b0).extract 0 n))).set 2 (.int .i64 (n : Int))).toArray = rV ⟨b0.take n, n, b1, t1, roon, fuze, false⟩ := by rw [HC.out]; rfl
    rw [← HR]
    exact bodyPost_ret (res_cell_tmp rfl _ (w.heap.size + 1) _ _ _ rfl H5.out.2.2 rfl rfl rfl) rfl ⟨rfl, H5.out.1⟩
set_option maxHeartbeats 400000 in
theorem rcut_1 (d : DS) (n : Nat) (w : World) (h : d.Ok) (hn : n ≤ (d.b 1).length) : Calls Try.prog 21 #[rV d, .int .i64 1, .int .i64 (n : Int)] w (RGives w (.tuple #[rV (d.cutM 1 n).1, .int .i64 ((d.cutM 1 n).2 : Int)])) := by
  have C := kept (fun W => rburn_ds d W h)
  have H := kept (Rn.start w (rL d) rZ)
  have hu5 := h.2.2.2.2.1
  unfold DS.used at hu5
  unfold DS.cutM
  rw [if_pos ⟨show isF 1 = true from rfl, by omega, by omega⟩]
  have hD0 := (burn_b d).1
  have hD1 := (burn_b d).2.1
  generalize d.burn = D at *
  obtain ⟨b0, s0, b1, s1, room, fuse, down⟩ := d
  obtain ⟨c0, t0, c1, t1, roon, fuze, dn⟩ := D
  obtain rfl : b0 = c0 := hD0.symm
  obtain rfl : b1 = c1 := hD1.symm
  clear hD0 hD1 h
  replace hn : n ≤ b1.length := hn
  rw [← strB_size] at hn
  replace hu5 : b0.length + b1.length ≤ 1048576 := hu5
  have hmx : n ≤ 9223372036854775807 := by rw [strB_size] at hn; omega
  have hsx : (strB b1).size ≤ 9223372036854775807 := by rw [strB_size]; omega
  clear hu5
  have HC := kept (strB_cut b1 n)
  show Calls Try.prog 21 #[.agg #[.string (strB b0), .string (strB b1), .int .i64 (s0 : Int), .int .i64 (s1 : Int), .int .i64 (room : Int), .int .i64 fuse, .bool down], .int .i64 1, .int .i64 (n : Int)] w _
  cases dn with
  | true =>
    simp only [if_true]
    go_enter Try.func21, Try.ntmps21
    go_wp2_with fail
    refine (C.out _).mono ?_
    rintro e w1 ⟨rfl, hb⟩
    replace H := kept (H.out.next hb)
    clear hb C
    have hk1 := H.out.2.1
    go_wp2_with (first | (refine wpl_storeB rfl _ _ _ rfl w.heap.size (rL ⟨b0, t0, b1, t1, roon, fuze, true⟩) rfl rfl _ _ hk1 rfl rfl rfl ?_; intro w2 hk3 hu3; have H2 := kept (H.out.par hk3 hu3); have hk4 := H2.out.2.2; clear hk1 H hu3) | (refine wpl_loadB rfl _ _ rfl w.heap.size rfl _ _ hk3 _ rfl rfl rfl ?_) | (refine wpl_storeB rfl _ _ _ rfl (w.heap.size + 1) (rL ⟨b0, t0, b1, t1, roon, fuze, true⟩) rfl rfl _ _ hk4 rfl rfl rfl ?_; intro w5 hk5 hu5; have H5 := kept (H2.out.res hk5 hu5)))
    exact bodyPost_ret (res_cell_tmp rfl _ (w.heap.size + 1) _ (rL ⟨b0, t0, b1, t1, roon, fuze, true⟩) _ rfl H5.out.2.2 rfl rfl rfl) rfl ⟨rfl, H5.out.1⟩
  | false =>
    simp only [Bool.false_eq_true, if_false]
    have hbf : (⟨b0, t0, b1, t1, roon, fuze, false⟩ : DS).put 1 (((⟨b0, t0, b1, t1, roon, fuze, false⟩ : DS).b 1).take (n : Int).toNat) (n : Int).toNat = ⟨b0, t0, b1.take n, n, roon, fuze, false⟩ := rfl
    rw [hbf]
    clear hbf
    go_enter Try.func21, Try.ntmps21
    go_wp2_with fail
    refine (C.out _).mono ?_
    rintro e w1 ⟨rfl, hb⟩
    replace H := kept (H.out.next hb)
    clear hb C
    have hk1 := H.out.2.1
    go_wp2_with (first | (refine wpl_storeB rfl _ _ _ rfl w.heap.size (rL ⟨b0, t0, b1, t1, roon, fuze, false⟩) rfl rfl _ _ hk1 rfl rfl rfl ?_; intro w2 hk3 hu3; have H2 := kept (H.out.par hk3 hu3); have z0 : w2.cell? ⟨w.heap.size, 1, none⟩ = some (.string (strB b1)) := hk3.cell rfl; have z1 : w2.cell? ⟨w.heap.size, 3, none⟩ = some (.int .i64 t1) := hk3.cell rfl; have z2 := hk3.frozen 1; have z3 := hk3.frozen 3; have hlt := hk3.lt; have H3 := kept ((H2.out.set 1 (.string ((strB b1).extract 0 n))).set 3 (.int .i64 (n : Int))); have hk6 := H3.out.2.1; have hk4 := H3.out.2.2; clear hk1 H hu3) | (refine wpl_loadB rfl _ _ rfl w.heap.size rfl _ _ hk6 _ rfl rfl rfl ?_) | (refine wpl_storeB rfl _ _ _ rfl (w.heap.size + 1) _ rfl rfl _ _ hk4 rfl rfl rfl ?_; intro w5 hk5 hu5; have H5 := kept (H3.out.res hk5 hu5)))
    have HR : Value.agg (((rL ⟨b0, t0, b1, t1, roon, fuze, false⟩).set 1 (.string ((strB b1).extract 0 n))).set 3 (.int .i64 (n : Int))).toArray = rV ⟨b0, t0, b1.take n, n, roon, fuze, false⟩ := by rw [HC.out]; rfl
    rw [← HR]
    exact bodyPost_ret (res_cell_tmp rfl _ (w.heap.size + 1) _ _ _ rfl H5.out.2.2 rfl rfl rfl) rfl ⟨rfl, H5.out.1⟩
theorem rcut_any (d : DS) (f n : Int) (w : World) (h : d.Ok) : Calls Try.prog 21 #[rV d, .int .i64 f, .int .i64 n] w (RGives w (.tuple #[rV (d.cutM f n).1, .int .i64 ((d.cutM f n).2 : Int)])) := by
  by_cases hc : isF f = true ∧ 0 ≤ n ∧ n ≤ (d.b f).length
  · obtain ⟨h1, h2, h3⟩ := hc
    obtain ⟨m, rfl⟩ : ∃ m : Nat, (m : Int) = n := ⟨n.toNat, by omega⟩
    have hf : f = 0 ∨ f = 1 := by simpa [isF] using h1
    rcases hf with rfl | rfl
    · exact rcut_0 d m w h (by omega)
    · exact rcut_1 d m w h (by omega)
  · have he : d.cutM f n = (d, 1) := by unfold DS.cutM; rw [if_neg hc]
    rw [he]
    exact rcut_no d f n w hc
end Go.Proofs.Ytenkccfglmkdmaa.Disk
