/- Layer 22 (disk): the walks of the document's Sync, Cut. -/
import Derived.Test.YtenkccfglmkdmaaDiskRefB
import Derived.Test.YtenkccfglmkdmaaBlkOps
namespace Go.Proofs.Ytenkccfglmkdmaa.Disk
open Go.RowKit Go.Proofs.Ytenkccfglmkdmaa.Mem

/-- the cells of the document's disk -/
def rL (d : DS) : List Value := rC (strB d.b0) (strB d.b1) d.s0 d.s1 d.room d.fuse d.down
/-- the cells of no disk yet -/
def rZ : List Value := rC ⟨#[]⟩ ⟨#[]⟩ 0 0 0 0 false
/-- the parameter's block and the result's, within a call that began in w -/
def Rn (w W : World) (L Z : List Value) : Prop := Below w.heap.size w W ∧ Blk W w.heap.size L 42 ∧ Blk W (w.heap.size + 1) Z 42
section
variable {w W W' : World} {L L' Z Z' : List Value}
theorem Rn.start (w : World) (L Z : List Value) : Rn w ((w.alloc (.cells L.toArray 42)).alloc (.cells Z.toArray 42)) L Z :=
  ⟨((Below.refl _ _).alloc (Nat.le_refl _) _).alloc (by simp) _, (Blk.new w L _).alloc _, Blk.newAt _ Z _ (by simp)⟩
theorem Rn.next (h : Rn w W L Z) (hb : Below W.heap.size W W') : Rn w W' L Z := ⟨h.1.trans (hb.mono h.1.size), h.2.1.next hb, h.2.2.next hb⟩
theorem Rn.par (h : Rn w W L Z) (hk : Blk W' w.heap.size L' 42) (hu : Upd (fun k => k = w.heap.size) W W') : Rn w W' L' Z :=
  ⟨h.1.trans (hu.below h.1.size fun i _ hi => by omega), hk, h.2.2.upd hu (by omega)⟩
theorem Rn.res (h : Rn w W L Z) (hk : Blk W' (w.heap.size + 1) Z' 42) (hu : Upd (fun k => k = w.heap.size + 1) W W') : Rn w W' L Z' :=
  ⟨h.1.trans (hu.below h.1.size fun i _ hi => by omega), h.2.1.upd hu (by omega), hk⟩
theorem Rn.set (h : Rn w W L Z) (j : Nat) (v : Value) : Rn w (W.setCell ⟨w.heap.size, j, none⟩ v) (L.set j v) Z :=
  ⟨h.1.setCell (p := ⟨w.heap.size, j, none⟩) (Nat.le_refl _) v, h.2.1.set j v, h.2.2.other (p := ⟨w.heap.size, j, none⟩) (by show w.heap.size ≠ _; omega) v⟩
theorem Rn.drew (h : Rn w W L Z) : Rn w W.drew L Z := ⟨⟨h.1.os, h.1.tape, h.1.output, h.1.size, h.1.block⟩, h.2.1, h.2.2⟩
theorem Rn.cell (h : Rn w W L Z) {j : Nat} {u : Value} (hj : L[j]? = some u) : W.cell? ⟨w.heap.size, j, none⟩ = some u := h.2.1.cell hj
end
theorem rsync_no (d : DS) (f : Int) (w : World) (hf : isF f = false) : Calls Try.prog 19 #[rV d, .int .i64 f] w (RGives w (.tuple #[rV d, .int .i64 1])) := by
  obtain ⟨b0, s0, b1, s1, room, fuse, down⟩ := d
  have H := kept (Rn.start w (rL ⟨b0, s0, b1, s1, room, fuse, down⟩) (rL ⟨b0, s0, b1, s1, room, fuse, down⟩))
  show Calls Try.prog 19 #[.agg #[.string (strB b0), .string (strB b1), .int .i64 (s0 : Int), .int .i64 (s1 : Int), .int .i64 (room : Int), .int .i64 fuse, .bool down], .int .i64 f] w _
  have hne : f < 0 ∨ 1 < f := by simp [isF] at hf; omega
  clear hf
  rcases hne with hne | hne
  · go_enter Try.func19, Try.ntmps19
    go_wp2
    exact bodyPost_ret (res_cell_tmp rfl _ (w.heap.size + 1) _ (rL ⟨b0, s0, b1, s1, room, fuse, down⟩) _ rfl H.out.2.2 rfl rfl rfl) rfl ⟨rfl, H.out.1⟩
  · have hne2 : ¬ f < 0 := by omega
    go_enter Try.func19, Try.ntmps19
    go_wp2
    exact bodyPost_ret (res_cell_tmp rfl _ (w.heap.size + 1) _ (rL ⟨b0, s0, b1, s1, room, fuse, down⟩) _ rfl H.out.2.2 rfl rfl rfl) rfl ⟨rfl, H.out.1⟩
theorem rsync_0 (d : DS) (w : World) (h : d.Ok) : Calls Try.prog 19 #[rV d, .int .i64 0] w (RGives w (.tuple #[rV (d.syncM 0).1, .int .i64 ((d.syncM 0).2 : Int)])) := by
  have C := kept (fun W => rburn_ds d W h)
  have H := kept (Rn.start w (rL d) rZ)
  unfold DS.syncM
  rw [if_pos (show isF 0 = true from rfl)]
  generalize d.burn = D at *
  obtain ⟨b0, s0, b1, s1, room, fuse, down⟩ := d
  obtain ⟨c0, t0, c1, t1, roon, fuze, dn⟩ := D
  show Calls Try.prog 19 #[.agg #[.string (strB b0), .string (strB b1), .int .i64 (s0 : Int), .int .i64 (s1 : Int), .int .i64 (room : Int), .int .i64 fuse, .bool down], .int .i64 0] w _
  cases dn with
  | true =>
    simp only [if_true]
    go_enter Try.func19, Try.ntmps19
    go_wp2_with fail
    refine (C.out _).mono ?_
    rintro e w1 ⟨rfl, hb⟩
    replace H := kept (H.out.next hb)
    clear hb C
    have hk1 := H.out.2.1
    go_wp2_with (first | (refine wpl_storeB rfl _ _ _ rfl w.heap.size (rL ⟨c0, t0, c1, t1, roon, fuze, true⟩) rfl rfl _ _ hk1 rfl rfl rfl ?_; intro w2 hk3 hu3; have H2 := kept (H.out.par hk3 hu3); have hk4 := H2.out.2.2; clear hk1 H hu3) | (refine wpl_loadB rfl _ _ rfl w.heap.size rfl _ _ hk3 _ rfl rfl rfl ?_) | (refine wpl_storeB rfl _ _ _ rfl (w.heap.size + 1) (rL ⟨c0, t0, c1, t1, roon, fuze, true⟩) rfl rfl _ _ hk4 rfl rfl rfl ?_; intro w5 hk5 hu5; have H5 := kept (H2.out.res hk5 hu5)))
    exact bodyPost_ret (res_cell_tmp rfl _ (w.heap.size + 1) _ (rL ⟨c0, t0, c1, t1, roon, fuze, true⟩) _ rfl H5.out.2.2 rfl rfl rfl) rfl ⟨rfl, H5.out.1⟩
  | false =>
    simp only [Bool.false_eq_true, if_false]
    have hbf : (⟨c0, t0, c1, t1, roon, fuze, false⟩ : DS).put 0 ((⟨c0, t0, c1, t1, roon, fuze, false⟩ : DS).b 0) ((⟨c0, t0, c1, t1, roon, fuze, false⟩ : DS).b 0).length = ⟨c0, c0.length, c1, t1, roon, fuze, false⟩ := rfl
    rw [hbf]
    clear hbf
    have hsz := strB_size c0
    have HS := kept hsz
    clear hsz
    go_enter Try.func19, Try.ntmps19
    go_wp2_with fail
    refine (C.out _).mono ?_
    rintro e w1 ⟨rfl, hb⟩
    replace H := kept (H.out.next hb)
    clear hb C
    have hk1 := H.out.2.1
    go_wp2_with (first | (refine wpl_storeB rfl _ _ _ rfl w.heap.size (rL ⟨c0, t0, c1, t1, roon, fuze, false⟩) rfl rfl _ _ hk1 rfl rfl rfl ?_; intro w2 hk3 hu3; have H2 := kept (H.out.par hk3 hu3); have z0 : w2.cell? ⟨w.heap.size, 0, none⟩ = some (.string (strB c0)) := hk3.cell rfl; have z1 : w2.cell? ⟨w.heap.size, 2, none⟩ = some (.int .i64 t0) := hk3.cell rfl; have z2 := hk3.frozen 2; have hlt := hk3.lt; have H3 := H2.out.set 2 (.int .i64 (c0.length : Int)); rw [← HS.out] at H3; have H3 := kept H3; have hk6 := H3.out.2.1; have hk4 := H3.out.2.2; clear hk1 H hu3) | (refine wpl_loadB rfl _ _ rfl w.heap.size rfl _ _ hk6 _ rfl rfl rfl ?_) | (refine wpl_storeB rfl _ _ _ rfl (w.heap.size + 1) _ rfl rfl _ _ hk4 rfl rfl rfl ?_; intro w5 hk5 hu5; have H5 := kept (H3.out.res hk5 hu5)))
    rw [← HS.out]
    exact bodyPost_ret (res_cell_tmp rfl _ (w.heap.size + 1) _ _ _ rfl H5.out.2.2 rfl rfl rfl) rfl ⟨rfl, H5.out.1⟩
theorem rsync_1 (d : DS) (w : World) (h : d.Ok) : Calls Try.prog 19 #[rV d, .int .i64 1] w (RGives w (.tuple #[rV (d.syncM 1).1, .int .i64 ((d.syncM 1).2 : Int)])) := by
  have C := kept (fun W => rburn_ds d W h)
  have H := kept (Rn.start w (rL d) rZ)
  unfold DS.syncM
  rw [if_pos (show isF 1 = true from rfl)]
  generalize d.burn = D at *
  obtain ⟨b0, s0, b1, s1, room, fuse, down⟩ := d
  obtain ⟨c0, t0, c1, t1, roon, fuze, dn⟩ := D
  show Calls Try.prog 19 #[.agg #[.string (strB b0), .string (strB b1), .int .i64 (s0 : Int), .int .i64 (s1 : Int), .int .i64 (room : Int), .int .i64 fuse, .bool down], .int .i64 1] w _
  cases dn with
  | true =>
    simp only [if_true]
    go_enter Try.func19, Try.ntmps19
    go_wp2_with fail
    refine (C.out _).mono ?_
    rintro e w1 ⟨rfl, hb⟩
    replace H := kept (H.out.next hb)
    clear hb C
    have hk1 := H.out.2.1
    go_wp2_with (first | (refine wpl_storeB rfl _ _ _ rfl w.heap.size (rL ⟨c0, t0, c1, t1, roon, fuze, true⟩) rfl rfl _ _ hk1 rfl rfl rfl ?_; intro w2 hk3 hu3; have H2 := kept (H.out.par hk3 hu3); have hk4 := H2.out.2.2; clear hk1 H hu3) | (refine wpl_loadB rfl _ _ rfl w.heap.size rfl _ _ hk3 _ rfl rfl rfl ?_) | (refine wpl_storeB rfl _ _ _ rfl (w.heap.size + 1) (rL ⟨c0, t0, c1, t1, roon, fuze, true⟩) rfl rfl _ _ hk4 rfl rfl rfl ?_; intro w5 hk5 hu5; have H5 := kept (H2.out.res hk5 hu5)))
    exact bodyPost_ret (res_cell_tmp rfl _ (w.heap.size + 1) _ (rL ⟨c0, t0, c1, t1, roon, fuze, true⟩) _ rfl H5.out.2.2 rfl rfl rfl) rfl ⟨rfl, H5.out.1⟩
  | false =>
    simp only [Bool.false_eq_true, if_false]
    have hbf : (⟨c0, t0, c1, t1, roon, fuze, false⟩ : DS).put 1 ((⟨c0, t0, c1, t1, roon, fuze, false⟩ : DS).b 1) ((⟨c0, t0, c1, t1, roon, fuze, false⟩ : DS).b 1).length = ⟨c0, t0, c1, c1.length, roon, fuze, false⟩ := rfl
    rw [hbf]
    clear hbf
    have hsz := strB_size c1
    have HS := kept hsz
    clear hsz
    go_enter Try.func19, Try.ntmps19
    go_wp2_with fail
    refine (C.out _).mono ?_
    rintro e w1 ⟨rfl, hb⟩
    replace H := kept (H.out.next hb)
    clear hb C
    have hk1 := H.out.2.1
    go_wp2_with (first | (refine wpl_storeB rfl _ _ _ rfl w.heap.size (rL ⟨c0, t0, c1, t1, roon, fuze, false⟩) rfl rfl _ _ hk1 rfl rfl rfl ?_; intro w2 hk3 hu3; have H2 := kept (H.out.par hk3 hu3); have z0 : w2.cell? ⟨w.heap.size, 1, none⟩ = some (.string (strB c1)) := hk3.cell rfl; have z1 : w2.cell? ⟨w.heap.size, 3, none⟩ = some (.int .i64 t1) := hk3.cell rfl; have z2 := hk3.frozen 3; have hlt := hk3.lt; have H3 := H2.out.set 3 (.int .i64 (c1.length : Int)); rw [← HS.out] at H3; have H3 := kept H3; have hk6 := H3.out.2.1; have hk4 := H3.out.2.2; clear hk1 H hu3) | (refine wpl_loadB rfl _ _ rfl w.heap.size rfl _ _ hk6 _ rfl rfl rfl ?_) | (refine wpl_storeB rfl _ _ _ rfl (w.heap.size + 1) _ rfl rfl _ _ hk4 rfl rfl rfl ?_; intro w5 hk5 hu5; have H5 := kept (H3.out.res hk5 hu5)))
    rw [← HS.out]
    exact bodyPost_ret (res_cell_tmp rfl _ (w.heap.size + 1) _ _ _ rfl H5.out.2.2 rfl rfl rfl) rfl ⟨rfl, H5.out.1⟩
theorem rsync_any (d : DS) (f : Int) (w : World) (h : d.Ok) : Calls Try.prog 19 #[rV d, .int .i64 f] w (RGives w (.tuple #[rV (d.syncM f).1, .int .i64 ((d.syncM f).2 : Int)])) := by
  by_cases h0 : f = 0
  · subst h0; exact rsync_0 d w h
  · by_cases h1 : f = 1
    · subst h1; exact rsync_1 d w h
    · have hi : isF f = false := by simp [isF, h0, h1]
      have he : d.syncM f = (d, 1) := by unfold DS.syncM; rw [hi]; rfl
      rw [he]
      exact rsync_no d f w hi
end Go.Proofs.Ytenkccfglmkdmaa.Disk
