import Derived.Test.YtdlghabpnpbebaaDoorDiskMore
import Derived.Test.YtdlghabpnpbebaaDoorBlkOps
import Derived.Laws.Concat
import Derived.Deep.DeepCutAuto
import Derived.BigQuiet
/- Layer 22 (disk): the walks of the document's functions. -/
namespace Go.Proofs.YtdlghabpnpbebaaDoor.Disk
open Go.RowKit Go.Proofs.YtdlghabpnpbebaaDoor.Mem

/-- the document's disk -/
def rV (d : DS) : Value := .agg #[.string (strB d.b0), .string (strB d.b1), .int .i64 (d.s0 : Int), .int .i64 (d.s1 : Int), .int .i64 (d.room : Int), .int .i64 d.fuse, .bool d.down]
/-- a call of the document's gives v, and memory of its own -/
def RGives (w : World) (v : Value) (e : Ending) (w' : World) : Prop := e = .returned v ∧ Below w.heap.size w w'
theorem rroom_any (n : Int) (w : World) : Calls Tryd.prog 46 #[.int .i64 n] w fun e w' => e = .returned (.int .i64 (roomN n : Int)) ∧ w = w' := by
  by_cases h0 : n < 0
  · rw [show roomN n = 0 from by unfold roomN; omega]
    go_enter Tryd.func46, Tryd.ntmps46
    go_wp2
    go_ret
    exact ⟨rfl, rfl⟩
  · by_cases h1 : 1048576 < n
    · rw [show roomN n = 1048576 from by unfold roomN; omega]
      go_enter Tryd.func46, Tryd.ntmps46
      go_wp2
      go_ret
      exact ⟨rfl, rfl⟩
    · rw [show (roomN n : Int) = n from by unfold roomN; omega]
      go_enter Tryd.func46, Tryd.ntmps46
      go_wp2
      go_ret
      exact ⟨rfl, rfl⟩
theorem rnew_any (n : Int) (w : World) : Calls Tryd.prog 23 #[.int .i64 n] w (RGives w (rV (newD n))) := by
  have C := kept (fun W => rroom_any n W)
  have e : rV (newD n) = .agg #[.string ⟨#[]⟩, .string ⟨#[]⟩, .int .i64 0, .int .i64 0, .int .i64 (roomN n : Int), .int .i64 (-1), .bool false] := rfl
  rw [e]
  clear e
  generalize roomN n = m at *
  go_enter Tryd.func23, Tryd.ntmps23
  go_wp2_with fail
  refine (C.out _).mono ?_
  rintro e w' ⟨rfl, rfl⟩
  go_wp2
  have hk := Blk.new w [.string ⟨#[]⟩, .string ⟨#[]⟩, .int .i64 0, .int .i64 0, .int .i64 (m : Int), .int .i64 (-1), .bool false] 55
  have z0 := hk.cell (j := 0) rfl
  have z1 := hk.cell (j := 1) rfl
  have z2 := hk.cell (j := 2) rfl
  have z3 := hk.cell (j := 3) rfl
  have z4 := hk.cell (j := 4) rfl
  have z5 := hk.cell (j := 5) rfl
  have z6 := hk.cell (j := 6) rfl
  refine bodyPost_ret (v := .agg #[.string ⟨#[]⟩, .string ⟨#[]⟩, .int .i64 0, .int .i64 0, .int .i64 (m : Int), .int .i64 (-1), .bool false]) (by simp [results, Tryd.results23, go_sem, z0, z1, z2, z3, z4, z5, z6]) rfl ⟨rfl, (Below.refl _ _).alloc (Nat.le_refl _) _⟩
/-- the document's disk, by its cells -/
def rC (p q : ByteArray) (s t m fu : Int) (dn : Bool) : List Value := [.string p, .string q, .int .i64 s, .int .i64 t, .int .i64 m, .int .i64 fu, .bool dn]
theorem rV_eq (d : DS) : rV d = .agg (rC (strB d.b0) (strB d.b1) d.s0 d.s1 d.room d.fuse d.down).toArray := rfl
theorem cells7 (W : World) (g : Nat) (hg : g = W.heap.size) (a b c d e f h : Value) : (W.alloc (.cells #[a, b, c, d, e, f, h] 55)).cell? ⟨g, 0, none⟩ = some a ∧ (W.alloc (.cells #[a, b, c, d, e, f, h] 55)).cell? ⟨g, 1, none⟩ = some b ∧ (W.alloc (.cells #[a, b, c, d, e, f, h] 55)).cell? ⟨g, 2, none⟩ = some c ∧ (W.alloc (.cells #[a, b, c, d, e, f, h] 55)).cell? ⟨g, 3, none⟩ = some d ∧ (W.alloc (.cells #[a, b, c, d, e, f, h] 55)).cell? ⟨g, 4, none⟩ = some e ∧ (W.alloc (.cells #[a, b, c, d, e, f, h] 55)).cell? ⟨g, 5, none⟩ = some f ∧ (W.alloc (.cells #[a, b, c, d, e, f, h] 55)).cell? ⟨g, 6, none⟩ = some h := by
  have hk := Blk.newAt W [a, b, c, d, e, f, h] 55 hg
  exact ⟨hk.cell (j := 0) rfl, hk.cell (j := 1) rfl, hk.cell (j := 2) rfl, hk.cell (j := 3) rfl, hk.cell (j := 4) rfl, hk.cell (j := 5) rfl, hk.cell (j := 6) rfl⟩
theorem rsetroom_any (p q : ByteArray) (s t m fu : Int) (dn : Bool) (n : Int) (w : World) :
    Calls Tryd.prog 28 #[.agg #[.string p, .string q, .int .i64 s, .int .i64 t, .int .i64 m, .int .i64 fu, .bool dn], .int .i64 n] w (RGives w (.agg #[.string p, .string q, .int .i64 s, .int .i64 t, .int .i64 (roomN n : Int), .int .i64 fu, .bool dn])) := by
  have C := kept (fun W => rroom_any n W)
  generalize roomN n = k at *
  go_enter Tryd.func28, Tryd.ntmps28
  go_wp2_with fail
  refine (C.out _).mono ?_
  rintro e w' ⟨rfl, rfl⟩
  go_wp2
  obtain ⟨z0, z1, z2, z3, z4, z5, z6⟩ := cells7 (w.alloc (.cells #[.string p, .string q, .int .i64 s, .int .i64 t, .int .i64 (k : Int), .int .i64 fu, .bool dn] 55)) (w.heap.size + 1) (by simp) (.string p) (.string q) (.int .i64 s) (.int .i64 t) (.int .i64 (k : Int)) (.int .i64 fu) (.bool dn)
  refine bodyPost_ret (v := .agg #[.string p, .string q, .int .i64 s, .int .i64 t, .int .i64 (k : Int), .int .i64 fu, .bool dn]) (by simp [results, Tryd.results28, go_sem, z0, z1, z2, z3, z4, z5, z6]) rfl ⟨rfl, ((Below.refl _ _).alloc (Nat.le_refl _) _).alloc (by simp) _⟩
theorem rsetfuse_any (p q : ByteArray) (s t m fu : Int) (dn : Bool) (n : Int) (w : World) :
    Calls Tryd.prog 26 #[.agg #[.string p, .string q, .int .i64 s, .int .i64 t, .int .i64 m, .int .i64 fu, .bool dn], .int .i64 n] w (RGives w (.agg #[.string p, .string q, .int .i64 s, .int .i64 t, .int .i64 m, .int .i64 (if dn = true then fu else max n (-1)), .bool dn])) := by
  cases dn with
  | true =>
    simp only [if_true]
    go_enter Tryd.func26, Tryd.ntmps26
    go_wp2
    obtain ⟨z0, z1, z2, z3, z4, z5, z6⟩ := cells7 (w.alloc (.cells #[.string p, .string q, .int .i64 s, .int .i64 t, .int .i64 m, .int .i64 fu, .bool true] 55)) (w.heap.size + 1) (by simp) (.string p) (.string q) (.int .i64 s) (.int .i64 t) (.int .i64 m) (.int .i64 fu) (.bool true)
    refine bodyPost_ret (v := .agg #[.string p, .string q, .int .i64 s, .int .i64 t, .int .i64 m, .int .i64 fu, .bool true]) (by simp [results, Tryd.results26, go_sem, z0, z1, z2, z3, z4, z5, z6]) rfl ⟨rfl, ((Below.refl _ _).alloc (Nat.le_refl _) _).alloc (by simp) _⟩
  | false =>
    simp only [Bool.false_eq_true, if_false]
    by_cases hn : n < 0
    · rw [show max n (-1) = -1 from by omega]
      go_enter Tryd.func26, Tryd.ntmps26
      go_wp2
      obtain ⟨z0, z1, z2, z3, z4, z5, z6⟩ := cells7 (w.alloc (.cells #[.string p, .string q, .int .i64 s, .int .i64 t, .int .i64 m, .int .i64 (-1), .bool false] 55)) (w.heap.size + 1) (by simp) (.string p) (.string q) (.int .i64 s) (.int .i64 t) (.int .i64 m) (.int .i64 (-1)) (.bool false)
      refine bodyPost_ret (v := .agg #[.string p, .string q, .int .i64 s, .int .i64 t, .int .i64 m, .int .i64 (-1), .bool false]) (by simp [results, Tryd.results26, go_sem, z0, z1, z2, z3, z4, z5, z6]) rfl ⟨rfl, ((Below.refl _ _).alloc (Nat.le_refl _) _).alloc (by simp) _⟩
    · rw [show max n (-1) = n from by omega]
      go_enter Tryd.func26, Tryd.ntmps26
      go_wp2
      obtain ⟨z0, z1, z2, z3, z4, z5, z6⟩ := cells7 (w.alloc (.cells #[.string p, .string q, .int .i64 s, .int .i64 t, .int .i64 m, .int .i64 n, .bool false] 55)) (w.heap.size + 1) (by simp) (.string p) (.string q) (.int .i64 s) (.int .i64 t) (.int .i64 m) (.int .i64 n) (.bool false)
      refine bodyPost_ret (v := .agg #[.string p, .string q, .int .i64 s, .int .i64 t, .int .i64 m, .int .i64 n, .bool false]) (by simp [results, Tryd.results26, go_sem, z0, z1, z2, z3, z4, z5, z6]) rfl ⟨rfl, ((Below.refl _ _).alloc (Nat.le_refl _) _).alloc (by simp) _⟩
theorem rburn_any (p q : ByteArray) (s t m fu : Int) (dn : Bool) (w : World) (hfu : -1 ≤ fu ∧ fu ≤ 9223372036854775807) :
    Calls Tryd.prog 65 #[.agg #[.string p, .string q, .int .i64 s, .int .i64 t, .int .i64 m, .int .i64 fu, .bool dn]] w (RGives w (.tuple #[.agg #[.string p, .string q, .int .i64 s, .int .i64 t, .int .i64 m, .int .i64 (if dn = true ∨ fu = 0 then fu else max (fu - 1) (-1)), .bool (dn || decide (fu = 0))], .bool (dn || decide (fu = 0))])) := by
  cases dn with
  | true =>
    simp only [true_or, if_true, Bool.true_or]
    go_enter Tryd.func65, Tryd.ntmps65
    go_wp2
    obtain ⟨z0, z1, z2, z3, z4, z5, z6⟩ := cells7 (w.alloc (.cells #[.string p, .string q, .int .i64 s, .int .i64 t, .int .i64 m, .int .i64 fu, .bool true] 55)) (w.heap.size + 1) (by simp) (.string p) (.string q) (.int .i64 s) (.int .i64 t) (.int .i64 m) (.int .i64 fu) (.bool true)
    refine bodyPost_ret (v := .tuple #[.agg #[.string p, .string q, .int .i64 s, .int .i64 t, .int .i64 m, .int .i64 fu, .bool true], .bool true]) (by simp [results, Tryd.results65, go_sem, z0, z1, z2, z3, z4, z5, z6]) rfl ⟨rfl, ((Below.refl _ _).alloc (Nat.le_refl _) _).alloc (by simp) _⟩
  | false =>
    simp only [Bool.false_eq_true, false_or, Bool.false_or]
    by_cases h0 : fu = 0
    · subst h0
      simp only [if_true, decide_true]
      go_enter Tryd.func65, Tryd.ntmps65
      go_wp2
      obtain ⟨z0, z1, z2, z3, z4, z5, z6⟩ := cells7 (w.alloc (.cells #[.string p, .string q, .int .i64 s, .int .i64 t, .int .i64 m, .int .i64 0, .bool true] 55)) (w.heap.size + 1) (by simp) (.string p) (.string q) (.int .i64 s) (.int .i64 t) (.int .i64 m) (.int .i64 0) (.bool true)
      refine bodyPost_ret (v := .tuple #[.agg #[.string p, .string q, .int .i64 s, .int .i64 t, .int .i64 m, .int .i64 0, .bool true], .bool true]) (by simp [results, Tryd.results65, go_sem, z0, z1, z2, z3, z4, z5, z6]) rfl ⟨rfl, ((Below.refl _ _).alloc (Nat.le_refl _) _).alloc (by simp) _⟩
    · rw [if_neg h0, decide_eq_false h0]
      by_cases h1 : 0 < fu
      · rw [show max (fu - 1) (-1) = fu - 1 from by omega]
        go_enter Tryd.func65, Tryd.ntmps65
        go_wp2
        obtain ⟨z0, z1, z2, z3, z4, z5, z6⟩ := cells7 (w.alloc (.cells #[.string p, .string q, .int .i64 s, .int .i64 t, .int .i64 m, .int .i64 (fu - 1), .bool false] 55)) (w.heap.size + 1) (by simp) (.string p) (.string q) (.int .i64 s) (.int .i64 t) (.int .i64 m) (.int .i64 (fu - 1)) (.bool false)
        refine bodyPost_ret (v := .tuple #[.agg #[.string p, .string q, .int .i64 s, .int .i64 t, .int .i64 m, .int .i64 (fu - 1), .bool false], .bool false]) (by simp [results, Tryd.results65, go_sem, z0, z1, z2, z3, z4, z5, z6]) rfl ⟨rfl, ((Below.refl _ _).alloc (Nat.le_refl _) _).alloc (by simp) _⟩
      · obtain rfl : fu = -1 := by omega
        rw [show max ((-1 : Int) - 1) (-1) = -1 from by omega]
        go_enter Tryd.func65, Tryd.ntmps65
        go_wp2
        obtain ⟨z0, z1, z2, z3, z4, z5, z6⟩ := cells7 (w.alloc (.cells #[.string p, .string q, .int .i64 s, .int .i64 t, .int .i64 m, .int .i64 (-1), .bool false] 55)) (w.heap.size + 1) (by simp) (.string p) (.string q) (.int .i64 s) (.int .i64 t) (.int .i64 m) (.int .i64 (-1)) (.bool false)
        refine bodyPost_ret (v := .tuple #[.agg #[.string p, .string q, .int .i64 s, .int .i64 t, .int .i64 m, .int .i64 (-1), .bool false], .bool false]) (by simp [results, Tryd.results65, go_sem, z0, z1, z2, z3, z4, z5, z6]) rfl ⟨rfl, ((Below.refl _ _).alloc (Nat.le_refl _) _).alloc (by simp) _⟩
end Go.Proofs.YtdlghabpnpbebaaDoor.Disk

/- Layer 22 (disk): the walks of the document's Sync, Cut, Append. -/
namespace Go.Proofs.YtdlghabpnpbebaaDoor.Disk
open Go.RowKit Go.Proofs.YtdlghabpnpbebaaDoor.Mem

theorem strB_size (l : List Nat) : (strB l).size = l.length := by simp [strB, ByteArray.size]
theorem rburn_ds (d : DS) (w : World) (h : d.Ok) : Calls Tryd.prog 65 #[rV d] w (RGives w (.tuple #[rV d.burn, .bool d.burn.down])) := by
  obtain ⟨b0, s0, b1, s1, room, fuse, down⟩ := d
  have hf : -1 ≤ fuse ∧ fuse ≤ 9223372036854775807 := ⟨h.2.2.2.2.2.2.1, h.2.2.2.2.2.2.2⟩
  have e := rburn_any (strB b0) (strB b1) s0 s1 room fuse down w hf
  unfold DS.burn
  dsimp only
  by_cases h0 : fuse = 0
  · subst h0
    rw [if_pos rfl]
    simpa [rV] using e
  · rw [if_neg h0]
    cases down with
    | true => simpa [rV, h0] using e
    | false => simpa [rV, h0] using e
theorem facts7 {W : World} {g : Nat} {a b c d e f h : Value} (k : Blk W g [a, b, c, d, e, f, h] 55) :
    (W.cell? ⟨g, 0, none⟩ = some a ∧ W.cell? ⟨g, 1, none⟩ = some b ∧ W.cell? ⟨g, 2, none⟩ = some c ∧ W.cell? ⟨g, 3, none⟩ = some d ∧ W.cell? ⟨g, 4, none⟩ = some e ∧ W.cell? ⟨g, 5, none⟩ = some f ∧ W.cell? ⟨g, 6, none⟩ = some h) ∧
    (W.frozen? ⟨g, 0, none⟩ = false ∧ W.frozen? ⟨g, 1, none⟩ = false ∧ W.frozen? ⟨g, 2, none⟩ = false ∧ W.frozen? ⟨g, 3, none⟩ = false ∧ W.frozen? ⟨g, 4, none⟩ = false ∧ W.frozen? ⟨g, 5, none⟩ = false ∧ W.frozen? ⟨g, 6, none⟩ = false) ∧ g < W.heap.size :=
  ⟨⟨k.cell (j := 0) rfl, k.cell (j := 1) rfl, k.cell (j := 2) rfl, k.cell (j := 3) rfl, k.cell (j := 4) rfl, k.cell (j := 5) rfl, k.cell (j := 6) rfl⟩, ⟨k.frozen 0, k.frozen 1, k.frozen 2, k.frozen 3, k.frozen 4, k.frozen 5, k.frozen 6⟩, k.lt⟩
end Go.Proofs.YtdlghabpnpbebaaDoor.Disk

/- Layer 22 (disk): the walks of the document's Sync, Cut. -/
namespace Go.Proofs.YtdlghabpnpbebaaDoor.Disk
open Go.RowKit Go.Proofs.YtdlghabpnpbebaaDoor.Mem

/-- the cells of the document's disk -/
def rL (d : DS) : List Value := rC (strB d.b0) (strB d.b1) d.s0 d.s1 d.room d.fuse d.down
/-- the cells of no disk yet -/
def rZ : List Value := rC ⟨#[]⟩ ⟨#[]⟩ 0 0 0 0 false
/-- the parameter's block and the result's, within a call that began in w -/
def Rn (w W : World) (L Z : List Value) : Prop := Below w.heap.size w W ∧ Blk W w.heap.size L 55 ∧ Blk W (w.heap.size + 1) Z 55
section
variable {w W W' : World} {L L' Z Z' : List Value}
set_option maxRecDepth 100000 in
theorem Rn.start (w : World) (L Z : List Value) : Rn w ((w.alloc (.cells L.toArray 55)).alloc (.cells Z.toArray 55)) L Z :=
  ⟨((Below.refl _ _).alloc (Nat.le_refl _) _).alloc (by simp) _, (Blk.new w L _).alloc _, Blk.newAt _ Z _ (by simp)⟩
set_option maxRecDepth 100000 in
theorem Rn.next (h : Rn w W L Z) (hb : Below W.heap.size W W') : Rn w W' L Z := ⟨h.1.trans (hb.mono h.1.size), h.2.1.next hb, h.2.2.next hb⟩
set_option maxRecDepth 100000 in
theorem Rn.par (h : Rn w W L Z) (hk : Blk W' w.heap.size L' 55) (hu : Upd (fun k => k = w.heap.size) W W') : Rn w W' L' Z :=
  ⟨h.1.trans (hu.below h.1.size fun i _ hi => by omega), hk, h.2.2.upd hu (by omega)⟩
set_option maxRecDepth 100000 in
theorem Rn.res (h : Rn w W L Z) (hk : Blk W' (w.heap.size + 1) Z' 55) (hu : Upd (fun k => k = w.heap.size + 1) W W') : Rn w W' L Z' :=
  ⟨h.1.trans (hu.below h.1.size fun i _ hi => by omega), h.2.1.upd hu (by omega), hk⟩
set_option maxRecDepth 100000 in
theorem Rn.set (h : Rn w W L Z) (j : Nat) (v : Value) : Rn w (W.setCell ⟨w.heap.size, j, none⟩ v) (L.set j v) Z :=
  ⟨h.1.setCell (p := ⟨w.heap.size, j, none⟩) (Nat.le_refl _) v, h.2.1.set j v, h.2.2.other (p := ⟨w.heap.size, j, none⟩) (by show w.heap.size ≠ _; omega) v⟩
set_option maxRecDepth 100000 in
theorem Rn.drew (h : Rn w W L Z) : Rn w W.drew L Z := ⟨⟨h.1.os, h.1.tape, h.1.output, h.1.size, h.1.block⟩, h.2.1, h.2.2⟩
set_option maxRecDepth 100000 in
theorem Rn.cell (h : Rn w W L Z) {j : Nat} {u : Value} (hj : L[j]? = some u) : W.cell? ⟨w.heap.size, j, none⟩ = some u := h.2.1.cell hj
end
set_option maxRecDepth 100000 in
theorem rsync_no (d : DS) (f : Int) (w : World) (hf : isF f = false) : Calls Tryd.prog 67 #[rV d, .int .i64 f] w (RGives w (.tuple #[rV d, .int .i64 1])) := by
  obtain ⟨b0, s0, b1, s1, room, fuse, down⟩ := d
  have H := kept (Rn.start w (rL ⟨b0, s0, b1, s1, room, fuse, down⟩) (rL ⟨b0, s0, b1, s1, room, fuse, down⟩))
  show Calls Tryd.prog 67 #[.agg #[.string (strB b0), .string (strB b1), .int .i64 (s0 : Int), .int .i64 (s1 : Int), .int .i64 (room : Int), .int .i64 fuse, .bool down], .int .i64 f] w _
  have hne : f < 0 ∨ 1 < f := by simp [isF] at hf; omega
  clear hf
  rcases hne with hne | hne
  · go_enter Tryd.func67, Tryd.ntmps67
    go_wp2
    exact bodyPost_ret (res_cell_tmp rfl _ (w.heap.size + 1) _ (rL ⟨b0, s0, b1, s1, room, fuse, down⟩) _ rfl H.out.2.2 rfl rfl rfl) rfl ⟨rfl, H.out.1⟩
  · have hne2 : ¬ f < 0 := by omega
    go_enter Tryd.func67, Tryd.ntmps67
    go_wp2
    exact bodyPost_ret (res_cell_tmp rfl _ (w.heap.size + 1) _ (rL ⟨b0, s0, b1, s1, room, fuse, down⟩) _ rfl H.out.2.2 rfl rfl rfl) rfl ⟨rfl, H.out.1⟩
set_option maxRecDepth 100000 in
theorem rsync_0 (d : DS) (w : World) (h : d.Ok) : Calls Tryd.prog 67 #[rV d, .int .i64 0] w (RGives w (.tuple #[rV (d.syncM 0).1, .int .i64 ((d.syncM 0).2 : Int)])) := by
  have C := kept (fun W => rburn_ds d W h)
  have H := kept (Rn.start w (rL d) rZ)
  unfold DS.syncM
  rw [if_pos (show isF 0 = true from rfl)]
  generalize d.burn = D at *
  obtain ⟨b0, s0, b1, s1, room, fuse, down⟩ := d
  obtain ⟨c0, t0, c1, t1, roon, fuze, dn⟩ := D
  show Calls Tryd.prog 67 #[.agg #[.string (strB b0), .string (strB b1), .int .i64 (s0 : Int), .int .i64 (s1 : Int), .int .i64 (room : Int), .int .i64 fuse, .bool down], .int .i64 0] w _
  cases dn with
  | true =>
    simp only [if_true]
    go_enter Tryd.func67, Tryd.ntmps67
    go_wp2_with fail
    refine (C.out _).mono ?_
    rintro e w1 ⟨rfl, hb⟩
    replace H := kept (H.out.next hb)
    clear hb C
    have hk1 := H.out.2.1
    go_wp2_with (first | (refine wpl_storeB rfl _ _ _ rfl w.heap.size (rL ⟨c0, t0, c1, t1, roon, fuze, true⟩) rfl rfl _ _ hk1 rfl rfl rfl ?_; intro w2 hk3 hu3; have H2 := kept (H.out.par hk3 hu3); have hk4 := H2.out.2.2; clear hk1 H hu3) | (refine wpl_loadB rfl _ _ rfl w.heap.size rfl _ _ hk3 _ rfl rfl rfl ?_) | (refine wpl_storeB rfl _ _ _ rfl (w.heap.size + 1) (rL ⟨c0, t0, c1, t1, roon, fuze, true⟩) rfl rfl _ _ hk4 rfl rfl rfl ?_; intro w5 hk5 hu5; have H5 := kept (H2.out.res hk5 hu5)))
    exact bodyPost_ret (res_cell_tmp rfl _ (w.heap.size + 1) _ (rL ⟨c0, t0, c1, t1, roon, fuze, true⟩) _ rfl H5.out.2.2 rfl rfl rfl) rfl ⟨rfl, H5.out.1⟩
  | false =>
    simp only [Bool.false_eq_true, if_false]
    have hbf : (⟨c0, t0, c1, t1, roon, fuze, false⟩ : DS).put 0 ((⟨c0, t0, c1, t1, roon, fuze, false⟩ : DS).b 0) ((⟨c0, t0, c1, t1, roon, fuze, false⟩ : DS).b 0).length = ⟨c0, c0.length, c1, t1, roon, fuze, false⟩ := rfl
    rw [hbf]
    clear hbf
    have hsz := strB_size c0
    have HS := kept hsz
    clear hsz
    go_enter Tryd.func67, Tryd.ntmps67
    go_wp2_with fail
    refine (C.out _).mono ?_
    rintro e w1 ⟨rfl, hb⟩
    replace H := kept (H.out.next hb)
    clear hb C
    have hk1 := H.out.2.1
    go_wp2_with (first | (refine wpl_storeB rfl _ _ _ rfl w.heap.size (rL ⟨c0, t0, c1, t1, roon, fuze, false⟩) rfl rfl _ _ hk1 rfl rfl rfl ?_; intro w2 hk3 hu3; have H2 := kept (H.out.par hk3 hu3); have z0 : w2.cell? ⟨w.heap.size, 0, none⟩ = some (.string (strB c0)) := hk3.cell rfl; have z1 : w2.cell? ⟨w.heap.size, 2, none⟩ = some (.int .i64 t0) := hk3.cell rfl; have z2 := hk3.frozen 2; have hlt := hk3.lt; have H3 := H2.out.set 2 (.int .i64 (c0.length : Int)); rw [← HS.out] at H3; have H3 := kept H3; have hk6 := H3.out.2.1; have hk4 := H3.out.2.2; clear hk1 H hu3) | (refine wpl_loadB rfl _ _ rfl w.heap.size rfl _ _ hk6 _ rfl rfl rfl ?_) | (refine wpl_storeB rfl _ _ _ rfl (w.heap.size + 1) _ rfl rfl _ _ hk4 rfl rfl rfl ?_; intro w5 hk5 hu5; have H5 := kept (H3.out.res hk5 hu5)))
    rw [← HS.out]
    exact bodyPost_ret (res_cell_tmp rfl _ (w.heap.size + 1) _ _ _ rfl H5.out.2.2 rfl rfl rfl) rfl ⟨rfl, H5.out.1⟩
set_option maxRecDepth 100000 in
theorem rsync_1 (d : DS) (w : World) (h : d.Ok) : Calls Tryd.prog 67 #[rV d, .int .i64 1] w (RGives w (.tuple #[rV (d.syncM 1).1, .int .i64 ((d.syncM 1).2 : Int)])) := by
  have C := kept (fun W => rburn_ds d W h)
  have H := kept (Rn.start w (rL d) rZ)
  unfold DS.syncM
  rw [if_pos (show isF 1 = true from rfl)]
  generalize d.burn = D at *
  obtain ⟨b0, s0, b1, s1, room, fuse, down⟩ := d
  obtain ⟨c0, t0, c1, t1, roon, fuze, dn⟩ := D
  show Calls Tryd.prog 67 #[.agg #[.string (strB b0), .string (strB b1), .int .i64 (s0 : Int), .int .i64 (s1 : Int), .int .i64 (room : Int), .int .i64 fuse, .bool down], .int .i64 1] w _
  cases dn with
  | true =>
    simp only [if_true]
    go_enter Tryd.func67, Tryd.ntmps67
    go_wp2_with fail
    refine (C.out _).mono ?_
    rintro e w1 ⟨rfl, hb⟩
    replace H := kept (H.out.next hb)
    clear hb C
    have hk1 := H.out.2.1
    go_wp2_with (first | (refine wpl_storeB rfl _ _ _ rfl w.heap.size (rL ⟨c0, t0, c1, t1, roon, fuze, true⟩) rfl rfl _ _ hk1 rfl rfl rfl ?_; intro w2 hk3 hu3; have H2 := kept (H.out.par hk3 hu3); have hk4 := H2.out.2.2; clear hk1 H hu3) | (refine wpl_loadB rfl _ _ rfl w.heap.size rfl _ _ hk3 _ rfl rfl rfl ?_) | (refine wpl_storeB rfl _ _ _ rfl (w.heap.size + 1) (rL ⟨c0, t0, c1, t1, roon, fuze, true⟩) rfl rfl _ _ hk4 rfl rfl rfl ?_; intro w5 hk5 hu5; have H5 := kept (H2.out.res hk5 hu5)))
    exact bodyPost_ret (res_cell_tmp rfl _ (w.heap.size + 1) _ (rL ⟨c0, t0, c1, t1, roon, fuze, true⟩) _ rfl H5.out.2.2 rfl rfl rfl) rfl ⟨rfl, H5.out.1⟩
  | false =>
    simp only [Bool.false_eq_true, if_false]
    have hbf : (⟨c0, t0, c1, t1, roon, fuze, false⟩ : DS).put 1 ((⟨c0, t0, c1, t1, roon, fuze, false⟩ : DS).b 1) ((⟨c0, t0, c1, t1, roon, fuze, false⟩ : DS).b 1).length = ⟨c0, t0, c1, c1.length, roon, fuze, false⟩ := rfl
    rw [hbf]
    clear hbf
    have hsz := strB_size c1
    have HS := kept hsz
    clear hsz
    go_enter Tryd.func67, Tryd.ntmps67
    go_wp2_with fail
    refine (C.out _).mono ?_
    rintro e w1 ⟨rfl, hb⟩
    replace H := kept (H.out.next hb)
    clear hb C
    have hk1 := H.out.2.1
    go_wp2_with (first | (refine wpl_storeB rfl _ _ _ rfl w.heap.size (rL ⟨c0, t0, c1, t1, roon, fuze, false⟩) rfl rfl _ _ hk1 rfl rfl rfl ?_; intro w2 hk3 hu3; have H2 := kept (H.out.par hk3 hu3); have z0 : w2.cell? ⟨w.heap.size, 1, none⟩ = some (.string (strB c1)) := hk3.cell rfl; have z1 : w2.cell? ⟨w.heap.size, 3, none⟩ = some (.int .i64 t1) := hk3.cell rfl; have z2 := hk3.frozen 3; have hlt := hk3.lt; have H3 := H2.out.set 3 (.int .i64 (c1.length : Int)); rw [← HS.out] at H3; have H3 := kept H3; have hk6 := H3.out.2.1; have hk4 := H3.out.2.2; clear hk1 H hu3) | (refine wpl_loadB rfl _ _ rfl w.heap.size rfl _ _ hk6 _ rfl rfl rfl ?_) | (refine wpl_storeB rfl _ _ _ rfl (w.heap.size + 1) _ rfl rfl _ _ hk4 rfl rfl rfl ?_; intro w5 hk5 hu5; have H5 := kept (H3.out.res hk5 hu5)))
    rw [← HS.out]
    exact bodyPost_ret (res_cell_tmp rfl _ (w.heap.size + 1) _ _ _ rfl H5.out.2.2 rfl rfl rfl) rfl ⟨rfl, H5.out.1⟩
set_option maxRecDepth 100000 in
theorem rsync_any (d : DS) (f : Int) (w : World) (h : d.Ok) : Calls Tryd.prog 67 #[rV d, .int .i64 f] w (RGives w (.tuple #[rV (d.syncM f).1, .int .i64 ((d.syncM f).2 : Int)])) := by
  by_cases h0 : f = 0
  · subst h0; exact rsync_0 d w h
  · by_cases h1 : f = 1
    · subst h1; exact rsync_1 d w h
    · have hi : isF f = false := by simp [isF, h0, h1]
      have he : d.syncM f = (d, 1) := by unfold DS.syncM; rw [hi]; rfl
      rw [he]
      exact rsync_no d f w hi
end Go.Proofs.YtdlghabpnpbebaaDoor.Disk

/- Layer 22 (disk): the walks of the document's Cut. Printed by gendrd.py. -/
namespace Go.Proofs.YtdlghabpnpbebaaDoor.Disk
open Go.RowKit Go.Proofs.YtdlghabpnpbebaaDoor.Mem

set_option maxRecDepth 100000 in
theorem strB_cut (l : List Nat) (n : Nat) : (strB l).extract 0 n = strB (l.take n) := by
  apply ByteArray.ext
  simp [strB, ByteArray.data_extract]
set_option maxRecDepth 100000 in
theorem rcut_no (d : DS) (f n : Int) (w : World) (hi : ¬ (isF f = true ∧ 0 ≤ n ∧ n ≤ (d.b f).length)) : Calls Tryd.prog 44 #[rV d, .int .i64 f, .int .i64 n] w (RGives w (.tuple #[rV d, .int .i64 1])) := by
  obtain ⟨b0, s0, b1, s1, room, fuse, down⟩ := d
  have H := kept (Rn.start w (rL ⟨b0, s0, b1, s1, room, fuse, down⟩) (rL ⟨b0, s0, b1, s1, room, fuse, down⟩))
  show Calls Tryd.prog 44 #[.agg #[.string (strB b0), .string (strB b1), .int .i64 (s0 : Int), .int .i64 (s1 : Int), .int .i64 (room : Int), .int .i64 fuse, .bool down], .int .i64 f, .int .i64 n] w _
  have hs0 := strB_size b0
  have hs1 := strB_size b1
  by_cases hf0 : f < 0
  · clear hi hs0 hs1
    go_enter Tryd.func44, Tryd.ntmps44
    go_wp2
    exact bodyPost_ret (res_cell_tmp rfl _ (w.heap.size + 1) _ (rL ⟨b0, s0, b1, s1, room, fuse, down⟩) _ rfl H.out.2.2 rfl rfl rfl) rfl ⟨rfl, H.out.1⟩
  by_cases hf1 : 1 < f
  · clear hi hs0 hs1
    go_enter Tryd.func44, Tryd.ntmps44
    go_wp2
    exact bodyPost_ret (res_cell_tmp rfl _ (w.heap.size + 1) _ (rL ⟨b0, s0, b1, s1, room, fuse, down⟩) _ rfl H.out.2.2 rfl rfl rfl) rfl ⟨rfl, H.out.1⟩
  by_cases hn : n < 0
  · clear hi hs0 hs1
    go_enter Tryd.func44, Tryd.ntmps44
    go_wp2
    exact bodyPost_ret (res_cell_tmp rfl _ (w.heap.size + 1) _ (rL ⟨b0, s0, b1, s1, room, fuse, down⟩) _ rfl H.out.2.2 rfl rfl rfl) rfl ⟨rfl, H.out.1⟩
  have hf2 : f = 0 ∨ f = 1 := by omega
  rcases hf2 with rfl | rfl
  · have hlt : (b0.length : Int) < n := by
      have h2 : ¬ n ≤ (b0.length : Int) := fun e => hi ⟨rfl, by omega, e⟩
      omega
    rw [← hs0] at hlt
    clear hi hs0 hs1
    go_enter Tryd.func44, Tryd.ntmps44
    go_wp2
    exact bodyPost_ret (res_cell_tmp rfl _ (w.heap.size + 1) _ (rL ⟨b0, s0, b1, s1, room, fuse, down⟩) _ rfl H.out.2.2 rfl rfl rfl) rfl ⟨rfl, H.out.1⟩
  · have hlt : (b1.length : Int) < n := by
      have h2 : ¬ n ≤ (b1.length : Int) := fun e => hi ⟨rfl, by omega, e⟩
      omega
    rw [← hs1] at hlt
    clear hi hs0 hs1
    go_enter Tryd.func44, Tryd.ntmps44
    go_wp2
    exact bodyPost_ret (res_cell_tmp rfl _ (w.heap.size + 1) _ (rL ⟨b0, s0, b1, s1, room, fuse, down⟩) _ rfl H.out.2.2 rfl rfl rfl) rfl ⟨rfl, H.out.1⟩
set_option maxRecDepth 100000 in
set_option maxHeartbeats 400000 in
set_option maxRecDepth 100000 in
theorem rcut_0 (d : DS) (n : Nat) (w : World) (h : d.Ok) (hn : n ≤ (d.b 0).length) : Calls Tryd.prog 44 #[rV d, .int .i64 0, .int .i64 (n : Int)] w (RGives w (.tuple #[rV (d.cutM 0 n).1, .int .i64 ((d.cutM 0 n).2 : Int)])) := by
  have C := kept (fun W => rburn_ds d W h)
  have H := kept (Rn.start w (rL d) rZ)
  have hu5 := h.2.2.2.2.1
  unfold DS.used at hu5
  unfold DS.cutM
  rw [if_pos ⟨show isF 0 = true from rfl, by omega, by omega⟩]
  have hD0 := (burn_b d).1
  have hD1 := (burn_b d).2.1
  generalize d.burn = D at *
  obtain ⟨b0, s0, b1, s1, room, fuse, down⟩ := d
  obtain ⟨c0, t0, c1, t1, roon, fuze, dn⟩ := D
  obtain rfl : b0 = c0 := hD0.symm
  obtain rfl : b1 = c1 := hD1.symm
  clear hD0 hD1 h
  replace hn : n ≤ b0.length := hn
  rw [← strB_size] at hn
  replace hu5 : b0.length + b1.length ≤ 1048576 := hu5
  have hmx : n ≤ 9223372036854775807 := by rw [strB_size] at hn; omega
  have hsx : (strB b0).size ≤ 9223372036854775807 := by rw [strB_size]; omega
  clear hu5
  have HC := kept (strB_cut b0 n)
  show Calls Tryd.prog 44 #[.agg #[.string (strB b0), .string (strB b1), .int .i64 (s0 : Int), .int .i64 (s1 : Int), .int .i64 (room : Int), .int .i64 fuse, .bool down], .int .i64 0, .int .i64 (n : Int)] w _
  cases dn with
  | true =>
    simp only [if_true]
    go_enter Tryd.func44, Tryd.ntmps44
    go_wp2_with fail
    refine (C.out _).mono ?_
    rintro e w1 ⟨rfl, hb⟩
    replace H := kept (H.out.next hb)
    clear hb C
    have hk1 := H.out.2.1
    go_wp2_with (first | (refine wpl_storeB rfl _ _ _ rfl w.heap.size (rL ⟨b0, t0, b1, t1, roon, fuze, true⟩) rfl rfl _ _ hk1 rfl rfl rfl ?_; intro w2 hk3 hu3; have H2 := kept (H.out.par hk3 hu3); have hk4 := H2.out.2.2; clear hk1 H hu3) | (refine wpl_loadB rfl _ _ rfl w.heap.size rfl _ _ hk3 _ rfl rfl rfl ?_) | (refine wpl_storeB rfl _ _ _ rfl (w.heap.size + 1) (rL ⟨b0, t0, b1, t1, roon, fuze, true⟩) rfl rfl _ _ hk4 rfl rfl rfl ?_; intro w5 hk5 hu5; have H5 := kept (H2.out.res hk5 hu5)))
    exact bodyPost_ret (res_cell_tmp rfl _ (w.heap.size + 1) _ (rL ⟨b0, t0, b1, t1, roon, fuze, true⟩) _ rfl H5.out.2.2 rfl rfl rfl) rfl ⟨rfl, H5.out.1⟩
  | false =>
    simp only [Bool.false_eq_true, if_false]
    have hbf : (⟨b0, t0, b1, t1, roon, fuze, false⟩ : DS).put 0 (((⟨b0, t0, b1, t1, roon, fuze, false⟩ : DS).b 0).take (n : Int).toNat) (n : Int).toNat = ⟨b0.take n, n, b1, t1, roon, fuze, false⟩ := rfl
    rw [hbf]
    clear hbf
    go_enter Tryd.func44, Tryd.ntmps44
    go_wp2_with fail
    refine (C.out _).mono ?_
    rintro e w1 ⟨rfl, hb⟩
    replace H := kept (H.out.next hb)
    clear hb C
    have hk1 := H.out.2.1
    go_wp2_with (first | (refine wpl_storeB rfl _ _ _ rfl w.heap.size (rL ⟨b0, t0, b1, t1, roon, fuze, false⟩) rfl rfl _ _ hk1 rfl rfl rfl ?_; intro w2 hk3 hu3; have H2 := kept (H.out.par hk3 hu3); have z0 : w2.cell? ⟨w.heap.size, 0, none⟩ = some (.string (strB b0)) := hk3.cell rfl; have z1 : w2.cell? ⟨w.heap.size, 2, none⟩ = some (.int .i64 t0) := hk3.cell rfl; have z2 := hk3.frozen 0; have z3 := hk3.frozen 2; have hlt := hk3.lt; have H3 := kept ((H2.out.set 0 (.string ((strB b0).extract 0 n))).set 2 (.int .i64 (n : Int))); have hk6 := H3.out.2.1; have hk4 := H3.out.2.2; clear hk1 H hu3) | (refine wpl_loadB rfl _ _ rfl w.heap.size rfl _ _ hk6 _ rfl rfl rfl ?_) | (refine wpl_storeB rfl _ _ _ rfl (w.heap.size + 1) _ rfl rfl _ _ hk4 rfl rfl rfl ?_; intro w5 hk5 hu5; have H5 := kept (H3.out.res hk5 hu5)))
    have HR : Value.agg (((rL ⟨b0, t0, b1, t1, roon, fuze, false⟩).set 0 (.string ((strB b0).extract 0 n))).set 2 (.int .i64 (n : Int))).toArray = rV ⟨b0.take n, n, b1, t1, roon, fuze, false⟩ := by rw [HC.out]; rfl
    rw [← HR]
    exact bodyPost_ret (res_cell_tmp rfl _ (w.heap.size + 1) _ _ _ rfl H5.out.2.2 rfl rfl rfl) rfl ⟨rfl, H5.out.1⟩
set_option maxRecDepth 100000 in
set_option maxHeartbeats 400000 in
set_option maxRecDepth 100000 in
theorem rcut_1 (d : DS) (n : Nat) (w : World) (h : d.Ok) (hn : n ≤ (d.b 1).length) : Calls Tryd.prog 44 #[rV d, .int .i64 1, .int .i64 (n : Int)] w (RGives w (.tuple #[rV (d.cutM 1 n).1, .int .i64 ((d.cutM 1 n).2 : Int)])) := by
  have C := kept (fun W => rburn_ds d W h)
  have H := kept (Rn.start w (rL d) rZ)
  have hu5 := h.2.2.2.2.1
  unfold DS.used at hu5
  unfold DS.cutM
  rw [if_pos ⟨show isF 1 = true from rfl, by omega, by omega⟩]
  have hD0 := (burn_b d).1
  have hD1 := (burn_b d).2.1
  generalize d.burn = D at *
  obtain ⟨b0, s0, b1, s1, room, fuse, down⟩ := d
  obtain ⟨c0, t0, c1, t1, roon, fuze, dn⟩ := D
  obtain rfl : b0 = c0 := hD0.symm
  obtain rfl : b1 = c1 := hD1.symm
  clear hD0 hD1 h
  replace hn : n ≤ b1.length := hn
  rw [← strB_size] at hn
  replace hu5 : b0.length + b1.length ≤ 1048576 := hu5
  have hmx : n ≤ 9223372036854775807 := by rw [strB_size] at hn; omega
  have hsx : (strB b1).size ≤ 9223372036854775807 := by rw [strB_size]; omega
  clear hu5
  have HC := kept (strB_cut b1 n)
  show Calls Tryd.prog 44 #[.agg #[.string (strB b0), .string (strB b1), .int .i64 (s0 : Int), .int .i64 (s1 : Int), .int .i64 (room : Int), .int .i64 fuse, .bool down], .int .i64 1, .int .i64 (n : Int)] w _
  cases dn with
  | true =>
    simp only [if_true]
    go_enter Tryd.func44, Tryd.ntmps44
    go_wp2_with fail
    refine (C.out _).mono ?_
    rintro e w1 ⟨rfl, hb⟩
    replace H := kept (H.out.next hb)
    clear hb C
    have hk1 := H.out.2.1
    go_wp2_with (first | (refine wpl_storeB rfl _ _ _ rfl w.heap.size (rL ⟨b0, t0, b1, t1, roon, fuze, true⟩) rfl rfl _ _ hk1 rfl rfl rfl ?_; intro w2 hk3 hu3; have H2 := kept (H.out.par hk3 hu3); have hk4 := H2.out.2.2; clear hk1 H hu3) | (refine wpl_loadB rfl _ _ rfl w.heap.size rfl _ _ hk3 _ rfl rfl rfl ?_) | (refine wpl_storeB rfl _ _ _ rfl (w.heap.size + 1) (rL ⟨b0, t0, b1, t1, roon, fuze, true⟩) rfl rfl _ _ hk4 rfl rfl rfl ?_; intro w5 hk5 hu5; have H5 := kept (H2.out.res hk5 hu5)))
    exact bodyPost_ret (res_cell_tmp rfl _ (w.heap.size + 1) _ (rL ⟨b0, t0, b1, t1, roon, fuze, true⟩) _ rfl H5.out.2.2 rfl rfl rfl) rfl ⟨rfl, H5.out.1⟩
  | false =>
    simp only [Bool.false_eq_true, if_false]
    have hbf : (⟨b0, t0, b1, t1, roon, fuze, false⟩ : DS).put 1 (((⟨b0, t0, b1, t1, roon, fuze, false⟩ : DS).b 1).take (n : Int).toNat) (n : Int).toNat = ⟨b0, t0, b1.take n, n, roon, fuze, false⟩ := rfl
    rw [hbf]
    clear hbf
    go_enter Tryd.func44, Tryd.ntmps44
    go_wp2_with fail
    refine (C.out _).mono ?_
    rintro e w1 ⟨rfl, hb⟩
    replace H := kept (H.out.next hb)
    clear hb C
    have hk1 := H.out.2.1
    go_wp2_with (first | (refine wpl_storeB rfl _ _ _ rfl w.heap.size (rL ⟨b0, t0, b1, t1, roon, fuze, false⟩) rfl rfl _ _ hk1 rfl rfl rfl ?_; intro w2 hk3 hu3; have H2 := kept (H.out.par hk3 hu3); have z0 : w2.cell? ⟨w.heap.size, 1, none⟩ = some (.string (strB b1)) := hk3.cell rfl; have z1 : w2.cell? ⟨w.heap.size, 3, none⟩ = some (.int .i64 t1) := hk3.cell rfl; have z2 := hk3.frozen 1; have z3 := hk3.frozen 3; have hlt := hk3.lt; have H3 := kept ((H2.out.set 1 (.string ((strB b1).extract 0 n))).set 3 (.int .i64 (n : Int))); have hk6 := H3.out.2.1; have hk4 := H3.out.2.2; clear hk1 H hu3) | (refine wpl_loadB rfl _ _ rfl w.heap.size rfl _ _ hk6 _ rfl rfl rfl ?_) | (refine wpl_storeB rfl _ _ _ rfl (w.heap.size + 1) _ rfl rfl _ _ hk4 rfl rfl rfl ?_; intro w5 hk5 hu5; have H5 := kept (H3.out.res hk5 hu5)))
    have HR : Value.agg (((rL ⟨b0, t0, b1, t1, roon, fuze, false⟩).set 1 (.string ((strB b1).extract 0 n))).set 3 (.int .i64 (n : Int))).toArray = rV ⟨b0, t0, b1.take n, n, roon, fuze, false⟩ := by rw [HC.out]; rfl
    rw [← HR]
    exact bodyPost_ret (res_cell_tmp rfl _ (w.heap.size + 1) _ _ _ rfl H5.out.2.2 rfl rfl rfl) rfl ⟨rfl, H5.out.1⟩
set_option maxRecDepth 100000 in
theorem rcut_any (d : DS) (f n : Int) (w : World) (h : d.Ok) : Calls Tryd.prog 44 #[rV d, .int .i64 f, .int .i64 n] w (RGives w (.tuple #[rV (d.cutM f n).1, .int .i64 ((d.cutM f n).2 : Int)])) := by
  by_cases hc : isF f = true ∧ 0 ≤ n ∧ n ≤ (d.b f).length
  · obtain ⟨h1, h2, h3⟩ := hc
    obtain ⟨m, rfl⟩ : ∃ m : Nat, (m : Int) = n := ⟨n.toNat, by omega⟩
    have hf : f = 0 ∨ f = 1 := by simpa [isF] using h1
    rcases hf with rfl | rfl
    · exact rcut_0 d m w h (by omega)
    · exact rcut_1 d m w h (by omega)
  · have he : d.cutM f n = (d, 1) := by unfold DS.cutM; rw [if_neg hc]
    rw [he]
    exact rcut_no d f n w hc
end Go.Proofs.YtdlghabpnpbebaaDoor.Disk

/- Layer 22 (disk): the walk of the document's Append. Printed by gendre.py. -/
namespace Go.Proofs.YtdlghabpnpbebaaDoor.Disk
open Go.RowKit Go.Proofs.YtdlghabpnpbebaaDoor.Mem

set_option maxRecDepth 100000 in
theorem strB_app (a b : List Nat) : strB a ++ strB b = strB (a ++ b) := by
  apply ByteArray.ext
  simp [strB]
set_option maxRecDepth 100000 in
theorem rapp_no (d : DS) (f : Int) (X : Option Addr) (m c : Nat) (w : World) (hf : isF f = false) : Calls Tryd.prog 66 #[rV d, .int .i64 f, .slice X m c] w (RGives w (.tuple #[rV d, .int .i64 1])) := by
  obtain ⟨b0, s0, b1, s1, room, fuse, down⟩ := d
  have H := kept (Rn.start w (rL ⟨b0, s0, b1, s1, room, fuse, down⟩) (rL ⟨b0, s0, b1, s1, room, fuse, down⟩))
  show Calls Tryd.prog 66 #[.agg #[.string (strB b0), .string (strB b1), .int .i64 (s0 : Int), .int .i64 (s1 : Int), .int .i64 (room : Int), .int .i64 fuse, .bool down], .int .i64 f, .slice X m c] w _
  have hne : f < 0 ∨ 1 < f := by simp [isF] at hf; omega
  clear hf
  rcases hne with hne | hne
  · go_enter Tryd.func66, Tryd.ntmps66
    go_wp2
    exact bodyPost_ret (res_cell_tmp rfl _ (w.heap.size + 1) _ (rL ⟨b0, s0, b1, s1, room, fuse, down⟩) _ rfl H.out.2.2 rfl rfl rfl) rfl ⟨rfl, H.out.1⟩
  · have hne2 : ¬ f < 0 := by omega
    go_enter Tryd.func66, Tryd.ntmps66
    go_wp2
    exact bodyPost_ret (res_cell_tmp rfl _ (w.heap.size + 1) _ (rL ⟨b0, s0, b1, s1, room, fuse, down⟩) _ rfl H.out.2.2 rfl rfl rfl) rfl ⟨rfl, H.out.1⟩
set_option maxRecDepth 100000 in
set_option maxHeartbeats 400000 in
set_option maxRecDepth 100000 in
theorem rapp_0 (d : DS) (X : Option Addr) (c : Nat) (l : List Nat) (w : World) (h : d.Ok) (hr : Rd w w.heap.size X (BB l)) (hsz : l.length ≤ 140737488355000) : Calls Tryd.prog 66 #[rV d, .int .i64 0, .slice X l.length c] w (RGives w (.tuple #[rV (d.appM 0 l).1, .int .i64 ((d.appM 0 l).2 : Int)])) := by
  have C := kept (fun W => rburn_ds d W h)
  have H := kept (Rn.start w (rL d) rZ)
  have HR := kept (fun W (hb : Below w.heap.size w W) => run_str W _ X l.length c l rfl (hr.next hb))
  have hu5 := h.2.2.2.2.1
  unfold DS.used at hu5
  unfold DS.appM
  rw [if_pos (show isF 0 = true from rfl)]
  have hD0 := (burn_b d).1
  have hD1 := (burn_b d).2.1
  clear h hr
  generalize d.burn = D at *
  obtain ⟨b0, s0, b1, s1, room, fuse, down⟩ := d
  obtain ⟨c0, t0, c1, t1, roon, fuze, dn⟩ := D
  obtain rfl : b0 = c0 := hD0.symm
  obtain rfl : b1 = c1 := hD1.symm
  clear hD0 hD1
  replace hu5 : b0.length + b1.length ≤ 1048576 := hu5
  have hu6 := hu5
  rw [← strB_size, ← strB_size b1] at hu6
  have rsa : ∀ W, (Op.stringOp .add (strB b0) (strB l)).run Tryd.prog W = .ok (.string (strB (b0 ++ l))) W := fun W => by
    rw [run_string_add_sum _ (strB b0) (strB l) (by rw [strB_size, strB_size]; omega), strB_app]
  show Calls Tryd.prog 66 #[.agg #[.string (strB b0), .string (strB b1), .int .i64 (s0 : Int), .int .i64 (s1 : Int), .int .i64 (room : Int), .int .i64 fuse, .bool down], .int .i64 0, .slice X l.length c] w _
  cases dn with
  | true =>
    simp only [if_true]
    generalize l.length = m at *
    clear hu5 hu6 rsa
    go_enter Tryd.func66, Tryd.ntmps66
    go_wp2_with fail
    refine (C.out _).mono ?_
    rintro e w1 ⟨rfl, hb⟩
    replace H := kept (H.out.next hb)
    clear hb C
    have hk1 := H.out.2.1
    go_wp2_with (first | (refine wpl_storeB rfl _ _ _ rfl w.heap.size (rL ⟨b0, t0, b1, t1, roon, fuze, true⟩) rfl rfl _ _ hk1 rfl rfl rfl ?_; intro w2 hk3 hu3; have H2 := kept (H.out.par hk3 hu3); have hk4 := H2.out.2.2; clear hk1 H hu3) | (refine wpl_loadB rfl _ _ rfl w.heap.size rfl _ _ hk3 _ rfl rfl rfl ?_) | (refine wpl_storeB rfl _ _ _ rfl (w.heap.size + 1) (rL ⟨b0, t0, b1, t1, roon, fuze, true⟩) rfl rfl _ _ hk4 rfl rfl rfl ?_; intro w5 hk5 hu5; have H5 := kept (H2.out.res hk5 hu5)))
    exact bodyPost_ret (res_cell_tmp rfl _ (w.heap.size + 1) _ (rL ⟨b0, t0, b1, t1, roon, fuze, true⟩) _ rfl H5.out.2.2 rfl rfl rfl) rfl ⟨rfl, H5.out.1⟩
  | false =>
    simp only [Bool.false_eq_true, if_false]
    have hus : (⟨b0, t0, b1, t1, roon, fuze, false⟩ : DS).used = b0.length + b1.length := rfl
    rw [hus]
    clear hus
    by_cases hfull : roon < b0.length + b1.length + l.length
    · rw [if_pos hfull]
      rw [← strB_size, ← strB_size b1] at hfull
      clear hu5
      clear rsa
      generalize l.length = m at *
      go_enter Tryd.func66, Tryd.ntmps66
      go_wp2_with fail
      refine (C.out _).mono ?_
      rintro e w1 ⟨rfl, hb⟩
      replace H := kept (H.out.next hb)
      clear hb C
      have hk1 := H.out.2.1
      go_wp2_with (first | (refine wpl_storeB rfl _ _ _ rfl w.heap.size (rL ⟨b0, t0, b1, t1, roon, fuze, false⟩) rfl rfl _ _ hk1 rfl rfl rfl ?_; intro w2 hk3 hu3; have H2 := kept (H.out.par hk3 hu3); have z0 : w2.cell? ⟨w.heap.size, 0, none⟩ = some (.string (strB b0)) := hk3.cell rfl; have z1 : w2.cell? ⟨w.heap.size, 1, none⟩ = some (.string (strB b1)) := hk3.cell rfl; have z4 : w2.cell? ⟨w.heap.size, 4, none⟩ = some (.int .i64 (roon : Int)) := hk3.cell rfl; have hk4 := H2.out.2.2; clear hk1 H hu3) | (refine wpl_loadB rfl _ _ rfl w.heap.size rfl _ _ hk3 _ rfl rfl rfl ?_) | (refine wpl_storeB rfl _ _ _ rfl (w.heap.size + 1) _ rfl rfl _ _ hk4 rfl rfl rfl ?_; intro w5 hk5 hu5; have H5 := kept (H2.out.res hk5 hu5)))
      exact bodyPost_ret (res_cell_tmp rfl _ (w.heap.size + 1) _ (rL ⟨b0, t0, b1, t1, roon, fuze, false⟩) _ rfl H5.out.2.2 rfl rfl rfl) rfl ⟨rfl, H5.out.1⟩
    · rw [if_neg hfull]
      rw [← strB_size, ← strB_size b1] at hfull
      clear hu5
      have hbf : (⟨b0, t0, b1, t1, roon, fuze, false⟩ : DS).put 0 ((⟨b0, t0, b1, t1, roon, fuze, false⟩ : DS).b 0 ++ l) ((⟨b0, t0, b1, t1, roon, fuze, false⟩ : DS).s 0) = ⟨b0 ++ l, t0, b1, t1, roon, fuze, false⟩ := rfl
      rw [hbf]
      clear hbf
      go_enter Tryd.func66, Tryd.ntmps66
      go_wp2_with fail
      refine (C.out _).mono ?_
      rintro e w1 ⟨rfl, hb⟩
      replace H := kept (H.out.next hb)
      clear hb C
      have hk1 := H.out.2.1
      go_wp2_with (refine wpl_storeB rfl _ _ _ rfl w.heap.size (rL ⟨b0, t0, b1, t1, roon, fuze, false⟩) rfl rfl _ _ hk1 rfl rfl rfl ?_; intro w2 hk3 hu3; have H2 := kept (H.out.par hk3 hu3); have z0 : w2.cell? ⟨w.heap.size, 0, none⟩ = some (.string (strB b0)) := hk3.cell rfl; have z1 : w2.cell? ⟨w.heap.size, 1, none⟩ = some (.string (strB b1)) := hk3.cell rfl; have z4 : w2.cell? ⟨w.heap.size, 4, none⟩ = some (.int .i64 (roon : Int)) := hk3.cell rfl; have hk4 := H2.out.2.2; have rs := HR.out w2.drew H2.out.drew.1; have zf := hk3.frozen 0; have hlt := hk3.lt; clear hk1 H hu3)
      go_region_law (fail)
      all_goals
        have H3 := kept (H2.out.set 0 (.string (strB (b0 ++ l)))).drew
        have hk6 := H3.out.2.1
        have hk4 := H3.out.2.2
        go_wp2_with (first | (refine wpl_loadB rfl _ _ rfl w.heap.size rfl _ _ hk6 _ rfl rfl rfl ?_) | (refine wpl_storeB rfl _ _ _ rfl (w.heap.size + 1) _ rfl rfl _ _ hk4 rfl rfl rfl ?_; intro w5 hk5 hu5; have H5 := kept (H3.out.res hk5 hu5)))
        exact bodyPost_ret (res_cell_tmp rfl _ (w.heap.size + 1) _ _ _ rfl H5.out.2.2 rfl rfl rfl) rfl ⟨rfl, H5.out.1⟩
set_option maxRecDepth 100000 in
set_option maxHeartbeats 400000 in
set_option maxRecDepth 100000 in
theorem rapp_1 (d : DS) (X : Option Addr) (c : Nat) (l : List Nat) (w : World) (h : d.Ok) (hr : Rd w w.heap.size X (BB l)) (hsz : l.length ≤ 140737488355000) : Calls Tryd.prog 66 #[rV d, .int .i64 1, .slice X l.length c] w (RGives w (.tuple #[rV (d.appM 1 l).1, .int .i64 ((d.appM 1 l).2 : Int)])) := by
  have C := kept (fun W => rburn_ds d W h)
  have H := kept (Rn.start w (rL d) rZ)
  have HR := kept (fun W (hb : Below w.heap.size w W) => run_str W _ X l.length c l rfl (hr.next hb))
  have hu5 := h.2.2.2.2.1
  unfold DS.used at hu5
  unfold DS.appM
  rw [if_pos (show isF 1 = true from rfl)]
  have hD0 := (burn_b d).1
  have hD1 := (burn_b d).2.1
  clear h hr
  generalize d.burn = D at *
  obtain ⟨b0, s0, b1, s1, room, fuse, down⟩ := d
  obtain ⟨c0, t0, c1, t1, roon, fuze, dn⟩ := D
  obtain rfl : b0 = c0 := hD0.symm
  obtain rfl : b1 = c1 := hD1.symm
  clear hD0 hD1
  replace hu5 : b0.length + b1.length ≤ 1048576 := hu5
  have hu6 := hu5
  rw [← strB_size, ← strB_size b1] at hu6
  have rsa : ∀ W, (Op.stringOp .add (strB b1) (strB l)).run Tryd.prog W = .ok (.string (strB (b1 ++ l))) W := fun W => by
    rw [run_string_add_sum _ (strB b1) (strB l) (by rw [strB_size, strB_size]; omega), strB_app]
  show Calls Tryd.prog 66 #[.agg #[.string (strB b0), .string (strB b1), .int .i64 (s0 : Int), .int .i64 (s1 : Int), .int .i64 (room : Int), .int .i64 fuse, .bool down], .int .i64 1, .slice X l.length c] w _
  cases dn with
  | true =>
    simp only [if_true]
    generalize l.length = m at *
    clear hu5 hu6 rsa
    go_enter Tryd.func66, Tryd.ntmps66
    go_wp2_with fail
    refine (C.out _).mono ?_
    rintro e w1 ⟨rfl, hb⟩
    replace H := kept (H.out.next hb)
    clear hb C
    have hk1 := H.out.2.1
    go_wp2_with (first | (refine wpl_storeB rfl _ _ _ rfl w.heap.size (rL ⟨b0, t0, b1, t1, roon, fuze, true⟩) rfl rfl _ _ hk1 rfl rfl rfl ?_; intro w2 hk3 hu3; have H2 := kept (H.out.par hk3 hu3); have hk4 := H2.out.2.2; clear hk1 H hu3) | (refine wpl_loadB rfl _ _ rfl w.heap.size rfl _ _ hk3 _ rfl rfl rfl ?_) | (refine wpl_storeB rfl _ _ _ rfl (w.heap.size + 1) (rL ⟨b0, t0, b1, t1, roon, fuze, true⟩) rfl rfl _ _ hk4 rfl rfl rfl ?_; intro w5 hk5 hu5; have H5 := kept (H2.out.res hk5 hu5)))
    exact bodyPost_ret (res_cell_tmp rfl _ (w.heap.size + 1) _ (rL ⟨b0, t0, b1, t1, roon, fuze, true⟩) _ rfl H5.out.2.2 rfl rfl rfl) rfl ⟨rfl, H5.out.1⟩
  | false =>
    simp only [Bool.false_eq_true, if_false]
    have hus : (⟨b0, t0, b1, t1, roon, fuze, false⟩ : DS).used = b0.length + b1.length := rfl
    rw [hus]
    clear hus
    by_cases hfull : roon < b0.length + b1.length + l.length
    · rw [if_pos hfull]
      rw [← strB_size, ← strB_size b1] at hfull
      clear hu5
      clear rsa
      generalize l.length = m at *
      go_enter Tryd.func66, Tryd.ntmps66
      go_wp2_with fail
      refine (C.out _).mono ?_
      rintro e w1 ⟨rfl, hb⟩
      replace H := kept (H.out.next hb)
      clear hb C
      have hk1 := H.out.2.1
      go_wp2_with (first | (refine wpl_storeB rfl _ _ _ rfl w.heap.size (rL ⟨b0, t0, b1, t1, roon, fuze, false⟩) rfl rfl _ _ hk1 rfl rfl rfl ?_; intro w2 hk3 hu3; have H2 := kept (H.out.par hk3 hu3); have z0 : w2.cell? ⟨w.heap.size, 0, none⟩ = some (.string (strB b0)) := hk3.cell rfl; have z1 : w2.cell? ⟨w.heap.size, 1, none⟩ = some (.string (strB b1)) := hk3.cell rfl; have z4 : w2.cell? ⟨w.heap.size, 4, none⟩ = some (.int .i64 (roon : Int)) := hk3.cell rfl; have hk4 := H2.out.2.2; clear hk1 H hu3) | (refine wpl_loadB rfl _ _ rfl w.heap.size rfl _ _ hk3 _ rfl rfl rfl ?_) | (refine wpl_storeB rfl _ _ _ rfl (w.heap.size + 1) _ rfl rfl _ _ hk4 rfl rfl rfl ?_; intro w5 hk5 hu5; have H5 := kept (H2.out.res hk5 hu5)))
      exact bodyPost_ret (res_cell_tmp rfl _ (w.heap.size + 1) _ (rL ⟨b0, t0, b1, t1, roon, fuze, false⟩) _ rfl H5.out.2.2 rfl rfl rfl) rfl ⟨rfl, H5.out.1⟩
    · rw [if_neg hfull]
      rw [← strB_size, ← strB_size b1] at hfull
      clear hu5
      have hbf : (⟨b0, t0, b1, t1, roon, fuze, false⟩ : DS).put 1 ((⟨b0, t0, b1, t1, roon, fuze, false⟩ : DS).b 1 ++ l) ((⟨b0, t0, b1, t1, roon, fuze, false⟩ : DS).s 1) = ⟨b0, t0, b1 ++ l, t1, roon, fuze, false⟩ := rfl
      rw [hbf]
      clear hbf
      go_enter Tryd.func66, Tryd.ntmps66
      go_wp2_with fail
      refine (C.out _).mono ?_
      rintro e w1 ⟨rfl, hb⟩
      replace H := kept (H.out.next hb)
      clear hb C
      have hk1 := H.out.2.1
      go_wp2_with (refine wpl_storeB rfl _ _ _ rfl w.heap.size (rL ⟨b0, t0, b1, t1, roon, fuze, false⟩) rfl rfl _ _ hk1 rfl rfl rfl ?_; intro w2 hk3 hu3; have H2 := kept (H.out.par hk3 hu3); have z0 : w2.cell? ⟨w.heap.size, 0, none⟩ = some (.string (strB b0)) := hk3.cell rfl; have z1 : w2.cell? ⟨w.heap.size, 1, none⟩ = some (.string (strB b1)) := hk3.cell rfl; have z4 : w2.cell? ⟨w.heap.size, 4, none⟩ = some (.int .i64 (roon : Int)) := hk3.cell rfl; have hk4 := H2.out.2.2; have rs := HR.out w2.drew H2.out.drew.1; have zf := hk3.frozen 1; have hlt := hk3.lt; clear hk1 H hu3)
      go_region_law (fail)
      all_goals
        have H3 := kept (H2.out.set 1 (.string (strB (b1 ++ l)))).drew
        have hk6 := H3.out.2.1
        have hk4 := H3.out.2.2
        go_wp2_with (first | (refine wpl_loadB rfl _ _ rfl w.heap.size rfl _ _ hk6 _ rfl rfl rfl ?_) | (refine wpl_storeB rfl _ _ _ rfl (w.heap.size + 1) _ rfl rfl _ _ hk4 rfl rfl rfl ?_; intro w5 hk5 hu5; have H5 := kept (H3.out.res hk5 hu5)))
        exact bodyPost_ret (res_cell_tmp rfl _ (w.heap.size + 1) _ _ _ rfl H5.out.2.2 rfl rfl rfl) rfl ⟨rfl, H5.out.1⟩
set_option maxRecDepth 100000 in
theorem rapp_any (d : DS) (f : Int) (X : Option Addr) (m c : Nat) (l : List Nat) (w : World) (h : d.Ok) (hm : m = l.length) (hr : Rd w w.heap.size X (BB l)) (hsz : l.length ≤ 140737488355000) : Calls Tryd.prog 66 #[rV d, .int .i64 f, .slice X m c] w (RGives w (.tuple #[rV (d.appM f l).1, .int .i64 ((d.appM f l).2 : Int)])) := by
  subst hm
  by_cases h0 : f = 0
  · subst h0; exact rapp_0 d X c l w h hr hsz
  · by_cases h1 : f = 1
    · subst h1; exact rapp_1 d X c l w h hr hsz
    · have hi : isF f = false := by simp [isF, h0, h1]
      have he : d.appM f l = (d, 1) := by unfold DS.appM; rw [hi]; rfl
      rw [he]
      exact rapp_no d f X _ c w hi
end Go.Proofs.YtdlghabpnpbebaaDoor.Disk

/- Layer 22 (disk): the walk of the document's Crash. Printed by gendrf.py. -/
namespace Go.Proofs.YtdlghabpnpbebaaDoor.Mem
open Go.RowKit
set_option maxRecDepth 100000 in
/-- one cell stored in what is read -/
theorem Rd.put {w : World} {B b o j : Nat} {xs : List Value} {v : Value} (h : Rd w B (some ⟨b, o, none⟩) xs) (hj : j < xs.length) : Rd (w.setCell ⟨b, o + j, none⟩ v) B (some ⟨b, o, none⟩) (xs.set j v) := fun _ => by
  obtain ⟨b', o', he, hb, hc⟩ := h (by intro e; subst e; simp at hj)
  injection he with he
  injection he with h1 h2 h3
  subst h1 h2
  refine ⟨b, o, rfl, hb, fun i u hu => ?_⟩
  by_cases hij : j = i
  · subst hij
    rw [List.getElem?_set_self hj] at hu
    obtain rfl := Option.some.inj hu
    exact World.cell?_setCell_same _ _ _ (hc j xs[j] (List.getElem?_eq_getElem hj))
  · rw [List.getElem?_set_ne hij] at hu
    rw [World.cell?_setCell_other _ _ _ _ (by intro e; injection e with _ e2; omega)]
    exact hc i u hu
set_option maxRecDepth 100000 in
/-- []byte(s) of known bytes: a block of its own that may be written -/
theorem str_cells (w : World) (L : List Nat) (hL : AllB L) : ∃ c w', (convert 9 22 (.string (strB L))).run Tryd.prog w = .ok (.slice (some ⟨w.heap.size, 0, none⟩) L.length c) w' ∧
    Rd w' w'.heap.size (some ⟨w.heap.size, 0, none⟩) (BB L) ∧ Below w.heap.size w w' ∧ w.heap.size < w'.heap.size ∧ ∀ j, j < L.length → w'.frozen? ⟨w.heap.size, j, none⟩ = false := by
  have hz : (strB L).size = L.length := by simp [strB, ByteArray.size]
  have hs := Lib.bytesWorld_size w 5 (strB L)
  have hr := Lib.run_convert_string_bytes (P := Tryd.prog) w 9 22 5 (strB L) Tryd.underlying9 Tryd.underlying22 Tryd.underlying5
  rw [hz] at hr
  obtain ⟨c2, w2, h1, h2, h3, h4⟩ := str_bytes w (strB L)
  rw [hz, hr] at h1
  injection h1 with h5 h6
  rw [sB_strB hL] at h2
  subst h6
  refine ⟨_, _, hr, h2, h3, h4, fun j hj => ?_⟩
  unfold World.frozen?
  rw [Lib.bytesWorld_at_new]
  have : (Lib.bytesCells w 5 (strB L)).size = L.length + (grownCap w (strB L).size 0 5 - L.length) := by
    unfold Lib.bytesCells
    rw [Array.size_append, Array.size_map, Array.size_replicate, hz]
    rw [show (strB L).data.size = L.length from hz]
  simp only [this]
  simp
  omega
end Go.Proofs.YtdlghabpnpbebaaDoor.Mem
namespace Go.Proofs.YtdlghabpnpbebaaDoor.Disk
open Go.RowKit Go.Proofs.YtdlghabpnpbebaaDoor.Mem

set_option maxRecDepth 100000 in
theorem Rn.drewN {w W : World} {L Z : List Value} (h : Rn w W L Z) (q : Nat) : Rn w (W.drewN q) L Z := ⟨⟨h.1.os, h.1.tape, h.1.output, h.1.size, h.1.block⟩, h.2.1, h.2.2⟩
set_option maxRecDepth 100000 in
theorem Rn.off {w W : World} {L Z : List Value} (h : Rn w W L Z) {p : Addr} (hp : w.heap.size + 1 < p.block) (v : Value) : Rn w (W.setCell p v) L Z :=
  ⟨h.1.setCell (p := p) (by omega) v, h.2.1.other (p := p) (by omega) v, h.2.2.other (p := p) (by omega) v⟩
set_option maxRecDepth 100000 in
theorem rcr_0 {w W : World} {d : DS} {keep : Int} {turn : Bool} {R : List Nat} (h : Rn w W (rL (d.cr keep turn 0)) rZ) (he : R = crashB d.b0 d.s0 keep turn) :
    Rn w ((W.setCell ⟨w.heap.size, 0, none⟩ (.string (strB R))).setCell ⟨w.heap.size, 2, none⟩ (.int .i64 (R.length : Int))) (rL (d.cr keep turn 1)) rZ := by
  subst he
  exact (h.set 0 _).set 2 _
set_option maxRecDepth 100000 in
theorem rcr_1 {w W : World} {d : DS} {keep : Int} {turn : Bool} {R : List Nat} (h : Rn w W (rL (d.cr keep turn 1)) rZ) (he : R = crashB d.b1 d.s1 keep turn) :
    Rn w ((W.setCell ⟨w.heap.size, 1, none⟩ (.string (strB R))).setCell ⟨w.heap.size, 3, none⟩ (.int .i64 (R.length : Int))) (rL (d.cr keep turn 2)) rZ := by
  subst he
  exact (h.set 1 _).set 3 _
set_option maxRecDepth 100000 in
set_option maxHeartbeats 4000000 in
theorem rcrash_any (d : DS) (keep : Int) (turn : Bool) (w : World) (h : d.Ok) (hkp : -9223372036854775808 ≤ keep ∧ keep ≤ 9223372036854775807) :
    Calls Tryd.prog 29 #[rV d, .int .i64 keep, .bool turn] w (RGives w (rV (d.crashM keep turn))) := by
  have HI : Kept (Rn w ((w.alloc (.cells (rL (d.cr keep turn 0)).toArray 55)).alloc (.cells rZ.toArray 55)) (rL (d.cr keep turn 0)) rZ) := ⟨Rn.start w _ _⟩
  obtain ⟨ha0, ha1, hs0, hs1, hus, -, -, -⟩ := h
  unfold DS.used at hus
  show Calls Tryd.prog 29 #[.agg #[.string (strB d.b0), .string (strB d.b1), .int .i64 (d.s0 : Int), .int .i64 (d.s1 : Int), .int .i64 (d.room : Int), .int .i64 d.fuse, .bool d.down], .int .i64 keep, .bool turn] w _
  have HA0 := kept ha0
  have HA1 := kept ha1
  clear ha0 ha1
  go_enter Tryd.func29, Tryd.ntmps29
  go_wp2
  go_loopw [7] (fun i wr => ∃ j : Nat, j ≤ 2 ∧ i = .int .i64 (j : Int) ∧ Kept (Rn w wr (rL (d.cr keep turn j)) rZ)) (fun i _ => 2 - (intOf i).toNat)
  case atStart => exact ⟨0, by omega, rfl, HI⟩
  case round =>
    obtain ⟨j, hj, rfl, hin⟩ := hrel
    have hj3 : j = 0 ∨ j = 1 ∨ j = 2 := by omega
    clear HI
    rcases hj3 with rfl | rfl | rfl
    · have hkl := keepN_le d.b0 hs0 keep
      have z0 : wr.cell? ⟨w.heap.size, 0, none⟩ = some (.string (strB d.b0)) := hin.out.cell rfl
      have z1 : wr.cell? ⟨w.heap.size, 2, none⟩ = some (.int .i64 (d.s0 : Int)) := hin.out.cell rfl
      have y0 : wr.frozen? ⟨w.heap.size, 0, none⟩ = false := hin.out.2.1.frozen 0
      have y1 : wr.frozen? ⟨w.heap.size, 2, none⟩ = false := hin.out.2.1.frozen 2
      have hlt : w.heap.size < wr.heap.size := hin.out.2.1.lt
      have hsz : (d.s0 : Int) ≤ ((strB d.b0).size : Int) := by rw [strB_size]; omega
      have hsm : ((strB d.b0).size : Int) ≤ 1048576 := by rw [strB_size]; omega
      have hK : Kept (((keepN d.b0 d.s0 keep : Nat) : Int) = if keep < ((strB d.b0).size : Int) - (d.s0 : Int) then (if keep < 0 then 0 else keep) else ((strB d.b0).size : Int) - (d.s0 : Int)) := ⟨by rw [strB_size]; unfold keepN; split <;> (try split) <;> omega⟩
      have HCR : Kept (turnL (turn && decide (0 < keepN d.b0 d.s0 keep)) (d.b0.take (d.s0 + keepN d.b0 d.s0 keep)) = crashB d.b0 d.s0 keep turn) := ⟨rfl⟩
      generalize keepN d.b0 d.s0 keep = k at *
      have hL : (d.b0.take (d.s0 + k)).length = d.s0 + k := by rw [List.length_take]; omega
      have hsk : d.s0 + k ≤ (strB d.b0).size := by rw [strB_size]; omega
      have HCT := kept (strB_cut d.b0 (d.s0 + k))
      have HAL := kept (take_all HA0.out (d.s0 + k))
      generalize d.b0.take (d.s0 + k) = L at *
      go_upto_region 4 with (fail)
      go_quiet (fail)
      go_upto_if 26 with (fail)
      go_cut [8] (fun p wx => ∃ x : Int, p = .int .i64 x ∧ Kept ((k : Int) = if x < 0 then 0 else x) ∧ -9223372036854775808 ≤ x ∧ x ≤ 9223372036854775807 ∧ ∃ q, wx = wr.drewN q)
      case first =>
        by_cases hc : keep < ((strB d.b0).size : Int) - (d.s0 : Int)
        · have hk2 : Kept ((k : Int) = if keep < 0 then 0 else keep) := ⟨by have := hK.out; rw [if_pos hc] at this; exact this⟩
          go_wp2
          go_meet
          exact ⟨_, rfl, hk2, by omega, by omega, _, rfl⟩
        · have hk2 : Kept ((k : Int) = if ((strB d.b0).size : Int) - (d.s0 : Int) < 0 then 0 else ((strB d.b0).size : Int) - (d.s0 : Int)) := ⟨by have := hK.out; rw [if_neg hc] at this; rw [if_neg (by omega)]; exact this⟩
          go_wp2
          go_meet
          exact ⟨_, rfl, hk2, by omega, by omega, _, rfl⟩
      clear hK
      obtain ⟨x, rfl, hK, hx1, hx2, q, rfl⟩ := hcut
      go_upto_if 29 with (fail)
      go_cut [8] (fun p wx => p = .int .i64 (k : Int) ∧ wx = wr.drewN q)
      case first =>
        by_cases hc : x < 0
        · have hk2 : Kept ((k : Int) = 0) := ⟨by have := hK.out; rw [if_pos hc] at this; exact this⟩
          go_wp2
          go_meet
          exact ⟨by rw [hk2.out], rfl⟩
        · have hk2 : Kept ((k : Int) = x) := ⟨by have := hK.out; rw [if_neg hc] at this; exact this⟩
          go_wp2
          go_meet
          exact ⟨by rw [hk2.out], rfl⟩
      obtain ⟨rfl, rfl⟩ := hcut
      replace hin : Kept (Rn w (wr.drewN q) (rL (d.cr keep turn 0)) rZ) := ⟨hin.out.drewN q⟩
      clear hK hx1 hx2 x z0 z1 y0 y1 hlt
      generalize wr.drewN q = wq at *
      have z0 : wq.cell? ⟨w.heap.size, 0, none⟩ = some (.string (strB d.b0)) := hin.out.cell rfl
      have z1 : wq.cell? ⟨w.heap.size, 2, none⟩ = some (.int .i64 (d.s0 : Int)) := hin.out.cell rfl
      have hlt : w.heap.size < wq.heap.size := hin.out.2.1.lt
      have hct := HCT.out
      have hnn : ((d.s0 : Int) + (k : Int)).toNat = d.s0 + k := by omega
      obtain ⟨c2, w2, hrun, hr2, hb2, hl2, hf2⟩ := str_cells wq.drew L HAL.out
      replace hrun : (convert 9 22 (.string (strB L))).run Tryd.prog wq.drew = .ok (.slice (some ⟨wq.heap.size, 0, none⟩) L.length c2) w2 := hrun
      have HB2 := kept hb2
      have HR2 : Kept (Rd w2 w2.heap.size (some ⟨wq.heap.size, 0, none⟩) (BB L)) := ⟨hr2⟩
      have HF2 : Kept (∀ j, j < L.length → w2.frozen? ⟨wq.heap.size, j, none⟩ = false) := ⟨hf2⟩
      have hin2 := kept (hin.out.drew.next hb2)
      clear hb2 hr2 hf2
      have hw0 : (0 : Int) ≤ (d.s0 : Int) + (k : Int) := by omega
      have hw1 : (d.s0 : Int) + (k : Int) ≤ ((strB d.b0).size : Int) := by omega
      have hw2 : IntKind.i64.wrap ((d.s0 : Int) + (k : Int)) = (d.s0 : Int) + (k : Int) := IntWalk.i64_in _ (by omega)
      have hLm : L.length ≤ 1048576 := by rw [strB_size] at hsm; omega
      have HL := kept hL
      clear hL
      go_upto_region 9 with (fail)
      go_region_law (fail)
      all_goals
        have g0 : w2.cell? ⟨w.heap.size, 0, none⟩ = some (.string (strB d.b0)) := hin2.out.cell rfl
        have g1 : w2.cell? ⟨w.heap.size, 2, none⟩ = some (.int .i64 (d.s0 : Int)) := hin2.out.cell rfl
        have e0 := hin2.out.2.1.frozen 0
        have e1 := hin2.out.2.1.frozen 2
        have hl3 : w.heap.size < w2.heap.size := hin2.out.2.1.lt
        clear hct hw0 hw1 hw2 hnn hrun z0 z1
        cases hcb : (turn && decide (0 < k)) with
        | false =>
          rw [hcb] at HCR
          have HF := kept (rcr_0 hin2.out (R := L) HCR.out)
          have rs := run_str w2 _ _ L.length c2 L rfl HR2.out
          have hk0 : turn = true → k = 0 := fun h => by rw [h] at hcb; simpa using hcb
          cases turn with
          | false =>
            clear hcb hk0
            go_wp2
            all_goals
              go_roundw
              case rel => exact ⟨1, by omega, rfl, HF⟩
              case measure => simp [intOf]
          | true =>
            obtain rfl := hk0 rfl
            clear hcb hk0
            go_wp2
            all_goals
              go_roundw
              case rel => exact ⟨1, by omega, rfl, HF⟩
              case measure => simp [intOf]
        | true =>
          rw [hcb] at HCR
          have ht : turn = true := by cases turn <;> simp_all
          subst ht
          have hk0 : 0 < k := by simpa using hcb
          have hpos : 1 ≤ L.length := by have := HL.out; omega
          have hix : ((L.length : Int) - 1).toNat = L.length - 1 := by omega
          have hcell : w2.cell? ⟨wq.heap.size, L.length - 1, none⟩ = some (.int .u8 (L.getD (L.length - 1) 0 : Int)) := by
            obtain ⟨b', o', he, _, hc⟩ := HR2.out.at_ (BB_get L (L.length - 1) (by omega))
            injection he with he
            injection he with h1 h2 h3
            subst h1 h2
            rw [Nat.zero_add] at hc
            exact hc
          have hfz := HF2.out (L.length - 1) (by omega)
          have hxb : L.getD (L.length - 1) 0 < 256 := getD_lt8 HAL.out (by omega)
          have hxr : bits .xor .u8 ((L.getD (L.length - 1) 0 : Nat) : Int) 1 = ((L.getD (L.length - 1) 0 ^^^ 1 : Nat) : Int) := u8_xor_nat _ 1 hxb (by decide)
          have s1 := HR2.out.put (v := .int .u8 ((L.getD (L.length - 1) 0 ^^^ 1 : Nat) : Int)) (j := L.length - 1) (by rw [BB_length]; omega)
          have hbs : (BB L).set (L.length - 1) (.int .u8 ((L.getD (L.length - 1) 0 ^^^ 1 : Nat) : Int)) = BB (L.set (L.length - 1) (L.getD (L.length - 1) 0 ^^^ 1)) := by unfold BB; rw [List.map_set]
          rw [hbs, Nat.zero_add] at s1
          have rs := run_str _ _ _ L.length c2 _ (by rw [List.length_set]) s1
          have hin3 := hin2.out.off (p := ⟨wq.heap.size, L.length - 1, none⟩) hin.out.2.2.lt (.int .u8 ((L.getD (L.length - 1) 0 ^^^ 1 : Nat) : Int))
          have hF := rcr_0 hin3 (R := L.set (L.length - 1) (L.getD (L.length - 1) 0 ^^^ 1)) HCR.out
          rw [List.length_set] at hF
          have HF := kept hF
          have hgg : w.heap.size ≠ wq.heap.size := by omega
          have hwl : wq.heap.size < w2.heap.size := hl2
          clear hcb s1 hbs hF hin3 hin2 HCR HR2 HF2 HAL HL hin
          generalize L.set (L.length - 1) (L.getD (L.length - 1) 0 ^^^ 1) = R at *
          generalize L.getD (L.length - 1) 0 ^^^ 1 = y at *
          generalize L.getD (L.length - 1) 0 = x at *
          go_wp2
          go_roundw
          case rel => exact ⟨1, by omega, rfl, HF⟩
          case measure => simp [intOf]
    · have hkl := keepN_le d.b1 hs1 keep
      have z0 : wr.cell? ⟨w.heap.size, 1, none⟩ = some (.string (strB d.b1)) := hin.out.cell rfl
      have z1 : wr.cell? ⟨w.heap.size, 3, none⟩ = some (.int .i64 (d.s1 : Int)) := hin.out.cell rfl
      have y0 : wr.frozen? ⟨w.heap.size, 1, none⟩ = false := hin.out.2.1.frozen 1
      have y1 : wr.frozen? ⟨w.heap.size, 3, none⟩ = false := hin.out.2.1.frozen 3
      have hlt : w.heap.size < wr.heap.size := hin.out.2.1.lt
      have hsz : (d.s1 : Int) ≤ ((strB d.b1).size : Int) := by rw [strB_size]; omega
      have hsm : ((strB d.b1).size : Int) ≤ 1048576 := by rw [strB_size]; omega
      have hK : Kept (((keepN d.b1 d.s1 keep : Nat) : Int) = if keep < ((strB d.b1).size : Int) - (d.s1 : Int) then (if keep < 0 then 0 else keep) else ((strB d.b1).size : Int) - (d.s1 : Int)) := ⟨by rw [strB_size]; unfold keepN; split <;> (try split) <;> omega⟩
      have HCR : Kept (turnL (turn && decide (0 < keepN d.b1 d.s1 keep)) (d.b1.take (d.s1 + keepN d.b1 d.s1 keep)) = crashB d.b1 d.s1 keep turn) := ⟨rfl⟩
      generalize keepN d.b1 d.s1 keep = k at *
      have hL : (d.b1.take (d.s1 + k)).length = d.s1 + k := by rw [List.length_take]; omega
      have hsk : d.s1 + k ≤ (strB d.b1).size := by rw [strB_size]; omega
      have HCT := kept (strB_cut d.b1 (d.s1 + k))
      have HAL := kept (take_all HA1.out (d.s1 + k))
      generalize d.b1.take (d.s1 + k) = L at *
      go_upto_region 4 with (fail)
      go_quiet (fail)
      go_upto_if 26 with (fail)
      go_cut [8] (fun p wx => ∃ x : Int, p = .int .i64 x ∧ Kept ((k : Int) = if x < 0 then 0 else x) ∧ -9223372036854775808 ≤ x ∧ x ≤ 9223372036854775807 ∧ ∃ q, wx = wr.drewN q)
      case first =>
        by_cases hc : keep < ((strB d.b1).size : Int) - (d.s1 : Int)
        · have hk2 : Kept ((k : Int) = if keep < 0 then 0 else keep) := ⟨by have := hK.out; rw [if_pos hc] at this; exact this⟩
          go_wp2
          go_meet
          exact ⟨_, rfl, hk2, by omega, by omega, _, rfl⟩
        · have hk2 : Kept ((k : Int) = if ((strB d.b1).size : Int) - (d.s1 : Int) < 0 then 0 else ((strB d.b1).size : Int) - (d.s1 : Int)) := ⟨by have := hK.out; rw [if_neg hc] at this; rw [if_neg (by omega)]; exact this⟩
          go_wp2
          go_meet
          exact ⟨_, rfl, hk2, by omega, by omega, _, rfl⟩
      clear hK
      obtain ⟨x, rfl, hK, hx1, hx2, q, rfl⟩ := hcut
      go_upto_if 29 with (fail)
      go_cut [8] (fun p wx => p = .int .i64 (k : Int) ∧ wx = wr.drewN q)
      case first =>
        by_cases hc : x < 0
        · have hk2 : Kept ((k : Int) = 0) := ⟨by have := hK.out; rw [if_pos hc] at this; exact this⟩
          go_wp2
          go_meet
          exact ⟨by rw [hk2.out], rfl⟩
        · have hk2 : Kept ((k : Int) = x) := ⟨by have := hK.out; rw [if_neg hc] at this; exact this⟩
          go_wp2
          go_meet
          exact ⟨by rw [hk2.out], rfl⟩
      obtain ⟨rfl, rfl⟩ := hcut
      replace hin : Kept (Rn w (wr.drewN q) (rL (d.cr keep turn 1)) rZ) := ⟨hin.out.drewN q⟩
      clear hK hx1 hx2 x z0 z1 y0 y1 hlt
      generalize wr.drewN q = wq at *
      have z0 : wq.cell? ⟨w.heap.size, 1, none⟩ = some (.string (strB d.b1)) := hin.out.cell rfl
      have z1 : wq.cell? ⟨w.heap.size, 3, none⟩ = some (.int .i64 (d.s1 : Int)) := hin.out.cell rfl
      have hlt : w.heap.size < wq.heap.size := hin.out.2.1.lt
      have hct := HCT.out
      have hnn : ((d.s1 : Int) + (k : Int)).toNat = d.s1 + k := by omega
      obtain ⟨c2, w2, hrun, hr2, hb2, hl2, hf2⟩ := str_cells wq.drew L HAL.out
      replace hrun : (convert 9 22 (.string (strB L))).run Tryd.prog wq.drew = .ok (.slice (some ⟨wq.heap.size, 0, none⟩) L.length c2) w2 := hrun
      have HB2 := kept hb2
      have HR2 : Kept (Rd w2 w2.heap.size (some ⟨wq.heap.size, 0, none⟩) (BB L)) := ⟨hr2⟩
      have HF2 : Kept (∀ j, j < L.length → w2.frozen? ⟨wq.heap.size, j, none⟩ = false) := ⟨hf2⟩
      have hin2 := kept (hin.out.drew.next hb2)
      clear hb2 hr2 hf2
      have hw0 : (0 : Int) ≤ (d.s1 : Int) + (k : Int) := by omega
      have hw1 : (d.s1 : Int) + (k : Int) ≤ ((strB d.b1).size : Int) := by omega
      have hw2 : IntKind.i64.wrap ((d.s1 : Int) + (k : Int)) = (d.s1 : Int) + (k : Int) := IntWalk.i64_in _ (by omega)
      have hLm : L.length ≤ 1048576 := by rw [strB_size] at hsm; omega
      have HL := kept hL
      clear hL
      go_upto_region 9 with (fail)
      go_region_law (fail)
      all_goals
        have g0 : w2.cell? ⟨w.heap.size, 1, none⟩ = some (.string (strB d.b1)) := hin2.out.cell rfl
        have g1 : w2.cell? ⟨w.heap.size, 3, none⟩ = some (.int .i64 (d.s1 : Int)) := hin2.out.cell rfl
        have e0 := hin2.out.2.1.frozen 1
        have e1 := hin2.out.2.1.frozen 3
        have hl3 : w.heap.size < w2.heap.size := hin2.out.2.1.lt
        clear hct hw0 hw1 hw2 hnn hrun z0 z1
        cases hcb : (turn && decide (0 < k)) with
        | false =>
          rw [hcb] at HCR
          have HF := kept (rcr_1 hin2.out (R := L) HCR.out)
          have rs := run_str w2 _ _ L.length c2 L rfl HR2.out
          have hk0 : turn = true → k = 0 := fun h => by rw [h] at hcb; simpa using hcb
          cases turn with
          | false =>
            clear hcb hk0
            go_wp2
            all_goals
              go_roundw
              case rel => exact ⟨2, by omega, rfl, HF⟩
              case measure => simp [intOf]
          | true =>
            obtain rfl := hk0 rfl
            clear hcb hk0
            go_wp2
            all_goals
              go_roundw
              case rel => exact ⟨2, by omega, rfl, HF⟩
              case measure => simp [intOf]
        | true =>
          rw [hcb] at HCR
          have ht : turn = true := by cases turn <;> simp_all
          subst ht
          have hk0 : 0 < k := by simpa using hcb
          have hpos : 1 ≤ L.length := by have := HL.out; omega
          have hix : ((L.length : Int) - 1).toNat = L.length - 1 := by omega
          have hcell : w2.cell? ⟨wq.heap.size, L.length - 1, none⟩ = some (.int .u8 (L.getD (L.length - 1) 0 : Int)) := by
            obtain ⟨b', o', he, _, hc⟩ := HR2.out.at_ (BB_get L (L.length - 1) (by omega))
            injection he with he
            injection he with h1 h2 h3
            subst h1 h2
            rw [Nat.zero_add] at hc
            exact hc
          have hfz := HF2.out (L.length - 1) (by omega)
          have hxb : L.getD (L.length - 1) 0 < 256 := getD_lt8 HAL.out (by omega)
          have hxr : bits .xor .u8 ((L.getD (L.length - 1) 0 : Nat) : Int) 1 = ((L.getD (L.length - 1) 0 ^^^ 1 : Nat) : Int) := u8_xor_nat _ 1 hxb (by decide)
          have s1 := HR2.out.put (v := .int .u8 ((L.getD (L.length - 1) 0 ^^^ 1 : Nat) : Int)) (j := L.length - 1) (by rw [BB_length]; omega)
          have hbs : (BB L).set (L.length - 1) (.int .u8 ((L.getD (L.length - 1) 0 ^^^ 1 : Nat) : Int)) = BB (L.set (L.length - 1) (L.getD (L.length - 1) 0 ^^^ 1)) := by unfold BB; rw [List.map_set]
          rw [hbs, Nat.zero_add] at s1
          have rs := run_str _ _ _ L.length c2 _ (by rw [List.length_set]) s1
          have hin3 := hin2.out.off (p := ⟨wq.heap.size, L.length - 1, none⟩) hin.out.2.2.lt (.int .u8 ((L.getD (L.length - 1) 0 ^^^ 1 : Nat) : Int))
          have hF := rcr_1 hin3 (R := L.set (L.length - 1) (L.getD (L.length - 1) 0 ^^^ 1)) HCR.out
          rw [List.length_set] at hF
          have HF := kept hF
          have hgg : w.heap.size ≠ wq.heap.size := by omega
          have hwl : wq.heap.size < w2.heap.size := hl2
          clear hcb s1 hbs hF hin3 hin2 HCR HR2 HF2 HAL HL hin
          generalize L.set (L.length - 1) (L.getD (L.length - 1) 0 ^^^ 1) = R at *
          generalize L.getD (L.length - 1) 0 ^^^ 1 = y at *
          generalize L.getD (L.length - 1) 0 = x at *
          go_wp2
          go_roundw
          case rel => exact ⟨2, by omega, rfl, HF⟩
          case measure => simp [intOf]
    · have z5 : wr.cell? ⟨w.heap.size, 5, none⟩ = some (.int .i64 d.fuse) := hin.out.cell rfl
      have z6 : wr.cell? ⟨w.heap.size, 6, none⟩ = some (.bool d.down) := hin.out.cell rfl
      have y5 := hin.out.2.1.frozen 5
      have y6 := hin.out.2.1.frozen 6
      have hlt : w.heap.size < wr.heap.size := hin.out.2.1.lt
      have H3 := kept ((hin.out.set 5 (.int .i64 (-1))).set 6 (.bool false))
      have hk6 := H3.out.2.1
      have hk4 := H3.out.2.2
      go_wp2_with (first | (refine wpl_loadB rfl _ _ rfl w.heap.size rfl _ _ hk6 _ rfl rfl rfl ?_) | (refine wpl_storeB rfl _ _ _ rfl (w.heap.size + 1) _ rfl rfl _ _ hk4 rfl rfl rfl ?_; intro w5 hk5 hu5; have H5 := kept (H3.out.res hk5 hu5)))
      exact bodyPost_ret (res_cell_one rfl _ (w.heap.size + 1) _ _ _ rfl H5.out.2.2 rfl rfl rfl) rfl ⟨rfl, H5.out.1⟩
end Go.Proofs.YtdlghabpnpbebaaDoor.Disk
