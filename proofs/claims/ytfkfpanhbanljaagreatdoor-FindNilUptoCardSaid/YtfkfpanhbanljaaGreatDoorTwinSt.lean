/- Layer 47 (twin): what Groups holds. -/
import Derived.Test.YtfkfpanhbanljaaGreatDoorSet16
import Derived.Test.YtfkfpanhbanljaaGreatDoorTwinIns
import Derived.Test.YtfkfpanhbanljaaGreatDoorSet5
import Derived.BigQuiet
import Derived.Deep.DeepCutAuto
namespace Go.Proofs.YtfkfpanhbanljaaGreatDoor.Twin
open Go.RowKit Go.Proofs.YtfkfpanhbanljaaGreatDoor.Mem Go.Proofs.YtfkfpanhbanljaaGreatDoor.Card

def UB (up : List Nat) : List Value := up.map fun x : Nat => Value.int .i64 (x : Int)
/-- the row of heads, and the variable that holds it -/
def UpSt (w W : World) (V n : Nat) (up : List Nat) : Prop := (Below w.heap.size w W ∧ w.heap.size < V) ∧ Blk W V [.slice (some ⟨w.heap.size, 0, none⟩) n n] 53 ∧ Own W w.heap.size 3 (.slice (some ⟨w.heap.size, 0, none⟩) n n) (UB up)
theorem UB_set (up : List Nat) (i v : Nat) : (UB up).set i (.int .i64 (v : Int)) = UB (up.set i v) := by simp [UB, List.map_set]
theorem UB_get {up : List Nat} {i : Nat} (h : i < up.length) : (UB up)[i]? = some (.int .i64 ((up.getD i 0 : Nat) : Int)) := by simp [UB, List.getD, h]
section
variable {w W W' : World} {V n : Nat} {up : List Nat}
theorem UpSt.next (h : UpSt w W V n up) (hb : Below W.heap.size W W') : UpSt w W' V n up := ⟨⟨h.1.1.trans (hb.mono h.1.1.size), h.1.2⟩, h.2.1.next hb, h.2.2.next hb⟩
theorem UpSt.drewN (h : UpSt w W V n up) (q : Nat) : UpSt w (W.drewN q) V n up := h.next (below_draw _ W q)
theorem UpSt.upd {S : Nat → Prop} (h : UpSt w W V n up) (hu : Upd S W W') (hs : ∀ k, S k → V < k) : UpSt w W' V n up :=
  ⟨⟨h.1.1.trans (hu.below h.1.1.size fun k _ e => by have := hs k e; have := h.1.2; omega), h.1.2⟩, h.2.1.upd hu fun e => by have := hs _ e; omega, h.2.2.upd hu fun k hk e => by
    have h1 := hs k e
    have h2 := h.1.2
    obtain rfl : w.heap.size = k := Option.some.inj hk
    omega⟩
theorem UpSt.len (h : UpSt w W V n up) : up.length = n := by
  have := h.2.2.len
  unfold UB at this
  rw [List.length_map] at this
  exact this.symm
theorem UpSt.spot (h : UpSt w W V n up) {i : Nat} (hi : i < n) : W.cell? ⟨w.heap.size, i, none⟩ = some (.int .i64 ((up.getD i 0 : Nat) : Int)) ∧ W.frozen? ⟨w.heap.size, i, none⟩ = false ∧ ∀ v : Nat, UpSt w (W.setCell ⟨w.heap.size, i, none⟩ (.int .i64 (v : Int))) V n (up.set i v) := by
  have hl := h.len
  obtain ⟨g, h1, h2, -, h4, h5, h6⟩ := OwnK.spot h.2.2 (UB_get (up := up) (i := i) (by omega))
  obtain rfl : w.heap.size = g := congrArg Addr.block (Option.some.inj h1)
  refine ⟨h4, h5, fun v => ⟨⟨h.1.1.setCell (p := ⟨w.heap.size, i, none⟩) (Nat.le_refl _) _, h.1.2⟩, h.2.1.other (p := ⟨w.heap.size, i, none⟩) (by have := h.1.2; show w.heap.size ≠ _; omega) _, ?_⟩⟩
  have h7 := (h6 (.int .i64 (v : Int))).1
  rw [UB_set] at h7
  unfold Own
  have e : (UB (up.set i v)).length = (UB up).length := by simp [UB]
  rw [e]
  exact h7
end
/-- the closure root -/
theorem root_any (w W : World) (V n : Nat) (up : List Nat) (R : Nat → Nat) (i : Nat) (h : UpSt w W V n up) (hf : Forest n up R) (hi : i < n) :
    Calls Tryz.prog 52 #[.int .i64 (i : Int), .pointer (some ⟨V, 0, none⟩)] W fun e W' => e = .returned (.int .i64 ((R i : Nat) : Int)) ∧ W = W' := by
  obtain ⟨d, -, hf⟩ := hf
  have H := kept h
  have HF := kept hf
  have hc := h.2.1.cell (j := 0) rfl
  clear h hf
  go_enter Tryz.func52, Tryz.ntmps52
  go_wp2_with fail
  go_loopw [0] (fun a wr => ∃ x : Nat, x < n ∧ a = .int .i64 (x : Int) ∧ Kept (R x = R i) ∧ W = wr) (fun a _ => d (intOf a).toNat)
  case atStart => exact ⟨i, hi, rfl, ⟨rfl⟩, rfl⟩
  case round =>
    obtain ⟨x, hx, rfl, HR, rfl⟩ := hrel
    have hc0 := (H.out.spot hx).1
    have hxn : (x : Int) < (n : Int) := by omega
    rcases HF.out x hx with ⟨h1, h2⟩ | ⟨h1, h2, h3, h4, h5⟩
    · rw [h1] at hc0
      have HX : Kept (R i = x) := ⟨by rw [← HR.out]; exact h2⟩
      have e0 : ((x : Int) != (x : Int)) = false := by simp
      clear h1 h2 HR
      go_wp2_with fail
      go_ret
      rw [HX.out]
      exact ⟨rfl, rfl⟩
    · have e0 : (((up.getD x 0 : Nat) : Int) != (x : Int)) = true := bne_iff_ne.2 fun e => h1 (by omega)
      have HX : Kept (R (up.getD x 0) = R i) := ⟨by rw [h4]; exact HR.out⟩
      have HD := kept h5
      clear h1 h2 h4 h5 HR
      generalize up.getD x 0 = y at *
      go_wp2_with fail
      go_roundw
      case rel => exact ⟨y, h3, rfl, HX, trivial⟩
      case measure =>
        have := HD.out
        simpa [intOf] using this
/-- make([]int, n) -/
theorem make_up (w : World) (n : Nat) (hn : n ≤ 1000000) : ∃ w', (Instr.makeSlice 53 (.int .i64 (n : Int)) (.int .i64 (n : Int))).run Tryz.prog w = .ok (.slice (some ⟨w.heap.size, 0, none⟩) n n) w' ∧
      Own w' w.heap.size 3 (.slice (some ⟨w.heap.size, 0, none⟩) n n) (UB (List.replicate n 0)) ∧ Below w.heap.size w w' := by
  obtain ⟨i0, hi0, hz0, hz1, hz2⟩ := info_parts int_info
  obtain ⟨w', h1, h2, h3⟩ := run_make_full (P := Tryz.prog) w w.heap.size 53 3 i0 _ 1 Tryz.underlying53 hi0 hz0 hz1 .i64 .i64 n (by rw [hz2]; omega) (by simp only [maxLen]; omega) (Nat.le_refl _)
  refine ⟨w', h1, ?_, (Below.refl _ _).grown h3 (Nat.le_refl _) (by simp)⟩
  have e : (madeCells (Value.int .i64 0).cells (n * 1)).toList = UB (List.replicate n 0) := by
    rw [Nat.mul_one]
    show (madeCells #[Value.int .i64 0] n).toList = _
    rw [toList_madeCells_one]
    simp [UB]
  rw [e] at h2
  unfold Own
  have el : (UB (List.replicate n 0)).length = n := by simp [UB]
  rw [el]
  exact h2
theorem grp_info : (Tryz.prog.info? 49).map (fun i => (i.zero, i.size, i.bytes)) = some (some (.slice none 0 0), 1, 24) := by kernel_rfl
theorem grpE_cells (l : List GrpM) : grpE.cells l = l.map GrpM.val := by
  unfold Elem.cells
  induction l with
  | nil => rfl
  | cons x l ih => rw [List.flatMap_cons, ih]; rfl
/-- make([][]uint64, n) -/
theorem make_gs (w : World) (n : Nat) (hn : n ≤ 1000000) : ∃ w', (Instr.makeSlice 47 (.int .i64 (n : Int)) (.int .i64 (n : Int))).run Tryz.prog w = .ok (.slice (some ⟨w.heap.size, 0, none⟩) n n) w' ∧
      grpE.Own w' w.heap.size 49 (.slice (some ⟨w.heap.size, 0, none⟩) n n) (List.replicate n gz) ∧ Below w.heap.size w w' := by
  obtain ⟨i0, hi0, hz0, hz1, hz2⟩ := info_parts grp_info
  obtain ⟨w', h1, h2, h3⟩ := run_make_full (P := Tryz.prog) w w.heap.size 47 49 i0 _ 1 Tryz.underlying47 hi0 hz0 hz1 .i64 .i64 n (by rw [hz2]; omega) (by simp only [maxLen]; omega) (Nat.le_refl _)
  refine ⟨w', h1, ?_, (Below.refl _ _).grown h3 (Nat.le_refl _) (by simp)⟩
  have e : (madeCells (Value.slice none 0 0).cells (n * 1)).toList = grpE.cells (List.replicate n gz) := by
    rw [Nat.mul_one, grpE_cells]
    show (madeCells #[Value.slice none 0 0] n).toList = _
    rw [toList_madeCells_one]
    simp [gz, GrpM.val]
  rw [e] at h2
  unfold Elem.Own
  rw [List.length_replicate]
  exact h2
/-! the groups -/
def GOwn (W : World) (base : Nat) (gs : List GrpM) : Prop := (∀ g ∈ gs, Own W base 28 g.val (WB g.l)) ∧ ∀ (i j : Nat) (g h : GrpM), i ≠ j → gs[i]? = some g → gs[j]? = some h → ∀ k, g.val.ownBlock = some k → ¬ h.val.ownBlock = some k
section
variable {W W' : World} {base : Nat} {gs : List GrpM}
theorem GOwn.next (h : GOwn W base gs) (hb : Below W.heap.size W W') : GOwn W' base gs := ⟨fun g hg => (h.1 g hg).next hb, h.2⟩
theorem GOwn.off {S : Nat → Prop} (h : GOwn W base gs) (hu : Upd S W W') (hs : ∀ g ∈ gs, ∀ k, g.val.ownBlock = some k → ¬ S k) : GOwn W' base gs := ⟨fun g hg => (h.1 g hg).upd hu (hs g hg), h.2⟩
theorem GOwn.row {A : Option Addr} {m c b2 : Nat} {rs : List GrpM} (h : GOwn W base gs) (hr : grpE.Own W b2 49 (.slice A m c) rs) (hu : Upd (fun k => (Value.slice A m c).ownBlock = some k) W W') : GOwn W' base gs :=
  h.off hu fun g hg => own_apart (show OwnK 1 W base 28 g.val (WB g.l).length (WB g.l) from h.1 g hg) (show OwnK grpE.k W b2 49 (.slice A m c) rs.length (grpE.cells rs) from hr) (by decide)
theorem GOwn.put {m : Nat} {g g' : GrpM} (h : GOwn W base gs) (hm : gs[m]? = some g) (hu : Upd (fun k => g.val.ownBlock = some k) W W') (ho : Own W' base 28 g'.val (WB g'.l)) (hb : ∀ k, g'.val.ownBlock = some k → g.val.ownBlock = some k ∨ W.heap.size ≤ k) : GOwn W' base (gs.set m g') := by
  have hlt := (List.getElem?_eq_some_iff.1 hm).1
  have hold : ∀ (j : Nat) x, j ≠ m → gs[j]? = some x → Own W' base 28 x.val (WB x.l) := fun j x hj hx => (h.1 x (List.mem_of_getElem? hx)).upd hu fun k hk e => h.2 j m x g hj hx hm k hk e
  have hap : ∀ (j : Nat) x, j ≠ m → gs[j]? = some x → ∀ k, x.val.ownBlock = some k → ¬ g'.val.ownBlock = some k := fun j x hj hx k hk e => by
    rcases hb k e with h1 | h1
    · exact h.2 j m x g hj hx hm k hk h1
    · have := ((h.1 x (List.mem_of_getElem? hx)).lt k hk).2
      omega
  constructor
  · intro x hx
    obtain ⟨j, hj⟩ := List.getElem?_of_mem hx
    rw [List.getElem?_set] at hj
    split at hj
    · obtain rfl := Option.some.inj hj; exact ho
    · exact hold j x (fun e => by omega) hj
  · intro i j x y hij hx hy k hk
    rw [List.getElem?_set] at hx hy
    split at hx
    · obtain rfl := Option.some.inj hx
      split at hy
      · omega
      · exact fun e => hap j y (by omega) hy k e hk
    · split at hy
      · obtain rfl := Option.some.inj hy
        exact hap i x (by omega) hx k hk
      · exact h.2 i j x y hij hx hy k hk
/-- what a group's row is read as, wherever another row is changed -/
theorem GOwn.reads {A : Option Addr} {m c b2 : Nat} {rs : List GrpM} (h : GOwn W base gs) (hr : grpE.Own W b2 49 (.slice A m c) rs) (hu : Upd (fun k => (Value.slice A m c).ownBlock = some k) W W') : ∀ g ∈ gs, Mem.Rd W' W'.heap.size g.A (WB g.l) := fun g hg => ((h.row hr hu).1 g hg).rd
end
/-- the groups that came out -/
def RdG (W : World) (A : Option Addr) (gs : List GrpM) : Prop := grpE.Rd W W.heap.size A gs ∧ ∀ g ∈ gs, Mem.Rd W W.heap.size g.A (WB g.l)
def GivesG (w : World) (ll : List (List Nat)) (en : Ending) (w' : World) : Prop := ∃ A c gs, en = .returned (.slice A (List.length gs) c) ∧ gs.map GrpM.l = ll ∧ gs.length ≤ c ∧ RdG w' A gs ∧ Below w.heap.size w w'
theorem RdG.next {W W' : World} {A : Option Addr} {gs : List GrpM} (h : RdG W A gs) (hb : Below W.heap.size W W') : RdG W' A gs := ⟨h.1.next hb, fun g hg => (h.2 g hg).next hb⟩
end Go.Proofs.YtfkfpanhbanljaaGreatDoor.Twin
