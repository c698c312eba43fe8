/- The walks of layer 24, continued: Add, Gen. -/
import Derived.Test.YtdlghabpnpbebaaDoorJrnDisk
import Derived.Test.YtdlghabpnpbebaaDoorJrnHead
import Derived.Deep.RegionHeld3
namespace Go.Proofs.YtdlghabpnpbebaaDoor.Jrn
open Go.RowKit Go.Proofs.YtdlghabpnpbebaaDoor.Mem Go.Proofs.YtdlghabpnpbebaaDoor.Num Go.Proofs.YtdlghabpnpbebaaDoor.Wal Go.Proofs.YtdlghabpnpbebaaDoor.Disk Go.Proofs.YtdlghabpnpbebaaDoor.Crc

/-- a journal lies at gj, on the ground S of its disk and on its own block -/
def JrnAt (w : World) (S : Nat → Prop) (g gj : Nat) (j : JS) : Prop :=
  Dsk w S g j.d ∧ Blk w gj (JC g j.file j.gen) 33 ∧ ¬ S gj ∧ (j.file = 0 ∨ j.file = 1) ∧ j.gen < 18446744073709551616
/-- a journal's ground: its disk's, and its own block -/
def JG (S : Nat → Prop) (gj : Nat) : Nat → Prop := fun k => S k ∨ k = gj
/-- what a call on it gives -/
def JDoes (S : Nat → Prop) (g gj : Nat) (w : World) (j : JS) (v : Value) (e : Ending) (w' : World) : Prop := e = .returned v ∧ ∃ S', JrnAt w' S' g gj j ∧ Goes (JG S gj) w (JG S' gj) w'
theorem goesJ {S S1 : Nat → Prop} {w w' : World} (h : Goes S w S1 w') (gj : Nat) : Goes (JG S gj) w (JG S1 gj) w' :=
  ⟨h.1.mono fun _ _ hs => .inl hs, fun k hk => hk.elim (fun h1 => (h.2 k h1).imp .inl id) (fun h1 => .inl (.inr h1))⟩
theorem dsk_upd {S T : Nat → Prop} {g : Nat} {d : DS} {w w' : World} (h : Dsk w S g d) (hu : Upd T w w') (hd : ∀ k, S k → ¬ T k) : Dsk w' S g d := by
  obtain ⟨h1, h2, h3, A0, c0, A1, c1, h4, h5⟩ := h
  exact ⟨h1, h2, fun k hk => Nat.lt_of_lt_of_le (h3 k hk) hu.size, A0, c0, A1, c1, h4.upd hu (hd g h2), h5.upd hu fun k hk _ => hd k hk⟩
theorem JrnAt.next {S : Nat → Prop} {g gj : Nat} {j : JS} {w w' : World} (h : JrnAt w S g gj j) (hb : Below w.heap.size w w') : JrnAt w' S g gj j := ⟨dsk_next h.1 hb, h.2.1.next hb, h.2.2⟩
theorem JrnAt.under {S : Nat → Prop} {g gj : Nat} {j : JS} {w : World} (h : JrnAt w S g gj j) : ∀ k, JG S gj k → k < w.heap.size := fun k hk => hk.elim (h.1.2.2.1 k) (fun e => e ▸ h.2.1.lt)
theorem tab_below {B : Nat} {w w' : World} (hT : Tab w) (hg : 0 < B) (hb : Below B w w') : Tab w' :=
  ⟨Nat.lt_of_lt_of_le hT.1 hb.size, fun i hi => (hb.cell (p := ⟨0, i, none⟩) hg).trans (hT.2 i hi)⟩
theorem goes_not {S S1 : Nat → Prop} {w w' : World} {gj : Nat} (h : Goes S w S1 w') (hs : ¬ S gj) (hl : gj < w.heap.size) : ¬ S1 gj := fun h1 => (h.2 gj h1).elim hs (fun h2 => by omega)
theorem add_any (S : Nat → Prop) (g gj : Nat) (j : JS) (X : Option Addr) (m c : Nat) (l : List Nat) (w : World) (hm : m = l.length) (hT : Tab w) (h : JrnAt w S g gj j) (hl : AllB l) (hr : Rd w w.heap.size X (BB l)) (hsz : l.length ≤ 140737488350000) :
    Calls Tryd.prog 11 #[.pointer (some ⟨gj, 0, none⟩), .slice X m c] w (JDoes S g gj w (addM j l).1 (.int .i64 ((addM j l).2 : Int))) := by
  subst hm
  obtain ⟨hD, hk, hgj, hf, hgen⟩ := h
  obtain ⟨d, f, gen⟩ := j
  dsimp only at hD hk hf hgen
  have hgl : g < w.heap.size := hD.2.2.1 g hD.2.1
  have hkl := hk.lt
  have hrl := recB_le l
  have CP := kept (put_any X l.length c l w.drew rfl (hT.next (Below.refl w.heap.size w).drew) hl (hr.next (Below.refl w.heap.size w).drew) (by omega))
  have CW := kept (fun (W : World) (hb : Below w.heap.size w W) (A : Option Addr) (c2 : Nat) (hr2 : Rd W W.heap.size A (BB (recB l))) (hx : ∀ x, A = some x → BB (recB l) ≠ [] → x.block ≠ g) => write_any S g d f A (recB l).length c2 (recB l) W (dsk_next hD hb) hf (recB_all hl) rfl hr2 hx (by omega))
  have HA : Kept (addM ⟨d, f, gen⟩ l = (⟨(writeM d f (recB l)).1, f, gen⟩, (writeM d f (recB l)).2)) := ⟨rfl⟩
  have HK := kept hk
  have c0 := hk.cell (j := 0) rfl
  have c1 := hk.cell (j := 1) rfl
  have HSB : Kept (∀ W, Below w.heap.size w W → W.cell? ⟨gj, 0, none⟩ = some (.pointer (some ⟨g, 0, none⟩)) ∧ W.cell? ⟨gj, 1, none⟩ = some (.int .i64 f)) := ⟨fun W hb => ⟨(hk.next hb).cell (j := 0) rfl, (hk.next hb).cell (j := 1) rfl⟩⟩
  have HSG : Kept (∀ S1 W, Goes S w S1 W → W.cell? ⟨gj, 0, none⟩ = some (.pointer (some ⟨g, 0, none⟩)) ∧ W.cell? ⟨gj, 1, none⟩ = some (.int .i64 f)) := ⟨fun S1 W hG => ⟨(hk.upd hG.1 hgj).cell (j := 0) rfl, (hk.upd hG.1 hgj).cell (j := 1) rfl⟩⟩
  generalize writeM d f (recB l) = r at *
  generalize recB l = rl at *
  clear hD hk hT hr
  go_enter Tryd.func11, Tryd.ntmps11
  go_wp2_with fail
  have hbd : Below w.heap.size w w.drew := (Below.refl _ _).drew
  go_region_held3 (fun W => W.cell? ⟨gj, 0, none⟩ = some (.pointer (some ⟨g, 0, none⟩)) ∧ W.cell? ⟨gj, 1, none⟩ = some (.int .i64 f)) (first | exact HSB.out _ (by assumption) | exact HSG.out _ _ (by assumption)) (first
    | (go_at_call 34; ((with_reducible refine CP.out.mono ?_); rintro e w1 ⟨A1, c2, rfl, hown, hc2, hb⟩; have hb1 : Below w.heap.size w w1 := hbd.trans hb; have hr1 := hown.rd; have hx1 : ∀ x, A1 = some x → BB rl ≠ [] → x.block ≠ g := (by intro x hx _ hxg; subst hx; have h9 := (Own.lt hown x.block rfl).1; have h8 : w.drew.heap.size = w.heap.size := rfl; omega)))
    | (go_at_call 33; ((with_reducible refine (CW.out _ (by assumption) _ _ (by assumption) (by assumption)).mono ?_); rintro e w2 ⟨rfl, S2, hD2, hG2⟩; have hG3 : Goes S w S2 w2 := (goes_below (by assumption)).trans hG2)))
  all_goals go_wp2_with fail
  all_goals go_ret
  all_goals rw [HA.out]
  all_goals exact ⟨rfl, S2, ⟨hD2, HK.out.upd hG3.1 hgj, goes_not hG3 hgj hkl, hf, hgen⟩, goesJ hG3 gj⟩
theorem gen_any (S : Nat → Prop) (g gj : Nat) (j : JS) (w : World) (h : JrnAt w S g gj j) :
    Calls Tryd.prog 13 #[.pointer (some ⟨gj, 0, none⟩)] w fun e w' => e = .returned (.int .u64 (j.gen : Int)) ∧ w' = w := by
  obtain ⟨hD, hk, hgj, hf, hgen⟩ := h
  have c2 := hk.cell (j := 2) rfl
  clear hD hf
  go_enter Tryd.func13, Tryd.ntmps13
  go_wp2_with fail
  go_ret
  exact ⟨rfl, rfl⟩
theorem add_nil (X : Option Addr) (m c : Nat) (w : World) : Calls Tryd.prog 11 #[.pointer none, .slice X m c] w fun e w' => e = .returned (.int .i64 1) ∧ w' = w := by
  go_enter Tryd.func11, Tryd.ntmps11
  go_wp2_with fail
  go_ret
  exact ⟨rfl, rfl⟩
theorem ck_nil (X : Option Addr) (m c : Nat) (w : World) : Calls Tryd.prog 12 #[.pointer none, .slice X m c] w fun e w' => e = .returned (.int .i64 1) ∧ w' = w := by
  go_enter Tryd.func12, Tryd.ntmps12
  go_wp2_with fail
  go_ret
  exact ⟨rfl, rfl⟩
theorem gen_nil (w : World) : Calls Tryd.prog 13 #[.pointer none] w fun e w' => e = .returned (.int .u64 0) ∧ w' = w := by
  go_enter Tryd.func13, Tryd.ntmps13
  go_wp2_with fail
  go_ret
  exact ⟨rfl, rfl⟩
/-! a journal that no call made -/
def NoJ (w : World) (gj : Nat) : Prop := w.cell? ⟨gj, 0, none⟩ = some (.pointer none) ∧ w.cell? ⟨gj, 2, none⟩ = some (.int .u64 0)
theorem add_no (gj : Nat) (X : Option Addr) (m c : Nat) (w : World) (h : NoJ w gj) : Calls Tryd.prog 11 #[.pointer (some ⟨gj, 0, none⟩), .slice X m c] w fun e w' => e = .returned (.int .i64 1) ∧ w' = w := by
  obtain ⟨c0, c2⟩ := h
  go_enter Tryd.func11, Tryd.ntmps11
  go_wp2_with fail
  go_ret
  exact ⟨rfl, rfl⟩
theorem ck_no (gj : Nat) (X : Option Addr) (m c : Nat) (w : World) (h : NoJ w gj) : Calls Tryd.prog 12 #[.pointer (some ⟨gj, 0, none⟩), .slice X m c] w fun e w' => e = .returned (.int .i64 1) ∧ w' = w := by
  obtain ⟨c0, c2⟩ := h
  go_enter Tryd.func12, Tryd.ntmps12
  go_wp2_with fail
  go_ret
  exact ⟨rfl, rfl⟩
theorem gen_no (gj : Nat) (w : World) (h : NoJ w gj) : Calls Tryd.prog 13 #[.pointer (some ⟨gj, 0, none⟩)] w fun e w' => e = .returned (.int .u64 0) ∧ w' = w := by
  obtain ⟨c0, c2⟩ := h
  go_enter Tryd.func13, Tryd.ntmps13
  go_wp2_with fail
  go_ret
  exact ⟨rfl, rfl⟩
end Go.Proofs.YtdlghabpnpbebaaDoor.Jrn
