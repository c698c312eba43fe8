/- The walks of layer 24, continued: empty, write, clean. -/
import Derived.Test.YtdlghabpnpbebaaDoorJrnMath
import Derived.Test.YtdlghabpnpbebaaDoorDiskCut
import Derived.Test.YtdlghabpnpbebaaDoorDiskSync
import Derived.Test.YtdlghabpnpbebaaDoorDiskApp
import Derived.Test.YtdlghabpnpbebaaDoorDiskCalls
import Derived.Deep.RegionWith
import Derived.IntWalk
import Derived.Deep.DeepCutAuto
namespace Go.Proofs.YtdlghabpnpbebaaDoor.Jrn
open Go.RowKit Go.Proofs.YtdlghabpnpbebaaDoor.Mem Go.Proofs.YtdlghabpnpbebaaDoor.Num Go.Proofs.YtdlghabpnpbebaaDoor.Wal Go.Proofs.YtdlghabpnpbebaaDoor.Disk

theorem Does.step {S : Nat → Prop} {g : Nat} {w w1 : World} {d : DS} {v : Value} {e : Ending} {w' : World} {S1 : Nat → Prop} (hg : Goes S w S1 w1) (h : Does S1 g w1 d v e w') : Does S g w d v e w' := by
  obtain ⟨he, S2, h1, h2⟩ := h
  exact ⟨he, S2, h1, hg.trans h2⟩
theorem readM_b {d : DS} {f : Int} (h : f = 0 ∨ f = 1) : d.readM f = d.b f := by unfold DS.readM; rw [if_pos (show isF f = true by rcases h with rfl | rfl <;> rfl)]
theorem dsk_next {S : Nat → Prop} {g : Nat} {d : DS} {w w' : World} (h : Dsk w S g d) (hb : Below w.heap.size w w') : Dsk w' S g d := by
  obtain ⟨h1, h2, h3, A0, c0, A1, c1, h4, h5⟩ := h
  exact ⟨h1, h2, fun k hk => Nat.lt_of_lt_of_le (h3 k hk) hb.size, A0, c0, A1, c1, h4.next hb, h5.upd (Upd.of_below (S := fun _ => False) hb) fun _ _ _ e => e⟩
theorem goes_below {S : Nat → Prop} {w w' : World} (h : Below w.heap.size w w') : Goes S w S w' := ⟨Upd.of_below h, fun _ hk => .inl hk⟩
theorem dsk_ok {S : Nat → Prop} {g : Nat} {d : DS} {w : World} (h : Dsk w S g d) : d.Ok := h.1
theorem empty_any (S : Nat → Prop) (g : Nat) (d : DS) (f : Int) (w : World) (h : Dsk w S g d) (hf : f = 0 ∨ f = 1) :
    Calls Tryd.prog 35 #[.pointer (some ⟨g, 0, none⟩), .int .i64 f] w (Does S g w (emptyM d f).1 (.int .i64 ((emptyM d f).2 : Int))) := by
  have hfb : -9223372036854775808 ≤ f ∧ f ≤ 9223372036854775807 := by omega
  have CR := kept (read_any S g d f w h hfb)
  have CC := kept (fun (W : World) (hb : Below w.heap.size w W) => cut_any S g d f 0 W (dsk_next h hb) hfb)
  have HE : Kept (emptyM d f = if d.b f = [] then (d, 0) else d.cutM f 0) := ⟨rfl⟩
  have HN := kept (fun (W : World) (hb : Below w.heap.size w W) => dsk_next h hb)
  rw [readM_b hf] at CR
  generalize d.b f = l at *
  clear h
  by_cases hl : l = []
  · subst hl
    have HR : Kept (emptyM d f = (d, 0)) := ⟨by rw [HE.out, if_pos rfl]⟩
    go_enter Tryd.func35, Tryd.ntmps35
    go_wp2_with fail
    refine CR.out.mono ?_
    rintro e w1 ⟨A, c, rfl, hown, hc, hb⟩
    clear hown
    go_wp2_with fail
    go_ret
    rw [HR.out]
    exact ⟨rfl, S, HN.out _ hb, goes_below hb⟩
  · have HR : Kept (emptyM d f = d.cutM f 0) := ⟨by rw [HE.out, if_neg hl]⟩
    have hl0 : ((l.length : Int) == 0) = false := by simp; exact hl
    go_enter Tryd.func35, Tryd.ntmps35
    go_wp2_with fail
    refine CR.out.mono ?_
    rintro e w1 ⟨A, c, rfl, hown, hc, hb⟩
    clear hown
    go_wp2_with fail
    refine (CC.out _ hb).mono ?_
    rintro e w2 ⟨rfl, S2, hD2, hG2⟩
    go_wp2_with fail
    go_ret
    rw [HR.out]
    exact ⟨rfl, S2, hD2, (goes_below hb).trans hG2⟩
theorem write_any (S : Nat → Prop) (g : Nat) (d : DS) (f : Int) (X : Option Addr) (m c : Nat) (l : List Nat) (w : World) (h : Dsk w S g d) (hf : f = 0 ∨ f = 1) (hl : AllB l) (hm : m = l.length) (hr : Rd w w.heap.size X (BB l)) (hx : ∀ x, X = some x → BB l ≠ [] → x.block ≠ g) (hsz : l.length ≤ 140737488355000) :
    Calls Tryd.prog 33 #[.pointer (some ⟨g, 0, none⟩), .int .i64 f, .slice X m c] w (Does S g w (writeM d f l).1 (.int .i64 ((writeM d f l).2 : Int))) := by
  subst hm
  have hfb : -9223372036854775808 ≤ f ∧ f ≤ 9223372036854775807 := by omega
  have CA := kept (app_any S g d f X l.length c l w h hfb hl rfl hr hx hsz)
  have HE : Kept (writeM d f l = if (d.appM f l).2 ≠ 0 then d.appM f l else (d.appM f l).1.syncM f) := ⟨rfl⟩
  have CS := kept (fun (S1 : Nat → Prop) (W : World) (h1 : Dsk W S1 g (d.appM f l).1) => sync_any S1 g (d.appM f l).1 f W h1 hfb)
  have CS2 : Kept ((d.appM f l).1.syncM f = (d.appM f l).1.syncM f) := ⟨rfl⟩
  clear h hr hx
  generalize d.appM f l = r at *
  obtain ⟨d1, e1⟩ := r
  dsimp only at *
  by_cases he : e1 = 0
  · subst he
    have HR : Kept (writeM d f l = d1.syncM f) := ⟨by rw [HE.out]; rfl⟩
    go_enter Tryd.func33, Tryd.ntmps33
    go_wp2_with fail
    refine CA.out.mono ?_
    rintro e w1 ⟨rfl, S1, hD1, hG1⟩
    go_wp2_with fail
    refine (CS.out _ _ hD1).mono ?_
    rintro e w2 ⟨rfl, S2, hD2, hG2⟩
    go_wp2_with fail
    go_ret
    rw [HR.out]
    exact ⟨rfl, S2, hD2, hG1.trans hG2⟩
  · have HR : Kept (writeM d f l = (d1, e1)) := ⟨by rw [HE.out, if_pos he]⟩
    have heb : ((e1 : Int) != 0) = true := by simpa using he
    go_enter Tryd.func33, Tryd.ntmps33
    go_wp2_with fail
    refine CA.out.mono ?_
    rintro e w1 ⟨rfl, S1, hD1, hG1⟩
    go_wp2_with fail
    go_ret
    rw [HR.out]
    exact ⟨rfl, S1, hD1, hG1⟩
/-- a journal's own cells -/
def JC (g : Nat) (f : Int) (gen : Nat) : List Value := [.pointer (some ⟨g, 0, none⟩), .int .i64 f, .int .u64 (gen : Int)]
set_option maxHeartbeats 2000000 in
theorem clean_any (S : Nat → Prop) (g : Nat) (d : DS) (gj : Nat) (f : Int) (gen fin : Nat) (w : World) (h : Dsk w S g d) (hk : Blk w gj (JC g f gen) 33) (hgj : ¬ S gj) (hf : f = 0 ∨ f = 1) :
    Calls Tryd.prog 39 #[.pointer (some ⟨gj, 0, none⟩), .int .i64 (fin : Int)] w (Does S g w (cleanM d f fin).1 (.int .i64 ((cleanM d f fin).2 : Int))) := by
  have hfb : -9223372036854775808 ≤ f ∧ f ≤ 9223372036854775807 := by omega
  have CR := kept (fun (W : World) (h1 : Dsk W S g d) => read_any S g d f W h1 hfb)
  rw [readM_b hf] at CR
  have hfe : 1 - f = 0 ∨ 1 - f = 1 := by omega
  have HE : Kept (cleanM d f fin = clean2 (if fin < (d.b f).length then d.cutM f fin else (d, 0)) f) := ⟨rfl⟩
  have HC2 : Kept (∀ r, clean2 r f = if r.2 ≠ 0 then r else emptyM r.1 (1 - f)) := ⟨fun _ => rfl⟩
  have HN := kept (fun (W : World) (hb : Below w.heap.size w W) => dsk_next h hb)
  have CE := kept (fun (S1 : Nat → Prop) (d1 : DS) (W : World) (h1 : Dsk W S1 g d1) => empty_any S1 g d1 (1 - f) W h1 hfe)
  have CC := kept (fun (W : World) (h1 : Dsk W S g d) => cut_any S g d f fin W h1 hfb)
  generalize d.b f = l at *
  have c0 := hk.cell (j := 0) rfl
  have c1 := hk.cell (j := 1) rfl
  have HD0 := kept (dsk_next h ((Below.refl w.heap.size w).drew))
  have hlt := hk.lt
  have hw1 : IntKind.i64.wrap (1 - f) = 1 - f := IntWalk.i64_in _ (by omega)
  have HK := kept hk
  clear h hk
  by_cases hlf : fin < l.length
  · rw [if_pos hlf] at HE
    have hlf' : (fin : Int) < (l.length : Int) := by omega
    go_enter Tryd.func39, Tryd.ntmps39
    go_wp2_with fail
    go_cut [17] (fun p wr => p = .bool true ∧ Below w.heap.size w wr)
    case first =>
      go_region_with (go_at_call 32; refine (CR.out _ HD0.out).mono ?_; rintro e w1 ⟨A, c, rfl, hown, hc, hb⟩; clear hown)
      all_goals go_wp2_with fail
      all_goals go_meet
      all_goals exact ⟨rfl, (Below.refl w.heap.size w).drew.trans hb⟩
    case rest =>
      obtain ⟨rfl, hb1⟩ := hcut
      obtain ⟨w1, rfl⟩ : ∃ w1 : World, w1 = wc := ⟨_, rfl⟩
      have k1 := HK.out.next hb1
      have c0 := k1.cell (j := 0) rfl
      have c1 := k1.cell (j := 1) rfl
      have HD1 := kept (dsk_next (HN.out _ hb1) ((Below.refl w1.heap.size w1).drew))
      clear CR HD0
      obtain ⟨d1, he1⟩ : ∃ r, d.cutM f fin = r := ⟨_, rfl⟩
      rw [he1] at HE CC
      have HG := kept (goes_below (S := S) hb1)
      have HU := kept (fun (S1 : Nat → Prop) (W : World) (h : Goes S w S1 W) => HK.out.upd h.1 hgj)
      obtain ⟨d1, e1⟩ := d1
      dsimp only at CC
      clear he1 k1
      go_wp2_with fail
      go_cut [5] (fun p wr => p = .int .i64 (e1 : Int) ∧ ∃ S1, Dsk wr S1 g d1 ∧ Goes S w S1 wr)
      case first =>
        go_region_with (go_at_call 37; refine (CC.out _ HD1.out).mono ?_; rintro e w2 ⟨rfl, S2, hD2, hG2⟩)
        all_goals go_wp2_with fail
        all_goals go_meet
        all_goals exact ⟨rfl, S2, hD2, HG.out.trans ((goes_below (Below.refl w1.heap.size w1).drew).trans hG2)⟩
      case rest =>
        obtain ⟨rfl, S1, hD1, hG1⟩ := hcut
        obtain ⟨w2, rfl⟩ : ∃ w2 : World, w2 = wc := ⟨_, rfl⟩
        by_cases he : e1 = 0
        · subst he
          have HR : Kept (cleanM d f fin = emptyM d1 (1 - f)) := ⟨by rw [HE.out, HC2.out]; rfl⟩
          have k2 := HU.out _ _ hG1
          have c0 := k2.cell (j := 0) rfl
          have c1 := k2.cell (j := 1) rfl
          have HD2 := kept (dsk_next hD1 ((Below.refl w2.heap.size w2).drew))
          have CE1 := kept (CE.out _ _ _ HD2.out)
          clear k2 CE CC HC2 HE
          go_wp2_with fail
          go_region_with (go_at_call 35; refine CE1.out.mono ?_; rintro e w3 ⟨rfl, S3, hD3, hG3⟩)
          all_goals go_wp2_with fail
          all_goals go_ret
          all_goals rw [HR.out]
          all_goals exact ⟨rfl, S3, hD3, hG1.trans ((goes_below (Below.refl w2.heap.size w2).drew).trans hG3)⟩
        · have HR : Kept (cleanM d f fin = (d1, e1)) := ⟨by rw [HE.out, HC2.out, if_pos he]⟩
          have heb : ((e1 : Int) != 0) = true := by simpa using he
          go_wp2_with fail
          go_ret
          rw [HR.out]
          exact ⟨rfl, S1, hD1, hG1⟩
  · rw [if_neg hlf] at HE
    have HR : Kept (cleanM d f fin = emptyM d (1 - f)) := ⟨by rw [HE.out, HC2.out]; rfl⟩
    have hlf' : ¬ (fin : Int) < (l.length : Int) := by omega
    go_enter Tryd.func39, Tryd.ntmps39
    go_wp2_with fail
    go_cut [17] (fun p wr => p = .bool false ∧ Below w.heap.size w wr)
    case first =>
      go_region_with (go_at_call 32; refine (CR.out _ HD0.out).mono ?_; rintro e w1 ⟨A, c, rfl, hown, hc, hb⟩; clear hown)
      all_goals go_wp2_with fail
      all_goals go_meet
      all_goals exact ⟨rfl, (Below.refl w.heap.size w).drew.trans hb⟩
    case rest =>
      obtain ⟨rfl, hb1⟩ := hcut
      obtain ⟨w1, rfl⟩ : ∃ w1 : World, w1 = wc := ⟨_, rfl⟩
      have k1 := HK.out.next hb1
      have c0 := k1.cell (j := 0) rfl
      have c1 := k1.cell (j := 1) rfl
      have HD1 := kept (dsk_next (HN.out _ hb1) ((Below.refl w1.heap.size w1).drew))
      have HG := kept (goes_below (S := S) hb1)
      have CE1 := kept (CE.out _ _ _ HD1.out)
      clear CR HD0 k1 CE CC HC2 HE
      go_wp2_with fail
      go_region_with (go_at_call 35; refine CE1.out.mono ?_; rintro e w3 ⟨rfl, S3, hD3, hG3⟩)
      all_goals go_wp2_with fail
      all_goals go_ret
      all_goals rw [HR.out]
      all_goals exact ⟨rfl, S3, hD3, HG.out.trans ((goes_below (Below.refl w1.heap.size w1).drew).trans hG3)⟩
end Go.Proofs.YtdlghabpnpbebaaDoor.Jrn
