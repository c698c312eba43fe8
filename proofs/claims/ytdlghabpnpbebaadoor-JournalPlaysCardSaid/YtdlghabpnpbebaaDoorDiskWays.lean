import Derived.Test.YtdlghabpnpbebaaDoorDiskCalls
import Derived.Deep.RegionHeld3
import Derived.Deep.RegionWith
import Derived.Deep.RegionLaw
import Derived.Deep.DeepCutAuto
/- Layer 22 (disk): the walk of Append. -/
namespace Go.Proofs.YtdlghabpnpbebaaDoor.Disk
open Go.RowKit Go.Proofs.YtdlghabpnpbebaaDoor.Mem

theorem app_no (S : Nat → Prop) (g : Nat) (d : DS) (f : Int) (X : Option Addr) (m c : Nat) (w : World) (h : Dsk w S g d) (hf : -9223372036854775808 ≤ f ∧ f ≤ 9223372036854775807) (hi : isF f = false) :
    Calls Tryd.prog 54 #[.pointer (some ⟨g, 0, none⟩), .int .i64 f, .slice X m c] w (Does S g w d (.int .i64 1)) := by
  have HD := kept h
  obtain ⟨-, -, -, A0, c0, A1, c1, hk, -⟩ := h
  have h0 : w.cell? ⟨g, 0, none⟩ = some (.bool true) := hk.cell (j := 0) rfl
  have C := kept (write_no g true false w h0 (.inr rfl))
  have C2 := is_any f w hf
  rw [hi] at C2
  have C2 := kept C2
  clear hk
  go_enter Tryd.func54, Tryd.ntmps54
  go_wp2_with fail
  refine C2.out.mono ?_
  rintro e w' ⟨rfl, rfl⟩
  go_wp2_with fail
  refine C.out.mono ?_
  rintro e w' ⟨rfl, rfl⟩
  go_wp2
  go_ret
  exact Does.stay HD.out (Upd.refl _ _)
theorem grew_in {S : Nat → Prop} {w1 w2 : World} {g : Nat} {A0 A' A1 : Option Addr} {n0 c0 c' c1 : Nat} {r l1 : List Nat} (h : Files w2 (fun k => S k ∨ ∃ x, A' = some x ∧ x.block = k) g A' c' r A1 c1 l1) (hx : ∀ x, A' = some x → (Value.slice A0 n0 c0).ownBlock = some x.block ∨ w1.heap.size ≤ x.block) (h0 : ∀ x, A0 = some x → S x.block) :
    ∀ k, (S k ∨ ∃ x, A' = some x ∧ x.block = k) → S k ∨ (w1.heap.size ≤ k ∧ k < w2.heap.size) := by
  rintro k (hk | ⟨x, rfl, rfl⟩)
  · exact .inl hk
  · rcases hx x rfl with h1 | h1
    · obtain ⟨y, hy, hz⟩ := ob_some h1
      rw [← hz]; exact .inl (h0 y hy)
    · exact .inr ⟨h1, h.1.lt x.block rfl⟩
theorem grew {S S' : Nat → Prop} {w w1 w2 : World} {g j : Nat} {v : Value} {A0 A1 : Option Addr} {c0 c1 : Nat} {d : DS} {r : Value} (hg : S g) (hS : ∀ k, S k → k < w1.heap.size) (hu : Upd S w w1) (hu2 : Upd (fun k => S k ∧ k ≠ g) w1.drew w2)
    (hk : Blk (w2.setCell ⟨g, j, none⟩ v) g (DC d A0 c0 A1 c1) 85) (hf : Files (w2.setCell ⟨g, j, none⟩ v) S' g A0 c0 d.b0 A1 c1 d.b1) (hS' : ∀ k, S' k → S k ∨ (w1.heap.size ≤ k ∧ k < w2.heap.size)) (hgS : S' g) (hok : d.Ok) :
    Does S g w d r (.returned r) (w2.setCell ⟨g, j, none⟩ v) := by
  have hs : w1.heap.size ≤ w2.heap.size := hu2.size
  refine ⟨rfl, S', ⟨hok, hgS, fun k hk => ?_, A0, c0, A1, c1, hk, hf⟩, (hu.drew.trans (hu2.mono fun _ _ h => h.1)).setCell (.inl hg) _, fun k hk => ?_⟩
  · have : (w2.setCell ⟨g, j, none⟩ v).heap.size = w2.heap.size := by simp [World.setCell]
    rw [this]
    rcases hS' k hk with h | ⟨h, h2⟩
    · have := hS k h; omega
    · exact h2
  · rcases hS' k hk with h | ⟨h, h2⟩
    · exact .inl h
    · exact .inr (Nat.le_trans hu.size h)
theorem app_0 (S : Nat → Prop) (g : Nat) (d : DS) (X : Option Addr) (m c : Nat) (l : List Nat) (w : World) (h : Dsk w S g d) (hl : AllB l) (hm : m = l.length) (hr : Rd w w.heap.size X (BB l)) (hx : ∀ x, X = some x → BB l ≠ [] → x.block ≠ g) (hsz : l.length ≤ 140737488355000) :
    Calls Tryd.prog 54 #[.pointer (some ⟨g, 0, none⟩), .int .i64 0, .slice X m c] w (Does S g w (d.appM 0 l).1 (.int .i64 ((d.appM 0 l).2 : Int))) := by
  subst hm
  have C := kept (write_yes S g d w h)
  have C2 := kept (is_any 0 w (by decide))
  have hsw := h.under
  have hgw := h.2.1
  obtain ⟨e, he⟩ : ∃ e, d.burn = e := ⟨_, rfl⟩
  have HE : Kept (d.appM 0 l = (if e.down = true then (e, 14) else if e.room < e.used + l.length then (e, 8) else (⟨e.b0 ++ l, e.s0, e.b1, e.s1, e.room, e.fuse, e.down⟩, 0))) := ⟨by rw [← he]; rfl⟩
  generalize d.appM 0 l = r at *
  rw [he] at C
  clear he h
  rw [show isF 0 = true from rfl] at C2
  have HR := kept (fun (W : World) (hu : Upd (fun k => k = g) w W) => (hr.updN hu (Nat.le_refl _) hx).more hu.size)
  clear hr hx
  go_enter Tryd.func54, Tryd.ntmps54
  go_wp2_with fail
  refine C2.out.mono ?_
  rintro e w' ⟨rfl, rfl⟩
  go_wp2_with fail
  refine C.out.mono ?_
  rintro e1 w1 ⟨rfl, hD, hu⟩
  have hr1 := HR.out w1 hu
  have HU := kept (hu.mono (T := S) fun i _ hi => by subst hi; exact hgw)
  have HD := kept hD
  obtain ⟨b0, s0, b1, s1, room, fuse, down⟩ := e
  cases down with
  | true =>
    obtain rfl : r = (_, 14) := HE.out
    go_wp2
    go_ret
    exact Does.stay HD.out HU.out
  | false =>
    have CU := kept (fun n => used_any S g _ (w1.drewN n) hD)
    have hok := hD.ok
    obtain ⟨-, hg, hS, A0, c0, A1, c1, hk, hfl⟩ := hD
    have h2 : w1.cell? ⟨g, 2, none⟩ = some (.slice A0 b0.length c0) := hk.cell (j := 2) rfl
    have h6 : w1.cell? ⟨g, 6, none⟩ = some (.int .i64 (room : Int)) := hk.cell (j := 6) rfl
    have hlt := hk.lt
    have hz2 := hk.frozen 2
    have hrm : room ≤ 1048576 := hok.2.2.2.2.2.1
    have hus : b0.length + b1.length ≤ 1048576 := hok.2.2.2.2.1
    have hue : DS.used ⟨b0, s0, b1, s1, room, fuse, false⟩ = b0.length + b1.length := rfl
    rw [hue] at CU
    by_cases hroom : room < b0.length + b1.length + l.length
    · have hr8 : r = (⟨b0, s0, b1, s1, room, fuse, false⟩, 8) := by rw [HE.out, hue, if_neg (by simp), if_pos hroom]
      subst hr8
      clear hk hfl h2 hue HE
      generalize b0.length + b1.length = U at *
      go_wp2
      go_quiet ((go_at_call 51; exact Calls.quiet_of (CU.out _)))
      go_wp2
      go_ret
      exact Does.stay (HD.out.drewN _) (HU.out.drewN _)
    · have hr0 : r = (⟨b0 ++ l, s0, b1, s1, room, fuse, false⟩, 0) := by rw [HE.out, hue, if_neg (by simp), if_neg hroom]
      subst hr0
      have hz : b0.length + l.length ≤ 140737488355328 := by omega
      have HFL := kept (fun n => show Files (w1.drewN n) S g A0 c0 b0 A1 c1 b1 from hfl)
      have HK := kept (fun n => hk.drewN n)
      have HR1 := kept (fun n => hr1.drewN n)
      have HUZ := kept (fun n => HU.out.drewN n)
      have HC := kept (fun n => show (w1.drewN n).cell? ⟨g, 2, none⟩ = some (.slice A0 b0.length c0) from h2)
      clear hk hfl hue HE hr1 HD HU hz2
      have hroom2 : l.length ≤ room - (b0.length + b1.length) := by omega
      go_wp2
      go_quiet ((go_at_call 51; exact Calls.quiet_of (CU.out _)))
      go_wp2
      have hfz := HFL.out nq
      have hkz := HK.out nq
      have hrz := HR1.out nq
      have huz := HUZ.out nq
      have hcz := HC.out nq
      have hsz' : w1.heap.size = (w1.drewN nq).heap.size := rfl
      rw [hsz'] at hrz hlt hS
      clear HFL HK HR1 HUZ HC h2 h6 CU hsz'
      generalize w1.drewN nq = wz at *
      have ho0 := kept (show FOwn wz.drew (.slice A0 b0.length c0) b0 from hfz.1)
      have hr0 := kept hrz.drew
      have hfd := kept (show Files wz.drew S g A0 c0 b0 A1 c1 b1 from hfz)
      have hkd := kept hkz.drew
      have hud := kept huz
      have hltd : g < wz.drew.heap.size := hlt
      have hfz2 : ∀ x, A0 = some x → S x.block := fun x hx => (hfz.2.2.1 x hx).1
      clear hfz hkz hrz huz
      go_region_law ((refine step_appF _ (by rfl) (.tmp 33) (.tmp 34) (by rfl) _ b0 (by rfl) ho0.out wz.heap.size X _ c l (by rfl) rfl hr0.out hz ?_; intro A2 c2 w2 r2 hr2 hown2 hg2 hx2; have hfs := hfd.out.grown hltd hown2 hg2 hx2; have hkn := kept (hkd.out.upd hfs.2 (fun h => h.2 rfl)); have hl2 := hkn.out.lt; have hc2 : w2.cell? ⟨g, 2, none⟩ = some (.slice A0 b0.length c0) := hkn.out.cell (j := 2) rfl; have hf2 := hkn.out.frozen 2; have HFS := kept hfs; have HX2 := kept (grew_in hfs.1 hx2 hfz2); have HR2 := kept hr2.out; clear hfs hg2 hx2 hr2))
      all_goals
        go_wp2
        go_ret
        obtain rfl : r2 = b0 ++ l := HR2.out
        exact grew hg hS hud.out HFS.out.2 (hkn.out.set 2 _) (HFS.out.1.set 2 _) HX2.out (.inl hg) ⟨app_all hok.1 hl, hok.2.1, Nat.le_trans hok.2.2.1 (by simp), hok.2.2.2.1, by show (b0 ++ l).length + b1.length ≤ _; rw [List.length_append]; omega, hok.2.2.2.2.2⟩
theorem app_1 (S : Nat → Prop) (g : Nat) (d : DS) (X : Option Addr) (m c : Nat) (l : List Nat) (w : World) (h : Dsk w S g d) (hl : AllB l) (hm : m = l.length) (hr : Rd w w.heap.size X (BB l)) (hx : ∀ x, X = some x → BB l ≠ [] → x.block ≠ g) (hsz : l.length ≤ 140737488355000) :
    Calls Tryd.prog 54 #[.pointer (some ⟨g, 0, none⟩), .int .i64 1, .slice X m c] w (Does S g w (d.appM 1 l).1 (.int .i64 ((d.appM 1 l).2 : Int))) := by
  subst hm
  have C := kept (write_yes S g d w h)
  have C2 := kept (is_any 1 w (by decide))
  have hsw := h.under
  have hgw := h.2.1
  obtain ⟨e, he⟩ : ∃ e, d.burn = e := ⟨_, rfl⟩
  have HE : Kept (d.appM 1 l = (if e.down = true then (e, 14) else if e.room < e.used + l.length then (e, 8) else (⟨e.b0, e.s0, e.b1 ++ l, e.s1, e.room, e.fuse, e.down⟩, 0))) := ⟨by rw [← he]; rfl⟩
  generalize d.appM 1 l = r at *
  rw [he] at C
  clear he h
  rw [show isF 1 = true from rfl] at C2
  have HR := kept (fun (W : World) (hu : Upd (fun k => k = g) w W) => (hr.updN hu (Nat.le_refl _) hx).more hu.size)
  clear hr hx
  go_enter Tryd.func54, Tryd.ntmps54
  go_wp2_with fail
  refine C2.out.mono ?_
  rintro e w' ⟨rfl, rfl⟩
  go_wp2_with fail
  refine C.out.mono ?_
  rintro e1 w1 ⟨rfl, hD, hu⟩
  have hr1 := HR.out w1 hu
  have HU := kept (hu.mono (T := S) fun i _ hi => by subst hi; exact hgw)
  have HD := kept hD
  obtain ⟨b0, s0, b1, s1, room, fuse, down⟩ := e
  cases down with
  | true =>
    obtain rfl : r = (_, 14) := HE.out
    go_wp2
    go_ret
    exact Does.stay HD.out HU.out
  | false =>
    have CU := kept (fun n => used_any S g _ (w1.drewN n) hD)
    have hok := hD.ok
    obtain ⟨-, hg, hS, A0, c0, A1, c1, hk, hfl⟩ := hD
    have h2 : w1.cell? ⟨g, 4, none⟩ = some (.slice A1 b1.length c1) := hk.cell (j := 4) rfl
    have h6 : w1.cell? ⟨g, 6, none⟩ = some (.int .i64 (room : Int)) := hk.cell (j := 6) rfl
    have hlt := hk.lt
    have hz2 := hk.frozen 4
    have hrm : room ≤ 1048576 := hok.2.2.2.2.2.1
    have hus : b0.length + b1.length ≤ 1048576 := hok.2.2.2.2.1
    have hue : DS.used ⟨b0, s0, b1, s1, room, fuse, false⟩ = b0.length + b1.length := rfl
    rw [hue] at CU
    by_cases hroom : room < b0.length + b1.length + l.length
    · have hr8 : r = (⟨b0, s0, b1, s1, room, fuse, false⟩, 8) := by rw [HE.out, hue, if_neg (by simp), if_pos hroom]
      subst hr8
      clear hk hfl h2 hue HE
      generalize b0.length + b1.length = U at *
      go_wp2
      go_quiet ((go_at_call 51; exact Calls.quiet_of (CU.out _)))
      go_wp2
      go_ret
      exact Does.stay (HD.out.drewN _) (HU.out.drewN _)
    · have hr0 : r = (⟨b0, s0, b1 ++ l, s1, room, fuse, false⟩, 0) := by rw [HE.out, hue, if_neg (by simp), if_neg hroom]
      subst hr0
      have hz : b1.length + l.length ≤ 140737488355328 := by omega
      have HFL := kept (fun n => show Files (w1.drewN n) S g A1 c1 b1 A0 c0 b0 from hfl.swap)
      have HK := kept (fun n => hk.drewN n)
      have HR1 := kept (fun n => hr1.drewN n)
      have HUZ := kept (fun n => HU.out.drewN n)
      have HC := kept (fun n => show (w1.drewN n).cell? ⟨g, 4, none⟩ = some (.slice A1 b1.length c1) from h2)
      clear hk hfl hue HE hr1 HD HU hz2
      have hroom2 : l.length ≤ room - (b0.length + b1.length) := by omega
      go_wp2
      go_quiet ((go_at_call 51; exact Calls.quiet_of (CU.out _)))
      go_wp2
      have hfz := HFL.out nq
      have hkz := HK.out nq
      have hrz := HR1.out nq
      have huz := HUZ.out nq
      have hcz := HC.out nq
      have hsz' : w1.heap.size = (w1.drewN nq).heap.size := rfl
      rw [hsz'] at hrz hlt hS
      clear HFL HK HR1 HUZ HC h2 h6 CU hsz'
      generalize w1.drewN nq = wz at *
      have ho0 := kept (show FOwn wz.drew (.slice A1 b1.length c1) b1 from hfz.1)
      have hr0 := kept hrz.drew
      have hfd := kept (show Files wz.drew S g A1 c1 b1 A0 c0 b0 from hfz)
      have hkd := kept hkz.drew
      have hud := kept huz
      have hltd : g < wz.drew.heap.size := hlt
      have hfz2 : ∀ x, A1 = some x → S x.block := fun x hx => (hfz.2.2.1 x hx).1
      clear hfz hkz hrz huz
      go_region_law ((refine step_appF _ (by rfl) (.tmp 33) (.tmp 34) (by rfl) _ b1 (by rfl) ho0.out wz.heap.size X _ c l (by rfl) rfl hr0.out hz ?_; intro A2 c2 w2 r2 hr2 hown2 hg2 hx2; have hfs := hfd.out.grown hltd hown2 hg2 hx2; have hkn := kept (hkd.out.upd hfs.2 (fun h => h.2 rfl)); have hl2 := hkn.out.lt; have hc2 : w2.cell? ⟨g, 4, none⟩ = some (.slice A1 b1.length c1) := hkn.out.cell (j := 4) rfl; have hf2 := hkn.out.frozen 4; have HFS := kept hfs; have HX2 := kept (grew_in hfs.1 hx2 hfz2); have HR2 := kept hr2.out; clear hfs hg2 hx2 hr2))
      all_goals
        go_wp2
        go_ret
        obtain rfl : r2 = b1 ++ l := HR2.out
        exact grew hg hS hud.out HFS.out.2 (hkn.out.set 4 _) (HFS.out.1.swap.set 4 _) HX2.out (.inl hg) ⟨hok.1, app_all hok.2.1 hl, hok.2.2.1, Nat.le_trans hok.2.2.2.1 (by simp), by show b0.length + (b1 ++ l).length ≤ _; rw [List.length_append]; omega, hok.2.2.2.2.2⟩
theorem app_any (S : Nat → Prop) (g : Nat) (d : DS) (f : Int) (X : Option Addr) (m c : Nat) (l : List Nat) (w : World) (h : Dsk w S g d) (hf : -9223372036854775808 ≤ f ∧ f ≤ 9223372036854775807) (hl : AllB l) (hm : m = l.length) (hr : Rd w w.heap.size X (BB l)) (hx : ∀ x, X = some x → BB l ≠ [] → x.block ≠ g) (hsz : l.length ≤ 140737488355000) :
    Calls Tryd.prog 54 #[.pointer (some ⟨g, 0, none⟩), .int .i64 f, .slice X m c] w (Does S g w (d.appM f l).1 (.int .i64 ((d.appM f l).2 : Int))) := by
  by_cases h0 : f = 0
  · subst h0; exact app_0 S g d X m c l w h hl hm hr hx hsz
  · by_cases h1 : f = 1
    · subst h1; exact app_1 S g d X m c l w h hl hm hr hx hsz
    · have hi : isF f = false := by simp [isF, h0, h1]
      have he : d.appM f l = (d, 1) := by unfold DS.appM; rw [hi]; rfl
      rw [he]
      exact app_no S g d f X m c w h hf hi
end Go.Proofs.YtdlghabpnpbebaaDoor.Disk

/- Layer 22 (disk): the walk of Sync. -/
namespace Go.Proofs.YtdlghabpnpbebaaDoor.Disk
open Go.RowKit Go.Proofs.YtdlghabpnpbebaaDoor.Mem

theorem sync_no (S : Nat → Prop) (g : Nat) (d : DS) (f : Int) (w : World) (h : Dsk w S g d) (hf : -9223372036854775808 ≤ f ∧ f ≤ 9223372036854775807) (hi : isF f = false) :
    Calls Tryd.prog 55 #[.pointer (some ⟨g, 0, none⟩), .int .i64 f] w (Does S g w d (.int .i64 1)) := by
  have HD := kept h
  obtain ⟨-, -, -, A0, c0, A1, c1, hk, -⟩ := h
  have h0 : w.cell? ⟨g, 0, none⟩ = some (.bool true) := hk.cell (j := 0) rfl
  have C := kept (write_no g true false w h0 (.inr rfl))
  have C2 := is_any f w hf
  rw [hi] at C2
  have C2 := kept C2
  clear hk
  go_enter Tryd.func55, Tryd.ntmps55
  go_wp2_with fail
  refine C2.out.mono ?_
  rintro e w' ⟨rfl, rfl⟩
  go_wp2_with fail
  refine C.out.mono ?_
  rintro e w' ⟨rfl, rfl⟩
  go_wp2
  go_ret
  exact Does.stay HD.out (Upd.refl _ _)
theorem sync_0 (S : Nat → Prop) (g : Nat) (d : DS) (w : World) (h : Dsk w S g d) :
    Calls Tryd.prog 55 #[.pointer (some ⟨g, 0, none⟩), .int .i64 0] w (Does S g w (d.syncM 0).1 (.int .i64 ((d.syncM 0).2 : Int))) := by
  have C := kept (write_yes S g d w h)
  have C2 := kept (is_any 0 w (by decide))
  have hsw := h.under
  have hgw := h.2.1
  obtain ⟨e, he⟩ : ∃ e, d.burn = e := ⟨_, rfl⟩
  have HE : Kept (d.syncM 0 = (if e.down = true then (e, 14) else (⟨e.b0, e.b0.length, e.b1, e.s1, e.room, e.fuse, e.down⟩, 0))) := ⟨by rw [← he]; rfl⟩
  generalize d.syncM 0 = r at *
  rw [he] at C
  clear he h
  rw [show isF 0 = true from rfl] at C2
  go_enter Tryd.func55, Tryd.ntmps55
  go_wp2_with fail
  refine C2.out.mono ?_
  rintro e w' ⟨rfl, rfl⟩
  go_wp2_with fail
  refine C.out.mono ?_
  rintro e1 w1 ⟨rfl, hD, hu⟩
  have HU := kept (hu.mono (T := S) fun i _ hi => by subst hi; exact hgw)
  have HD := kept hD
  obtain ⟨b0, s0, b1, s1, room, fuse, down⟩ := e
  cases down with
  | true =>
    obtain rfl : r = (_, 14) := HE.out
    go_wp2
    go_ret
    exact Does.stay HD.out HU.out
  | false =>
    obtain rfl : r = (⟨b0, b0.length, b1, s1, room, fuse, false⟩, 0) := HE.out
    have hok := hD.ok
    obtain ⟨-, hg, hS, A0, c0, A1, c1, hk, hfl⟩ := hD
    have h2 : w1.cell? ⟨g, 2, none⟩ = some (.slice A0 b0.length c0) := hk.cell (j := 2) rfl
    have h3 : w1.cell? ⟨g, 3, none⟩ = some (.int .i64 (s0 : Int)) := hk.cell (j := 3) rfl
    have hlt := hk.lt
    have hz3 := hk.frozen 3
    have hus : b0.length + b1.length ≤ 1048576 := hok.2.2.2.2.1
    have HFL := kept hfl
    have HK := kept hk
    have HS := kept hS
    clear hk hfl HD hS HE
    go_wp2
    go_region_law (fail)
    all_goals
      go_wp2
      go_ret
      refine ⟨rfl, S, ⟨⟨hok.1, hok.2.1, Nat.le_refl _, hok.2.2.2.1, hok.2.2.2.2.1, hok.2.2.2.2.2⟩, hg, (fun k hk => by have := HS.out k hk; simpa [World.setCell] using this), A0, c0, A1, c1, HK.out.drew.set 3 _, Files.set (w := w1.drew) HFL.out 3 _⟩, HU.out.drew.setCell (p := ⟨g, 3, none⟩) (.inl hg) _, fun k h => .inl h⟩
theorem sync_1 (S : Nat → Prop) (g : Nat) (d : DS) (w : World) (h : Dsk w S g d) :
    Calls Tryd.prog 55 #[.pointer (some ⟨g, 0, none⟩), .int .i64 1] w (Does S g w (d.syncM 1).1 (.int .i64 ((d.syncM 1).2 : Int))) := by
  have C := kept (write_yes S g d w h)
  have C2 := kept (is_any 1 w (by decide))
  have hsw := h.under
  have hgw := h.2.1
  obtain ⟨e, he⟩ : ∃ e, d.burn = e := ⟨_, rfl⟩
  have HE : Kept (d.syncM 1 = (if e.down = true then (e, 14) else (⟨e.b0, e.s0, e.b1, e.b1.length, e.room, e.fuse, e.down⟩, 0))) := ⟨by rw [← he]; rfl⟩
  generalize d.syncM 1 = r at *
  rw [he] at C
  clear he h
  rw [show isF 1 = true from rfl] at C2
  go_enter Tryd.func55, Tryd.ntmps55
  go_wp2_with fail
  refine C2.out.mono ?_
  rintro e w' ⟨rfl, rfl⟩
  go_wp2_with fail
  refine C.out.mono ?_
  rintro e1 w1 ⟨rfl, hD, hu⟩
  have HU := kept (hu.mono (T := S) fun i _ hi => by subst hi; exact hgw)
  have HD := kept hD
  obtain ⟨b0, s0, b1, s1, room, fuse, down⟩ := e
  cases down with
  | true =>
    obtain rfl : r = (_, 14) := HE.out
    go_wp2
    go_ret
    exact Does.stay HD.out HU.out
  | false =>
    obtain rfl : r = (⟨b0, s0, b1, b1.length, room, fuse, false⟩, 0) := HE.out
    have hok := hD.ok
    obtain ⟨-, hg, hS, A0, c0, A1, c1, hk, hfl⟩ := hD
    have h2 : w1.cell? ⟨g, 4, none⟩ = some (.slice A1 b1.length c1) := hk.cell (j := 4) rfl
    have h3 : w1.cell? ⟨g, 5, none⟩ = some (.int .i64 (s1 : Int)) := hk.cell (j := 5) rfl
    have hlt := hk.lt
    have hz3 := hk.frozen 5
    have hus : b0.length + b1.length ≤ 1048576 := hok.2.2.2.2.1
    have HFL := kept hfl
    have HK := kept hk
    have HS := kept hS
    clear hk hfl HD hS HE
    go_wp2
    go_region_law (fail)
    all_goals
      go_wp2
      go_ret
      refine ⟨rfl, S, ⟨⟨hok.1, hok.2.1, hok.2.2.1, Nat.le_refl _, hok.2.2.2.2.1, hok.2.2.2.2.2⟩, hg, (fun k hk => by have := HS.out k hk; simpa [World.setCell] using this), A0, c0, A1, c1, HK.out.drew.set 5 _, Files.set (w := w1.drew) HFL.out 5 _⟩, HU.out.drew.setCell (p := ⟨g, 5, none⟩) (.inl hg) _, fun k h => .inl h⟩
theorem sync_any (S : Nat → Prop) (g : Nat) (d : DS) (f : Int) (w : World) (h : Dsk w S g d) (hf : -9223372036854775808 ≤ f ∧ f ≤ 9223372036854775807) :
    Calls Tryd.prog 55 #[.pointer (some ⟨g, 0, none⟩), .int .i64 f] w (Does S g w (d.syncM f).1 (.int .i64 ((d.syncM f).2 : Int))) := by
  by_cases h0 : f = 0
  · subst h0; exact sync_0 S g d w h
  · by_cases h1 : f = 1
    · subst h1; exact sync_1 S g d w h
    · have hi : isF f = false := by simp [isF, h0, h1]
      have he : d.syncM f = (d, 1) := by unfold DS.syncM; rw [hi]; rfl
      rw [he]
      exact sync_no S g d f w h hf hi
end Go.Proofs.YtdlghabpnpbebaaDoor.Disk

/- Layer 22 (disk): the walk of Cut. -/
namespace Go.Proofs.YtdlghabpnpbebaaDoor.Disk
open Go.RowKit Go.Proofs.YtdlghabpnpbebaaDoor.Mem

/-- may a file be cut so? -/
def DS.cutOk (d : DS) (f n : Int) : Prop := isF f = true ∧ 0 ≤ n ∧ n ≤ (d.b f).length
theorem cut_no (S : Nat → Prop) (g : Nat) (d : DS) (f n : Int) (w : World) (h : Dsk w S g d) (hf : -9223372036854775808 ≤ f ∧ f ≤ 9223372036854775807) (hi : ¬ d.cutOk f n) :
    Calls Tryd.prog 37 #[.pointer (some ⟨g, 0, none⟩), .int .i64 f, .int .i64 n] w (Does S g w d (.int .i64 1)) := by
  have HD := kept h
  have CR := kept (read_any S g d f w h hf)
  obtain ⟨-, -, -, A0, c0, A1, c1, hk, -⟩ := h
  have h0 : w.cell? ⟨g, 0, none⟩ = some (.bool true) := hk.cell (j := 0) rfl
  have hlt := hk.lt
  have C := kept (fun W (hb : Below w.heap.size w W) => write_no g true false W ((hb.cell (p := ⟨g, 0, none⟩) hlt).trans h0) (.inr rfl))
  have C2 := is_any f w hf
  have C0 := kept (none_cell g true w h0)
  clear hk
  cases hfi : isF f with
  | false =>
    rw [hfi] at C2
    have C2 := kept C2
    clear hi
    go_enter Tryd.func37, Tryd.ntmps37
    go_wp2_with fail
    refine C0.out.mono ?_
    rintro e w' ⟨rfl, rfl⟩
    go_wp2_with fail
    refine C2.out.mono ?_
    rintro e w' ⟨rfl, rfl⟩
    go_wp2_with fail
    refine (C.out _ (Below.refl _ _)).mono ?_
    rintro e w' ⟨rfl, rfl⟩
    go_wp2
    go_ret
    exact Does.stay HD.out (Upd.refl _ _)
  | true =>
    rw [hfi] at C2
    have C2 := kept C2
    by_cases hn0 : 0 ≤ n
    · have hlen : ¬ n ≤ ((d.readM f).length : Int) := fun h => hi ⟨hfi, hn0, by rw [DS.readM, hfi, if_pos rfl] at h; exact h⟩
      clear hi
      generalize d.readM f = l at *
      go_enter Tryd.func37, Tryd.ntmps37
      go_wp2_with fail
      refine C0.out.mono ?_
      rintro e w' ⟨rfl, rfl⟩
      go_wp2_with fail
      refine C2.out.mono ?_
      rintro e w' ⟨rfl, rfl⟩
      go_wp2_with fail
      refine CR.out.mono ?_
      rintro e w1 ⟨A2, c2, rfl, -, -, hb⟩
      have C1 := kept (C.out _ hb)
      clear C
      have hdec : decide (n ≤ (l.length : Int)) = false := decide_eq_false (by omega)
      go_wp2_with fail
      refine C1.out.mono ?_
      rintro e w' ⟨rfl, rfl⟩
      go_wp2
      go_ret
      exact Does.stay (HD.out.next hb) (Upd.of_below hb)
    · clear hi
      go_enter Tryd.func37, Tryd.ntmps37
      go_wp2_with fail
      refine C0.out.mono ?_
      rintro e w' ⟨rfl, rfl⟩
      go_wp2_with fail
      refine C2.out.mono ?_
      rintro e w' ⟨rfl, rfl⟩
      go_wp2_with fail
      refine (C.out _ (Below.refl _ _)).mono ?_
      rintro e w' ⟨rfl, rfl⟩
      go_wp2
      go_ret
      exact Does.stay HD.out (Upd.refl _ _)
theorem fcut0 {w : World} {S : Nat → Prop} {g : Nat} {A0 A1 : Option Addr} {c0 c1 n : Nat} {b0 b1 : List Nat} (h : Files w S g A0 c0 b0 A1 c1 b1) (hn : n ≤ b0.length) (u v : Value) :
    Files ((w.setCell ⟨g, 2, none⟩ u).setCell ⟨g, 3, none⟩ v) S g A0 n (b0.take n) A1 c1 b1 := by
  refine Files.set (Files.set (w := w) ⟨?_, h.2⟩ 2 u) 3 v
  have := h.1.cut hn
  have hl : (b0.take n).length = n := by rw [List.length_take]; omega
  rw [hl]
  exact this
theorem cut_0 (S : Nat → Prop) (g : Nat) (d : DS) (n : Nat) (w : World) (h : Dsk w S g d) (hn : n ≤ d.b0.length) :
    Calls Tryd.prog 37 #[.pointer (some ⟨g, 0, none⟩), .int .i64 0, .int .i64 (n : Int)] w (Does S g w (d.cutM 0 (n : Int)).1 (.int .i64 ((d.cutM 0 (n : Int)).2 : Int))) := by
  have CR := kept (read_any S g d 0 w h (by decide))
  have CW := kept (fun W (hb : Below w.heap.size w W) => write_yes S g d W (h.next hb))
  have C2 := kept (is_any 0 w (by decide))
  have hlr : n ≤ (d.readM 0).length := hn
  have hb0 : d.burn.b0 = d.b0 := (burn_b d).1
  have hsw := h.under
  have hgw := h.2.1
  rw [← hb0] at hn
  have C0 : Calls Tryd.prog 40 #[.pointer (some ⟨g, 0, none⟩)] w fun e w' => e = .returned (.bool false) ∧ w = w' := by
    obtain ⟨-, -, -, A0, c0, A1, c1, hk, -⟩ := h
    exact none_cell g true w (hk.cell (j := 0) rfl)
  have C0 := kept C0
  obtain ⟨e, he⟩ : ∃ e, d.burn = e := ⟨_, rfl⟩
  have HE : Kept (d.cutM 0 (n : Int) = (if e.down = true then (e, 14) else (⟨e.b0.take n, n, e.b1, e.s1, e.room, e.fuse, e.down⟩, 0))) := ⟨by
    have hc : isF 0 = true ∧ (0 : Int) ≤ (n : Int) ∧ (n : Int) ≤ ((d.b 0).length : Int) := ⟨rfl, by omega, by have : n ≤ (d.b 0).length := hlr; omega⟩
    unfold DS.cutM
    rw [if_pos hc, ← he]; rfl⟩
  generalize d.cutM 0 (n : Int) = r at *
  rw [he] at CW hn
  generalize d.readM 0 = lr at *
  clear he h hb0
  rw [show isF 0 = true from rfl] at C2
  go_enter Tryd.func37, Tryd.ntmps37
  go_wp2_with fail
  refine C0.out.mono ?_
  rintro e w' ⟨rfl, rfl⟩
  go_wp2_with fail
  refine C2.out.mono ?_
  rintro e w' ⟨rfl, rfl⟩
  go_wp2_with fail
  refine CR.out.mono ?_
  rintro e w0 ⟨A2, c2, rfl, -, -, hb⟩
  have CX := kept (CW.out _ hb)
  have HB := kept hb
  clear CW hb
  go_wp2_with fail
  refine CX.out.mono ?_
  rintro e1 w1 ⟨rfl, hD, hu⟩
  have HU := kept ((Upd.of_below (S := S) HB.out).trans (hu.mono (T := S) fun i _ hi => by subst hi; exact hgw))
  have HD := kept hD
  clear hu
  obtain ⟨b0, s0, b1, s1, room, fuse, down⟩ := e
  cases down with
  | true =>
    obtain rfl : r = (_, 14) := HE.out
    go_wp2
    go_ret
    exact Does.stay HD.out HU.out
  | false =>
    obtain rfl : r = (⟨b0.take n, n, b1, s1, room, fuse, false⟩, 0) := HE.out
    have hok := hD.ok
    obtain ⟨-, hg, hS, A0, c0, A1, c1, hk, hfl⟩ := hD
    have h2 : w1.cell? ⟨g, 2, none⟩ = some (.slice A0 b0.length c0) := hk.cell (j := 2) rfl
    have h3 : w1.cell? ⟨g, 3, none⟩ = some (.int .i64 (s0 : Int)) := hk.cell (j := 3) rfl
    have hlt := hk.lt
    have hz2 := hk.frozen 2
    have hz3 := hk.frozen 3
    have hus : b0.length + b1.length ≤ 1048576 := hok.2.2.2.2.1
    have hn' : n ≤ b0.length := hn
    have hc0 := hfl.len0.1
    have hc1 := hfl.len0.2
    have hnc : n ≤ c0 := Nat.le_trans hn' hc0
    have HFL := kept hfl
    have HK := kept hk
    have HS := kept hS
    have hlt' : (b0.take n).length = n := by rw [List.length_take]; omega
    have hdk : Blk (((w1.setCell ⟨g, 2, none⟩ (.slice A0 n n)).setCell ⟨g, 3, none⟩ (.int .i64 (n : Int))).drew) g (DC ⟨b0.take n, n, b1, s1, room, fuse, false⟩ A0 n A1 c1) 85 := by
      unfold DC
      dsimp only
      rw [hlt']
      exact (hk.set 2 _).set 3 _
    have HDK := kept hdk
    clear hlt' hdk
    have HFC := kept (fcut0 hfl hn' (.slice A0 n n) (.int .i64 (n : Int)))
    clear hk hfl HD hS HE hn
    go_wp2
    go_region_law (fail)
    all_goals
      go_wp2
      go_ret
      refine ⟨rfl, S, ⟨⟨take_all hok.1 n, hok.2.1, by show n ≤ (b0.take n).length; rw [List.length_take]; omega, hok.2.2.2.1, by show (b0.take n).length + b1.length ≤ _; rw [List.length_take]; omega, hok.2.2.2.2.2⟩, hg, (fun k hk => by have := HS.out k hk; simpa [World.setCell] using this), A0, n, A1, c1, HDK.out, HFC.out⟩, ((HU.out.setCell (p := ⟨g, 2, none⟩) (.inl hg) _).setCell (p := ⟨g, 3, none⟩) (.inl hg) _).drew, fun k h => .inl h⟩
theorem fcut1 {w : World} {S : Nat → Prop} {g : Nat} {A0 A1 : Option Addr} {c0 c1 n : Nat} {b0 b1 : List Nat} (h : Files w S g A0 c0 b0 A1 c1 b1) (hn : n ≤ b1.length) (u v : Value) :
    Files ((w.setCell ⟨g, 4, none⟩ u).setCell ⟨g, 5, none⟩ v) S g A0 c0 b0 A1 n (b1.take n) := by
  refine Files.set (Files.set (w := w) ⟨h.1, ?_, h.2.2⟩ 4 u) 5 v
  have := h.2.1.cut hn
  have hl : (b1.take n).length = n := by rw [List.length_take]; omega
  rw [hl]
  exact this
theorem cut_1 (S : Nat → Prop) (g : Nat) (d : DS) (n : Nat) (w : World) (h : Dsk w S g d) (hn : n ≤ d.b1.length) :
    Calls Tryd.prog 37 #[.pointer (some ⟨g, 0, none⟩), .int .i64 1, .int .i64 (n : Int)] w (Does S g w (d.cutM 1 (n : Int)).1 (.int .i64 ((d.cutM 1 (n : Int)).2 : Int))) := by
  have CR := kept (read_any S g d 1 w h (by decide))
  have CW := kept (fun W (hb : Below w.heap.size w W) => write_yes S g d W (h.next hb))
  have C2 := kept (is_any 1 w (by decide))
  have hlr : n ≤ (d.readM 1).length := hn
  have hb0 : d.burn.b1 = d.b1 := (burn_b d).2.1
  have hsw := h.under
  have hgw := h.2.1
  rw [← hb0] at hn
  have C0 : Calls Tryd.prog 40 #[.pointer (some ⟨g, 0, none⟩)] w fun e w' => e = .returned (.bool false) ∧ w = w' := by
    obtain ⟨-, -, -, A0, c0, A1, c1, hk, -⟩ := h
    exact none_cell g true w (hk.cell (j := 0) rfl)
  have C0 := kept C0
  obtain ⟨e, he⟩ : ∃ e, d.burn = e := ⟨_, rfl⟩
  have HE : Kept (d.cutM 1 (n : Int) = (if e.down = true then (e, 14) else (⟨e.b0, e.s0, e.b1.take n, n, e.room, e.fuse, e.down⟩, 0))) := ⟨by
    have hc : isF 1 = true ∧ (0 : Int) ≤ (n : Int) ∧ (n : Int) ≤ ((d.b 1).length : Int) := ⟨rfl, by omega, by have : n ≤ (d.b 1).length := hlr; omega⟩
    unfold DS.cutM
    rw [if_pos hc, ← he]; rfl⟩
  generalize d.cutM 1 (n : Int) = r at *
  rw [he] at CW hn
  generalize d.readM 1 = lr at *
  clear he h hb0
  rw [show isF 1 = true from rfl] at C2
  go_enter Tryd.func37, Tryd.ntmps37
  go_wp2_with fail
  refine C0.out.mono ?_
  rintro e w' ⟨rfl, rfl⟩
  go_wp2_with fail
  refine C2.out.mono ?_
  rintro e w' ⟨rfl, rfl⟩
  go_wp2_with fail
  refine CR.out.mono ?_
  rintro e w0 ⟨A2, c2, rfl, -, -, hb⟩
  have CX := kept (CW.out _ hb)
  have HB := kept hb
  clear CW hb
  go_wp2_with fail
  refine CX.out.mono ?_
  rintro e1 w1 ⟨rfl, hD, hu⟩
  have HU := kept ((Upd.of_below (S := S) HB.out).trans (hu.mono (T := S) fun i _ hi => by subst hi; exact hgw))
  have HD := kept hD
  clear hu
  obtain ⟨b0, s0, b1, s1, room, fuse, down⟩ := e
  cases down with
  | true =>
    obtain rfl : r = (_, 14) := HE.out
    go_wp2
    go_ret
    exact Does.stay HD.out HU.out
  | false =>
    obtain rfl : r = (⟨b0, s0, b1.take n, n, room, fuse, false⟩, 0) := HE.out
    have hok := hD.ok
    obtain ⟨-, hg, hS, A0, c0, A1, c1, hk, hfl⟩ := hD
    have h2 : w1.cell? ⟨g, 4, none⟩ = some (.slice A1 b1.length c1) := hk.cell (j := 4) rfl
    have h3 : w1.cell? ⟨g, 5, none⟩ = some (.int .i64 (s1 : Int)) := hk.cell (j := 5) rfl
    have hlt := hk.lt
    have hz2 := hk.frozen 4
    have hz3 := hk.frozen 5
    have hus : b0.length + b1.length ≤ 1048576 := hok.2.2.2.2.1
    have hn' : n ≤ b1.length := hn
    have hc0 := hfl.len1.1
    have hc1 := hfl.len1.2
    have hnc : n ≤ c1 := Nat.le_trans hn' hc0
    have HFL := kept hfl
    have HK := kept hk
    have HS := kept hS
    have hlt' : (b1.take n).length = n := by rw [List.length_take]; omega
    have hdk : Blk (((w1.setCell ⟨g, 4, none⟩ (.slice A1 n n)).setCell ⟨g, 5, none⟩ (.int .i64 (n : Int))).drew) g (DC ⟨b0, s0, b1.take n, n, room, fuse, false⟩ A0 c0 A1 n) 85 := by
      unfold DC
      dsimp only
      rw [hlt']
      exact (hk.set 4 _).set 5 _
    have HDK := kept hdk
    clear hlt' hdk
    have HFC := kept (fcut1 hfl hn' (.slice A1 n n) (.int .i64 (n : Int)))
    clear hk hfl HD hS HE hn
    go_wp2
    go_region_law (fail)
    all_goals
      go_wp2
      go_ret
      refine ⟨rfl, S, ⟨⟨hok.1, take_all hok.2.1 n, hok.2.2.1, by show n ≤ (b1.take n).length; rw [List.length_take]; omega, by show b0.length + (b1.take n).length ≤ _; rw [List.length_take]; omega, hok.2.2.2.2.2⟩, hg, (fun k hk => by have := HS.out k hk; simpa [World.setCell] using this), A0, c0, A1, n, HDK.out, HFC.out⟩, ((HU.out.setCell (p := ⟨g, 4, none⟩) (.inl hg) _).setCell (p := ⟨g, 5, none⟩) (.inl hg) _).drew, fun k h => .inl h⟩
theorem cut_any (S : Nat → Prop) (g : Nat) (d : DS) (f n : Int) (w : World) (h : Dsk w S g d) (hf : -9223372036854775808 ≤ f ∧ f ≤ 9223372036854775807) :
    Calls Tryd.prog 37 #[.pointer (some ⟨g, 0, none⟩), .int .i64 f, .int .i64 n] w (Does S g w (d.cutM f n).1 (.int .i64 ((d.cutM f n).2 : Int))) := by
  by_cases hc : d.cutOk f n
  · obtain ⟨h1, h2, h3⟩ := id hc
    obtain ⟨k, rfl⟩ : ∃ k : Nat, (k : Int) = n := ⟨n.toNat, by omega⟩
    by_cases h0 : f = 0
    · subst h0
      have h4 : (k : Int) ≤ (d.b0.length : Int) := h3
      exact cut_0 S g d k w h (by omega)
    · have h5 : f = 1 := by simpa [isF, h0] using h1
      subst h5
      have h4 : (k : Int) ≤ (d.b1.length : Int) := h3
      exact cut_1 S g d k w h (by omega)
  · have he : d.cutM f n = (d, 1) := by unfold DS.cutM; exact if_neg hc
    rw [he]
    exact cut_no S g d f n w h hf hc
end Go.Proofs.YtdlghabpnpbebaaDoor.Disk
