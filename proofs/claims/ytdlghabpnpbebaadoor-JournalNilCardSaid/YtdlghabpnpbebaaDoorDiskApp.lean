/- Layer 22 (disk): the walk of Append. -/
import Derived.Test.YtdlghabpnpbebaaDoorDiskCalls
import Derived.Deep.RegionHeld3
import Derived.Deep.RegionWith
import Derived.Deep.RegionLaw
import Derived.Deep.DeepCutAuto
namespace Go.Proofs.YtdlghabpnpbebaaDoor.Disk
open Go.RowKit Go.Proofs.YtdlghabpnpbebaaDoor.Mem

theorem app_no (S : Nat → Prop) (g : Nat) (d : DS) (f : Int) (X : Option Addr) (m c : Nat) (w : World) (h : Dsk w S g d) (hf : -9223372036854775808 ≤ f ∧ f ≤ 9223372036854775807) (hi : isF f = false) :
    Calls Tryd.prog 54 #[.pointer (some ⟨g, 0, none⟩), .int .i64 f, .slice X m c] w (Does S g w d (.int .i64 1)) := by
  have HD := kept h
  obtain ⟨-, -, -, A0, c0, A1, c1, hk, -⟩ := h
  have h0 : w.cell? ⟨g, 0, none⟩ = some (.bool true) := hk.cell (j := 0) rfl
  have C := kept (write_no g true false w h0 (.inr rfl))
  have C2 := is_any f w hf
  rw [hi] at C2
  have C2 := kept C2
  clear hk
  go_enter Tryd.func54, Tryd.ntmps54
  go_wp2_with fail
  refine C2.out.mono ?_
  rintro e w' ⟨rfl, rfl⟩
  go_wp2_with fail
  refine C.out.mono ?_
  rintro e w' ⟨rfl, rfl⟩
  go_wp2
  go_ret
  exact Does.stay HD.out (Upd.refl _ _)
theorem grew_in {S : Nat → Prop} {w1 w2 : World} {g : Nat} {A0 A' A1 : Option Addr} {n0 c0 c' c1 : Nat} {r l1 : List Nat} (h : Files w2 (fun k => S k ∨ ∃ x, A' = some x ∧ x.block = k) g A' c' r A1 c1 l1) (hx : ∀ x, A' = some x → (Value.slice A0 n0 c0).ownBlock = some x.block ∨ w1.heap.size ≤ x.block) (h0 : ∀ x, A0 = some x → S x.block) :
    ∀ k, (S k ∨ ∃ x, A' = some x ∧ x.block = k) → S k ∨ (w1.heap.size ≤ k ∧ k < w2.heap.size) := by
  rintro k (hk | ⟨x, rfl, rfl⟩)
  · exact .inl hk
  · rcases hx x rfl with h1 | h1
    · obtain ⟨y, hy, hz⟩ := ob_some h1
      rw [← hz]; exact .inl (h0 y hy)
    · exact .inr ⟨h1, h.1.lt x.block rfl⟩
theorem grew {S S' : Nat → Prop} {w w1 w2 : World} {g j : Nat} {v : Value} {A0 A1 : Option Addr} {c0 c1 : Nat} {d : DS} {r : Value} (hg : S g) (hS : ∀ k, S k → k < w1.heap.size) (hu : Upd S w w1) (hu2 : Upd (fun k => S k ∧ k ≠ g) w1.drew w2)
    (hk : Blk (w2.setCell ⟨g, j, none⟩ v) g (DC d A0 c0 A1 c1) 85) (hf : Files (w2.setCell ⟨g, j, none⟩ v) S' g A0 c0 d.b0 A1 c1 d.b1) (hS' : ∀ k, S' k → S k ∨ (w1.heap.size ≤ k ∧ k < w2.heap.size)) (hgS : S' g) (hok : d.Ok) :
    Does S g w d r (.returned r) (w2.setCell ⟨g, j, none⟩ v) := by
  have hs : w1.heap.size ≤ w2.heap.size := hu2.size
  refine ⟨rfl, S', ⟨hok, hgS, fun k hk => ?_, A0, c0, A1, c1, hk, hf⟩, (hu.drew.trans (hu2.mono fun _ _ h => h.1)).setCell (.inl hg) _, fun k hk => ?_⟩
  · have : (w2.setCell ⟨g, j, none⟩ v).heap.size = w2.heap.size := by simp [World.setCell]
    rw [this]
    rcases hS' k hk with h | ⟨h, h2⟩
    · have := hS k h; omega
    · exact h2
  · rcases hS' k hk with h | ⟨h, h2⟩
    · exact .inl h
    · exact .inr (Nat.le_trans hu.size h)
theorem app_0 (S : Nat → Prop) (g : Nat) (d : DS) (X : Option Addr) (m c : Nat) (l : List Nat) (w : World) (h : Dsk w S g d) (hl : AllB l) (hm : m = l.length) (hr : Rd w w.heap.size X (BB l)) (hx : ∀ x, X = some x → BB l ≠ [] → x.block ≠ g) (hsz : l.length ≤ 140737488355000) :
    Calls Tryd.prog 54 #[.pointer (some ⟨g, 0, none⟩), .int .i64 0, .slice X m c] w (Does S g w (d.appM 0 l).1 (.int .i64 ((d.appM 0 l).2 : Int))) := by
  subst hm
  have C := kept (write_yes S g d w h)
  have C2 := kept (is_any 0 w (by decide))
  have hsw := h.under
  have hgw := h.2.1
  obtain ⟨e, he⟩ : ∃ e, d.burn = e := ⟨_, rfl⟩
  have HE : Kept (d.appM 0 l = (if e.down = true then (e, 14) else if e.room < e.used + l.length then (e, 8) else (⟨e.b0 ++ l, e.s0, e.b1, e.s1, e.room, e.fuse, e.down⟩, 0))) := ⟨by rw [← he]; rfl⟩
  generalize d.appM 0 l = r at *
  rw [he] at C
  clear he h
  rw [show isF 0 = true from rfl] at C2
  have HR := kept (fun (W : World) (hu : Upd (fun k => k = g) w W) => (hr.updN hu (Nat.le_refl _) hx).more hu.size)
  clear hr hx
  go_enter Tryd.func54, Tryd.ntmps54
  go_wp2_with fail
  refine C2.out.mono ?_
  rintro e w' ⟨rfl, rfl⟩
  go_wp2_with fail
  refine C.out.mono ?_
  rintro e1 w1 ⟨rfl, hD, hu⟩
  have hr1 := HR.out w1 hu
  have HU := kept (hu.mono (T := S) fun i _ hi => by subst hi; exact hgw)
  have HD := kept hD
  obtain ⟨b0, s0, b1, s1, room, fuse, down⟩ := e
  cases down with
  | true =>
    obtain rfl : r = (_, 14) := HE.out
    go_wp2
    go_ret
    exact Does.stay HD.out HU.out
  | false =>
    have CU := kept (fun n => used_any S g _ (w1.drewN n) hD)
    have hok := hD.ok
    obtain ⟨-, hg, hS, A0, c0, A1, c1, hk, hfl⟩ := hD
    have h2 : w1.cell? ⟨g, 2, none⟩ = some (.slice A0 b0.length c0) := hk.cell (j := 2) rfl
    have h6 : w1.cell? ⟨g, 6, none⟩ = some (.int .i64 (room : Int)) := hk.cell (j := 6) rfl
    have hlt := hk.lt
    have hz2 := hk.frozen 2
    have hrm : room ≤ 1048576 := hok.2.2.2.2.2.1
    have hus : b0.length + b1.length ≤ 1048576 := hok.2.2.2.2.1
    have hue : DS.used ⟨b0, s0, b1, s1, room, fuse, false⟩ = b0.length + b1.length := rfl
    rw [hue] at CU
    by_cases hroom : room < b0.length + b1.length + l.length
    · have hr8 : r = (⟨b0, s0, b1, s1, room, fuse, false⟩, 8) := by rw [HE.out, hue, if_neg (by simp), if_pos hroom]
      subst hr8
      clear hk hfl h2 hue HE
      generalize b0.length + b1.length = U at *
      go_wp2
      go_quiet ((go_at_call 51; exact Calls.quiet_of (CU.out _)))
      go_wp2
      go_ret
      exact Does.stay (HD.out.drewN _) (HU.out.drewN _)
    · have hr0 : r = (⟨b0 ++ l, s0, b1, s1, room, fuse, false⟩, 0) := by rw [HE.out, hue, if_neg (by simp), if_neg hroom]
      subst hr0
      have hz : b0.length + l.length ≤ 140737488355328 := by omega
      have HFL := kept (fun n => show Files (w1.drewN n) S g A0 c0 b0 A1 c1 b1 from hfl)
      have HK := kept (fun n => hk.drewN n)
      have HR1 := kept (fun n => hr1.drewN n)
      have HUZ := kept (fun n => HU.out.drewN n)
      have HC := kept (fun n => show (w1.drewN n).cell? ⟨g, 2, none⟩ = some (.slice A0 b0.length c0) from h2)
      clear hk hfl hue HE hr1 HD HU hz2
      have hroom2 : l.length ≤ room - (b0.length + b1.length) := by omega
      go_wp2
      go_quiet ((go_at_call 51; exact Calls.quiet_of (CU.out _)))
      go_wp2
      have hfz := HFL.out nq
      have hkz := HK.out nq
      have hrz := HR1.out nq
      have huz := HUZ.out nq
      have hcz := HC.out nq
      have hsz' : w1.heap.size = (w1.drewN nq).heap.size := rfl
      rw [hsz'] at hrz hlt hS
      clear HFL HK HR1 HUZ HC h2 h6 CU hsz'
      generalize w1.drewN nq = wz at *
      have ho0 := kept (show FOwn wz.drew (.slice A0 b0.length c0) b0 from hfz.1)
      have hr0 := kept hrz.drew
      have hfd := kept (show Files wz.drew S g A0 c0 b0 A1 c1 b1 from hfz)
      have hkd := kept hkz.drew
      have hud := kept huz
      have hltd : g < wz.drew.heap.size := hlt
      have hfz2 : ∀ x, A0 = some x → S x.block := fun x hx => (hfz.2.2.1 x hx).1
      clear hfz hkz hrz huz
      go_region_law ((refine step_appF _ (by rfl) (.tmp 33) (.tmp 34) (by rfl) _ b0 (by rfl) ho0.out wz.heap.size X _ c l (by rfl) rfl hr0.out hz ?_; intro A2 c2 w2 r2 hr2 hown2 hg2 hx2; have hfs := hfd.out.grown hltd hown2 hg2 hx2; have hkn := kept (hkd.out.upd hfs.2 (fun h => h.2 rfl)); have hl2 := hkn.out.lt; have hc2 : w2.cell? ⟨g, 2, none⟩ = some (.slice A0 b0.length c0) := hkn.out.cell (j := 2) rfl; have hf2 := hkn.out.frozen 2; have HFS := kept hfs; have HX2 := kept (grew_in hfs.1 hx2 hfz2); have HR2 := kept hr2.out; clear hfs hg2 hx2 hr2))
      all_goals
        go_wp2
        go_ret
        obtain rfl : r2 = b0 ++ l := HR2.out
        exact grew hg hS hud.out HFS.out.2 (hkn.out.set 2 _) (HFS.out.1.set 2 _) HX2.out (.inl hg) ⟨app_all hok.1 hl, hok.2.1, Nat.le_trans hok.2.2.1 (by simp), hok.2.2.2.1, by show (b0 ++ l).length + b1.length ≤ _; rw [List.length_append]; omega, hok.2.2.2.2.2⟩
theorem app_1 (S : Nat → Prop) (g : Nat) (d : DS) (X : Option Addr) (m c : Nat) (l : List Nat) (w : World) (h : Dsk w S g d) (hl : AllB l) (hm : m = l.length) (hr : Rd w w.heap.size X (BB l)) (hx : ∀ x, X = some x → BB l ≠ [] → x.block ≠ g) (hsz : l.length ≤ 140737488355000) :
    Calls Tryd.prog 54 #[.pointer (some ⟨g, 0, none⟩), .int .i64 1, .slice X m c] w (Does S g w (d.appM 1 l).1 (.int .i64 ((d.appM 1 l).2 : Int))) := by
  subst hm
  have C := kept (write_yes S g d w h)
  have C2 := kept (is_any 1 w (by decide))
  have hsw := h.under
  have hgw := h.2.1
  obtain ⟨e, he⟩ : ∃ e, d.burn = e := ⟨_, rfl⟩
  have HE : Kept (d.appM 1 l = (if e.down = true then (e, 14) else if e.room < e.used + l.length then (e, 8) else (⟨e.b0, e.s0, e.b1 ++ l, e.s1, e.room, e.fuse, e.down⟩, 0))) := ⟨by rw [← he]; rfl⟩
  generalize d.appM 1 l = r at *
  rw [he] at C
  clear he h
  rw [show isF 1 = true from rfl] at C2
  have HR := kept (fun (W : World) (hu : Upd (fun k => k = g) w W) => (hr.updN hu (Nat.le_refl _) hx).more hu.size)
  clear hr hx
  go_enter Tryd.func54, Tryd.ntmps54
  go_wp2_with fail
  refine C2.out.mono ?_
  rintro e w' ⟨rfl, rfl⟩
  go_wp2_with fail
  refine C.out.mono ?_
  rintro e1 w1 ⟨rfl, hD, hu⟩
  have hr1 := HR.out w1 hu
  have HU := kept (hu.mono (T := S) fun i _ hi => by subst hi; exact hgw)
  have HD := kept hD
  obtain ⟨b0, s0, b1, s1, room, fuse, down⟩ := e
  cases down with
  | true =>
    obtain rfl : r = (_, 14) := HE.out
    go_wp2
    go_ret
    exact Does.stay HD.out HU.out
  | false =>
    have CU := kept (fun n => used_any S g _ (w1.drewN n) hD)
    have hok := hD.ok
    obtain ⟨-, hg, hS, A0, c0, A1, c1, hk, hfl⟩ := hD
    have h2 : w1.cell? ⟨g, 4, none⟩ = some (.slice A1 b1.length c1) := hk.cell (j := 4) rfl
    have h6 : w1.cell? ⟨g, 6, none⟩ = some (.int .i64 (room : Int)) := hk.cell (j := 6) rfl
    have hlt := hk.lt
    have hz2 := hk.frozen 4
    have hrm : room ≤ 1048576 := hok.2.2.2.2.2.1
    have hus : b0.length + b1.length ≤ 1048576 := hok.2.2.2.2.1
    have hue : DS.used ⟨b0, s0, b1, s1, room, fuse, false⟩ = b0.length + b1.length := rfl
    rw [hue] at CU
    by_cases hroom : room < b0.length + b1.length + l.length
    · have hr8 : r = (⟨b0, s0, b1, s1, room, fuse, false⟩, 8) := by rw [HE.out, hue, if_neg (by simp), if_pos hroom]
      subst hr8
      clear hk hfl h2 hue HE
      generalize b0.length + b1.length = U at *
      go_wp2
      go_quiet ((go_at_call 51; exact Calls.quiet_of (CU.out _)))
      go_wp2
      go_ret
      exact Does.stay (HD.out.drewN _) (HU.out.drewN _)
    · have hr0 : r = (⟨b0, s0, b1 ++ l, s1, room, fuse, false⟩, 0) := by rw [HE.out, hue, if_neg (by simp), if_neg hroom]
      subst hr0
      have hz : b1.length + l.length ≤ 140737488355328 := by omega
      have HFL := kept (fun n => show Files (w1.drewN n) S g A1 c1 b1 A0 c0 b0 from hfl.swap)
      have HK := kept (fun n => hk.drewN n)
      have HR1 := kept (fun n => hr1.drewN n)
      have HUZ := kept (fun n => HU.out.drewN n)
      have HC := kept (fun n => show (w1.drewN n).cell? ⟨g, 4, none⟩ = some (.slice A1 b1.length c1) from h2)
      clear hk hfl hue HE hr1 HD HU hz2
      have hroom2 : l.length ≤ room - (b0.length + b1.length) := by omega
      go_wp2
      go_quiet ((go_at_call 51; exact Calls.quiet_of (CU.out _)))
      go_wp2
      have hfz := HFL.out nq
      have hkz := HK.out nq
      have hrz := HR1.out nq
      have huz := HUZ.out nq
      have hcz := HC.out nq
      have hsz' : w1.heap.size = (w1.drewN nq).heap.size := rfl
      rw [hsz'] at hrz hlt hS
      clear HFL HK HR1 HUZ HC h2 h6 CU hsz'
      generalize w1.drewN nq = wz at *
      have ho0 := kept (show FOwn wz.drew (.slice A1 b1.length c1) b1 from hfz.1)
      have hr0 := kept hrz.drew
      have hfd := kept (show Files wz.drew S g A1 c1 b1 A0 c0 b0 from hfz)
      have hkd := kept hkz.drew
      have hud := kept huz
      have hltd : g < wz.drew.heap.size := hlt
      have hfz2 : ∀ x, A1 = some x → S x.block := fun x hx => (hfz.2.2.1 x hx).1
      clear hfz hkz hrz huz
      go_region_law ((refine step_appF _ (by rfl) (.tmp 33) (.tmp 34) (by rfl) _ b1 (by rfl) ho0.out wz.heap.size X _ c l (by rfl) rfl hr0.out hz ?_; intro A2 c2 w2 r2 hr2 hown2 hg2 hx2; have hfs := hfd.out.grown hltd hown2 hg2 hx2; have hkn := kept (hkd.out.upd hfs.2 (fun h => h.2 rfl)); have hl2 := hkn.out.lt; have hc2 : w2.cell? ⟨g, 4, none⟩ = some (.slice A1 b1.length c1) := hkn.out.cell (j := 4) rfl; have hf2 := hkn.out.frozen 4; have HFS := kept hfs; have HX2 := kept (grew_in hfs.1 hx2 hfz2); have HR2 := kept hr2.out; clear hfs hg2 hx2 hr2))
      all_goals
        go_wp2
        go_ret
        obtain rfl : r2 = b1 ++ l := HR2.out
        exact grew hg hS hud.out HFS.out.2 (hkn.out.set 4 _) (HFS.out.1.swap.set 4 _) HX2.out (.inl hg) ⟨hok.1, app_all hok.2.1 hl, hok.2.2.1, Nat.le_trans hok.2.2.2.1 (by simp), by show b0.length + (b1 ++ l).length ≤ _; rw [List.length_append]; omega, hok.2.2.2.2.2⟩
theorem app_any (S : Nat → Prop) (g : Nat) (d : DS) (f : Int) (X : Option Addr) (m c : Nat) (l : List Nat) (w : World) (h : Dsk w S g d) (hf : -9223372036854775808 ≤ f ∧ f ≤ 9223372036854775807) (hl : AllB l) (hm : m = l.length) (hr : Rd w w.heap.size X (BB l)) (hx : ∀ x, X = some x → BB l ≠ [] → x.block ≠ g) (hsz : l.length ≤ 140737488355000) :
    Calls Tryd.prog 54 #[.pointer (some ⟨g, 0, none⟩), .int .i64 f, .slice X m c] w (Does S g w (d.appM f l).1 (.int .i64 ((d.appM f l).2 : Int))) := by
  by_cases h0 : f = 0
  · subst h0; exact app_0 S g d X m c l w h hl hm hr hx hsz
  · by_cases h1 : f = 1
    · subst h1; exact app_1 S g d X m c l w h hl hm hr hx hsz
    · have hi : isF f = false := by simp [isF, h0, h1]
      have he : d.appM f l = (d, 1) := by unfold DS.appM; rw [hi]; rfl
      rw [he]
      exact app_no S g d f X m c w h hf hi
end Go.Proofs.YtdlghabpnpbebaaDoor.Disk
