/- Layer 22 (disk): the walk of Sync. -/
import Derived.Test.YtdlghabpnpbebaaDoorDiskApp
namespace Go.Proofs.YtdlghabpnpbebaaDoor.Disk
open Go.RowKit Go.Proofs.YtdlghabpnpbebaaDoor.Mem

theorem sync_no (S : Nat → Prop) (g : Nat) (d : DS) (f : Int) (w : World) (h : Dsk w S g d) (hf : -9223372036854775808 ≤ f ∧ f ≤ 9223372036854775807) (hi : isF f = false) :
    Calls Tryd.prog 55 #[.pointer (some ⟨g, 0, none⟩), .int .i64 f] w (Does S g w d (.int .i64 1)) := by
  have HD := kept h
  obtain ⟨-, -, -, A0, c0, A1, c1, hk, -⟩ := h
  have h0 : w.cell? ⟨g, 0, none⟩ = some (.bool true) := hk.cell (j := 0) rfl
  have C := kept (write_no g true false w h0 (.inr rfl))
  have C2 := is_any f w hf
  rw [hi] at C2
  have C2 := kept C2
  clear hk
  go_enter Tryd.func55, Tryd.ntmps55
  go_wp2_with fail
  refine C2.out.mono ?_
  rintro e w' ⟨rfl, rfl⟩
  go_wp2_with fail
  refine C.out.mono ?_
  rintro e w' ⟨rfl, rfl⟩
  go_wp2
  go_ret
  exact Does.stay HD.out (Upd.refl _ _)
theorem sync_0 (S : Nat → Prop) (g : Nat) (d : DS) (w : World) (h : Dsk w S g d) :
    Calls Tryd.prog 55 #[.pointer (some ⟨g, 0, none⟩), .int .i64 0] w (Does S g w (d.syncM 0).1 (.int .i64 ((d.syncM 0).2 : Int))) := by
  have C := kept (write_yes S g d w h)
  have C2 := kept (is_any 0 w (by decide))
  have hsw := h.under
  have hgw := h.2.1
  obtain ⟨e, he⟩ : ∃ e, d.burn = e := ⟨_, rfl⟩
  have HE : Kept (d.syncM 0 = (if e.down = true then (e, 14) else (⟨e.b0, e.b0.length, e.b1, e.s1, e.room, e.fuse, e.down⟩, 0))) := ⟨by rw [← he]; rfl⟩
  generalize d.syncM 0 = r at *
  rw [he] at C
  clear he h
  rw [show isF 0 = true from rfl] at C2
  go_enter Tryd.func55, Tryd.ntmps55
  go_wp2_with fail
  refine C2.out.mono ?_
  rintro e w' ⟨rfl, rfl⟩
  go_wp2_with fail
  refine C.out.mono ?_
  rintro e1 w1 ⟨rfl, hD, hu⟩
  have HU := kept (hu.mono (T := S) fun i _ hi => by subst hi; exact hgw)
  have HD := kept hD
  obtain ⟨b0, s0, b1, s1, room, fuse, down⟩ := e
  cases down with
  | true =>
    obtain rfl : r = (_, 14) := HE.out
    go_wp2
    go_ret
    exact Does.stay HD.out HU.out
  | false =>
    obtain rfl : r = (⟨b0, b0.length, b1, s1, room, fuse, false⟩, 0) := HE.out
    have hok := hD.ok
    obtain ⟨-, hg, hS, A0, c0, A1, c1, hk, hfl⟩ := hD
    have h2 : w1.cell? ⟨g, 2, none⟩ = some (.slice A0 b0.length c0) := hk.cell (j := 2) rfl
    have h3 : w1.cell? ⟨g, 3, none⟩ = some (.int .i64 (s0 : Int)) := hk.cell (j := 3) rfl
    have hlt := hk.lt
    have hz3 := hk.frozen 3
    have hus : b0.length + b1.length ≤ 1048576 := hok.2.2.2.2.1
    have HFL := kept hfl
    have HK := kept hk
    have HS := kept hS
    clear hk hfl HD hS HE
    go_wp2
    go_region_law (fail)
    all_goals
      go_wp2
      go_ret
      refine ⟨rfl, S, ⟨⟨hok.1, hok.2.1, Nat.le_refl _, hok.2.2.2.1, hok.2.2.2.2.1, hok.2.2.2.2.2⟩, hg, (fun k hk => by have := HS.out k hk; simpa [World.setCell] using this), A0, c0, A1, c1, HK.out.drew.set 3 _, Files.set (w := w1.drew) HFL.out 3 _⟩, HU.out.drew.setCell (p := ⟨g, 3, none⟩) (.inl hg) _, fun k h => .inl h⟩
theorem sync_1 (S : Nat → Prop) (g : Nat) (d : DS) (w : World) (h : Dsk w S g d) :
    Calls Tryd.prog 55 #[.pointer (some ⟨g, 0, none⟩), .int .i64 1] w (Does S g w (d.syncM 1).1 (.int .i64 ((d.syncM 1).2 : Int))) := by
  have C := kept (write_yes S g d w h)
  have C2 := kept (is_any 1 w (by decide))
  have hsw := h.under
  have hgw := h.2.1
  obtain ⟨e, he⟩ : ∃ e, d.burn = e := ⟨_, rfl⟩
  have HE : Kept (d.syncM 1 = (if e.down = true then (e, 14) else (⟨e.b0, e.s0, e.b1, e.b1.length, e.room, e.fuse, e.down⟩, 0))) := ⟨by rw [← he]; rfl⟩
  generalize d.syncM 1 = r at *
  rw [he] at C
  clear he h
  rw [show isF 1 = true from rfl] at C2
  go_enter Tryd.func55, Tryd.ntmps55
  go_wp2_with fail
  refine C2.out.mono ?_
  rintro e w' ⟨rfl, rfl⟩
  go_wp2_with fail
  refine C.out.mono ?_
  rintro e1 w1 ⟨rfl, hD, hu⟩
  have HU := kept (hu.mono (T := S) fun i _ hi => by subst hi; exact hgw)
  have HD := kept hD
  obtain ⟨b0, s0, b1, s1, room, fuse, down⟩ := e
  cases down with
  | true =>
    obtain rfl : r = (_, 14) := HE.out
    go_wp2
    go_ret
    exact Does.stay HD.out HU.out
  | false =>
    obtain rfl : r = (⟨b0, s0, b1, b1.length, room, fuse, false⟩, 0) := HE.out
    have hok := hD.ok
    obtain ⟨-, hg, hS, A0, c0, A1, c1, hk, hfl⟩ := hD
    have h2 : w1.cell? ⟨g, 4, none⟩ = some (.slice A1 b1.length c1) := hk.cell (j := 4) rfl
    have h3 : w1.cell? ⟨g, 5, none⟩ = some (.int .i64 (s1 : Int)) := hk.cell (j := 5) rfl
    have hlt := hk.lt
    have hz3 := hk.frozen 5
    have hus : b0.length + b1.length ≤ 1048576 := hok.2.2.2.2.1
    have HFL := kept hfl
    have HK := kept hk
    have HS := kept hS
    clear hk hfl HD hS HE
    go_wp2
    go_region_law (fail)
    all_goals
      go_wp2
      go_ret
      refine ⟨rfl, S, ⟨⟨hok.1, hok.2.1, hok.2.2.1, Nat.le_refl _, hok.2.2.2.2.1, hok.2.2.2.2.2⟩, hg, (fun k hk => by have := HS.out k hk; simpa [World.setCell] using this), A0, c0, A1, c1, HK.out.drew.set 5 _, Files.set (w := w1.drew) HFL.out 5 _⟩, HU.out.drew.setCell (p := ⟨g, 5, none⟩) (.inl hg) _, fun k h => .inl h⟩
theorem sync_any (S : Nat → Prop) (g : Nat) (d : DS) (f : Int) (w : World) (h : Dsk w S g d) (hf : -9223372036854775808 ≤ f ∧ f ≤ 9223372036854775807) :
    Calls Tryd.prog 55 #[.pointer (some ⟨g, 0, none⟩), .int .i64 f] w (Does S g w (d.syncM f).1 (.int .i64 ((d.syncM f).2 : Int))) := by
  by_cases h0 : f = 0
  · subst h0; exact sync_0 S g d w h
  · by_cases h1 : f = 1
    · subst h1; exact sync_1 S g d w h
    · have hi : isF f = false := by simp [isF, h0, h1]
      have he : d.syncM f = (d, 1) := by unfold DS.syncM; rw [hi]; rfl
      rw [he]
      exact sync_no S g d f w h hf hi
end Go.Proofs.YtdlghabpnpbebaaDoor.Disk
