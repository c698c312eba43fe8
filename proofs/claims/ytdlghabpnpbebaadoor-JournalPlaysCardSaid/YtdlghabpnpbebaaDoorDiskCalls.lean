/- Layer 22 (disk): the calls that only read; Room, Fuse, New. -/
import Derived.Test.YtdlghabpnpbebaaDoorDiskHold
namespace Go.Proofs.YtdlghabpnpbebaaDoor.Disk
open Go.RowKit Go.Proofs.YtdlghabpnpbebaaDoor.Mem

theorem down_any (S : Nat → Prop) (g : Nat) (d : DS) (w : World) (h : Dsk w S g d) :
    Calls Tryd.prog 52 #[.pointer (some ⟨g, 0, none⟩)] w fun e w' => e = .returned (.bool d.down) ∧ w = w' := by
  obtain ⟨hok, hg, hS, A0, c0, A1, c1, hk, hf⟩ := h
  have h0 : w.cell? ⟨g, 0, none⟩ = some (.bool true) := hk.cell (j := 0) rfl
  have h1 : w.cell? ⟨g, 1, none⟩ = some (.bool d.down) := hk.cell (j := 1) rfl
  have C := kept (none_cell g true w h0)
  clear hk hf hS hok
  generalize d.down = b at *
  go_enter Tryd.func52, Tryd.ntmps52
  go_wp2_with fail
  refine C.out.mono ?_
  rintro e w' ⟨rfl, rfl⟩
  go_wp2
  go_ret
  exact ⟨rfl, rfl⟩
theorem used_any (S : Nat → Prop) (g : Nat) (d : DS) (w : World) (h : Dsk w S g d) :
    Calls Tryd.prog 51 #[.pointer (some ⟨g, 0, none⟩)] w fun e w' => e = .returned (.int .i64 (d.used : Int)) ∧ ∃ m, w' = w.drewN m := by
  obtain ⟨hok, hg, hS, A0, c0, A1, c1, hk, hf⟩ := h
  have h0 : w.cell? ⟨g, 0, none⟩ = some (.bool true) := hk.cell (j := 0) rfl
  have h2 : w.cell? ⟨g, 2, none⟩ = some (.slice A0 d.b0.length c0) := hk.cell (j := 2) rfl
  have h4 : w.cell? ⟨g, 4, none⟩ = some (.slice A1 d.b1.length c1) := hk.cell (j := 4) rfl
  have hu : d.used = d.b0.length + d.b1.length := rfl
  have hu2 := hok.2.2.2.2.1
  have C := kept (none_cell g true w h0)
  rw [hu] at hu2 ⊢
  clear hk hf hS hok hu
  generalize d.b0.length = M at *
  generalize d.b1.length = N at *
  go_enter Tryd.func51, Tryd.ntmps51
  go_wp2_with fail
  refine C.out.mono ?_
  rintro e w' ⟨rfl, rfl⟩
  go_wp2
  go_quiet (fail)
  go_wp2
  go_ret
  refine ⟨?_, _, rfl⟩
  simp
theorem sure_any (S : Nat → Prop) (g : Nat) (d : DS) (f : Int) (w : World) (h : Dsk w S g d) (hf : -9223372036854775808 ≤ f ∧ f ≤ 9223372036854775807) :
    Calls Tryd.prog 50 #[.pointer (some ⟨g, 0, none⟩), .int .i64 f] w fun e w' => e = .returned (.int .i64 ((if isF f = true then d.s f else 0 : Nat) : Int)) ∧ w = w' := by
  obtain ⟨hok, hg, hS, A0, c0, A1, c1, hk, hfl⟩ := h
  have h0 : w.cell? ⟨g, 0, none⟩ = some (.bool true) := hk.cell (j := 0) rfl
  have h3 : w.cell? ⟨g, 3, none⟩ = some (.int .i64 (d.s0 : Int)) := hk.cell (j := 3) rfl
  have h5 : w.cell? ⟨g, 5, none⟩ = some (.int .i64 (d.s1 : Int)) := hk.cell (j := 5) rfl
  have C := kept (none_cell g true w h0)
  have C2 := kept (is_any f w hf)
  have hs0 : d.s 0 = d.s0 := rfl
  have hs1 : d.s 1 = d.s1 := rfl
  clear hk hfl hS hok
  by_cases e0 : f = 0
  · subst e0
    rw [show isF 0 = true from rfl, if_pos rfl, hs0]
    rw [show isF 0 = true from rfl] at C2
    clear hs0 hs1
    generalize d.s0 = M at *
    go_enter Tryd.func50, Tryd.ntmps50
    go_wp2_with fail
    refine C.out.mono ?_
    rintro e w' ⟨rfl, rfl⟩
    go_wp2_with fail
    refine C2.out.mono ?_
    rintro e w' ⟨rfl, rfl⟩
    go_wp2
    go_ret
    exact ⟨rfl, rfl⟩
  · by_cases e1 : f = 1
    · subst e1
      rw [show isF 1 = true from rfl, if_pos rfl, hs1]
      rw [show isF 1 = true from rfl] at C2
      clear hs0 hs1
      generalize d.s1 = M at *
      go_enter Tryd.func50, Tryd.ntmps50
      go_wp2_with fail
      refine C.out.mono ?_
      rintro e w' ⟨rfl, rfl⟩
      go_wp2_with fail
      refine C2.out.mono ?_
      rintro e w' ⟨rfl, rfl⟩
      go_wp2
      go_ret
      exact ⟨rfl, rfl⟩
    · have e2 : isF f = false := by simp [isF, e0, e1]
      rw [e2] at C2 ⊢
      go_enter Tryd.func50, Tryd.ntmps50
      go_wp2_with fail
      refine C.out.mono ?_
      rintro e w' ⟨rfl, rfl⟩
      go_wp2_with fail
      refine C2.out.mono ?_
      rintro e w' ⟨rfl, rfl⟩
      go_wp2
      go_ret
      exact ⟨rfl, rfl⟩
/-- a copy of the bytes of a file -/
def DS.readM (d : DS) (f : Int) : List Nat := if isF f = true then d.b f else []
theorem read_any (S : Nat → Prop) (g : Nat) (d : DS) (f : Int) (w : World) (h : Dsk w S g d) (hf : -9223372036854775808 ≤ f ∧ f ≤ 9223372036854775807) :
    Calls Tryd.prog 32 #[.pointer (some ⟨g, 0, none⟩), .int .i64 f] w (Gives w (d.readM f)) := by
  obtain ⟨hok, hg, hS, A0, c0, A1, c1, hk, hfl⟩ := h
  have h0 : w.cell? ⟨g, 0, none⟩ = some (.bool true) := hk.cell (j := 0) rfl
  have h2 : w.cell? ⟨g, 2, none⟩ = some (.slice A0 d.b0.length c0) := hk.cell (j := 2) rfl
  have h4 : w.cell? ⟨g, 4, none⟩ = some (.slice A1 d.b1.length c1) := hk.cell (j := 4) rfl
  have hr0 := hfl.rd0
  have hr1 := hfl.rd1
  have hu : d.b0.length + d.b1.length ≤ 1048576 := hok.2.2.2.2.1
  have C := kept (none_cell g true w h0)
  have C2 := kept (is_any f w hf)
  have hs0 : d.b 0 = d.b0 := rfl
  have hs1 : d.b 1 = d.b1 := rfl
  clear hk hfl hS hok
  unfold DS.readM
  by_cases e0 : f = 0
  · subst e0
    rw [show isF 0 = true from rfl, if_pos rfl, hs0]
    rw [show isF 0 = true from rfl] at C2
    clear hs0 hs1 hr1 h4
    generalize d.b0 = l at *
    have hz : ([] : List Nat).length + l.length ≤ 140737488355328 := by simp; omega
    go_enter Tryd.func32, Tryd.ntmps32
    go_wp2_with fail
    refine C.out.mono ?_
    rintro e w' ⟨rfl, rfl⟩
    go_wp2_with fail
    refine C2.out.mono ?_
    rintro e w' ⟨rfl, rfl⟩
    go_wp2_with (at_builtin; refine wpl_app rfl (.const (.slice none 0 0)) (.tmp 18) rfl w.heap.size _ [] rfl (Own.nilv _ _ _) _ A0 _ c0 l rfl rfl hr0 hz (Nat.le_refl _) ?_; intro A2 c2 w2 r2 hr2 hown2 hg2 hb2)
    go_ret
    obtain rfl : r2 = l := hr2.out
    exact ⟨A2, c2, rfl, hown2, (hown2.form.elim fun A' h => h.elim fun c' h => by injection h.1 with _ _ h2; subst h2; have := h.2.1; rwa [BB_length] at this), hb2⟩
  · by_cases e1 : f = 1
    · subst e1
      rw [show isF 1 = true from rfl, if_pos rfl, hs1]
      rw [show isF 1 = true from rfl] at C2
      clear hs0 hs1 hr0 h2
      generalize d.b1 = l at *
      have hz : ([] : List Nat).length + l.length ≤ 140737488355328 := by simp; omega
      go_enter Tryd.func32, Tryd.ntmps32
      go_wp2_with fail
      refine C.out.mono ?_
      rintro e w' ⟨rfl, rfl⟩
      go_wp2_with fail
      refine C2.out.mono ?_
      rintro e w' ⟨rfl, rfl⟩
      go_wp2_with (at_builtin; refine wpl_app rfl (.const (.slice none 0 0)) (.tmp 18) rfl w.heap.size _ [] rfl (Own.nilv _ _ _) _ A1 _ c1 l rfl rfl hr1 hz (Nat.le_refl _) ?_; intro A2 c2 w2 r2 hr2 hown2 hg2 hb2)
      go_ret
      obtain rfl : r2 = l := hr2.out
      exact ⟨A2, c2, rfl, hown2, (hown2.form.elim fun A' h => h.elim fun c' h => by injection h.1 with _ _ h2; subst h2; have := h.2.1; rwa [BB_length] at this), hb2⟩
    · have e2 : isF f = false := by simp [isF, e0, e1]
      rw [e2] at C2 ⊢
      go_enter Tryd.func32, Tryd.ntmps32
      go_wp2_with fail
      refine C.out.mono ?_
      rintro e w' ⟨rfl, rfl⟩
      go_wp2_with fail
      refine C2.out.mono ?_
      rintro e w' ⟨rfl, rfl⟩
      go_wp2
      go_ret
      exact ⟨none, 0, rfl, Own.nilv _ _ _, by decide, Below.refl _ _⟩
theorem room_any (S : Nat → Prop) (g : Nat) (d : DS) (n : Int) (w : World) (h : Dsk w S g d) :
    Calls Tryd.prog 27 #[.pointer (some ⟨g, 0, none⟩), .int .i64 n] w fun e w' => e = .returned (.tuple #[]) ∧ Dsk w' S g (d.roomM n) ∧ Upd S w w' := by
  obtain ⟨hok, hg, hS, A0, c0, A1, c1, hk, hf⟩ := h
  have h0 : w.cell? ⟨g, 0, none⟩ = some (.bool true) := hk.cell (j := 0) rfl
  have h6 : w.cell? ⟨g, 6, none⟩ = some (.int .i64 (d.room : Int)) := hk.cell (j := 6) rfl
  have hlt := hk.lt
  have z6 := hk.frozen 6
  have C := kept (none_cell g true w h0)
  have HM := kept (roomN_val n)
  have HO := kept (show (d.roomM n).Ok from ⟨hok.1, hok.2.1, hok.2.2.1, hok.2.2.2.1, hok.2.2.2.2.1, roomN_le n, hok.2.2.2.2.2.2⟩)
  have HK := kept hk
  have HF := kept hf
  have HS := kept hS
  clear hk hf hS hok
  go_enter Tryd.func27, Tryd.ntmps27
  go_wp2_with fail
  refine C.out.mono ?_
  rintro e w' ⟨rfl, rfl⟩
  go_wp2
  go_end0
  rw [HM.out]
  exact ⟨rfl, ⟨HO.out, hg, (fun k hk => by have := HS.out k hk; simpa [World.setCell] using this), A0, c0, A1, c1, HK.out.set 6 _, HF.out.set 6 _⟩, (Upd.refl S w).setCell (p := ⟨g, 6, none⟩) (.inl hg) _⟩
theorem fuse_any (S : Nat → Prop) (g : Nat) (d : DS) (n : Int) (w : World) (h : Dsk w S g d) (hn : -9223372036854775808 ≤ n ∧ n ≤ 9223372036854775807) :
    Calls Tryd.prog 18 #[.pointer (some ⟨g, 0, none⟩), .int .i64 n] w fun e w' => e = .returned (.tuple #[]) ∧ Dsk w' S g (d.fuseM n) ∧ Upd S w w' := by
  obtain ⟨hok, hg, hS, A0, c0, A1, c1, hk, hf⟩ := h
  have h0 : w.cell? ⟨g, 0, none⟩ = some (.bool true) := hk.cell (j := 0) rfl
  have h1 : w.cell? ⟨g, 1, none⟩ = some (.bool d.down) := hk.cell (j := 1) rfl
  have h7 : w.cell? ⟨g, 7, none⟩ = some (.int .i64 d.fuse) := hk.cell (j := 7) rfl
  have hlt := hk.lt
  have z7 := hk.frozen 7
  have C := kept (none_cell g true w h0)
  have HO := kept (show (d.fuseM n).Ok from by
    unfold DS.fuseM
    split
    · exact hok
    · exact ⟨hok.1, hok.2.1, hok.2.2.1, hok.2.2.2.1, hok.2.2.2.2.1, hok.2.2.2.2.2.1, by show -1 ≤ max n (-1); omega, by show max n (-1) ≤ _; omega⟩)
  have HK := kept hk
  have HF := kept hf
  have HS := kept hS
  clear hk hf hS hok
  obtain ⟨b0, s0, b1, s1, room, fuse, down⟩ := d
  unfold DS.fuseM at HO ⊢
  dsimp only at *
  cases down
  · simp only [Bool.false_eq_true, if_false] at HO ⊢
    go_enter Tryd.func18, Tryd.ntmps18
    go_wp2_with fail
    refine C.out.mono ?_
    rintro e w' ⟨rfl, rfl⟩
    go_wp2
    go_end0
    exact ⟨rfl, ⟨HO.out, hg, (fun k hk => by have := HS.out k hk; simpa [World.setCell] using this), A0, c0, A1, c1, HK.out.set 7 _, HF.out.set 7 _⟩, (Upd.refl S w).setCell (p := ⟨g, 7, none⟩) (.inl hg) _⟩
  · simp only [if_true] at HO ⊢
    go_enter Tryd.func18, Tryd.ntmps18
    go_wp2_with fail
    refine C.out.mono ?_
    rintro e w' ⟨rfl, rfl⟩
    go_wp2
    go_end0
    exact ⟨rfl, ⟨HO.out, hg, HS.out, A0, c0, A1, c1, HK.out, HF.out⟩, Upd.refl S w⟩
theorem new_any (n : Int) (w : World) :
    Calls Tryd.prog 17 #[.int .i64 n] w fun e w' => e = .returned (.pointer (some ⟨w.heap.size, 0, none⟩)) ∧ Dsk w' (fun k => k = w.heap.size) w.heap.size (newD n) ∧ Below w.heap.size w w' := by
  have hk := Blk.new w (DC ⟨[], 0, [], 0, 0, -1, false⟩ none 0 none 0) 85
  have hb : Below w.heap.size w (w.alloc (.cells (DC ⟨[], 0, [], 0, 0, -1, false⟩ none 0 none 0).toArray 85)) := (Below.refl _ _).alloc (Nat.le_refl _) _
  have hD : Dsk (w.alloc (.cells (DC ⟨[], 0, [], 0, 0, -1, false⟩ none 0 none 0).toArray 85)) (fun k => k = w.heap.size) w.heap.size ⟨[], 0, [], 0, 0, -1, false⟩ :=
    ⟨⟨(fun x hx => by cases hx), (fun x hx => by cases hx), Nat.le_refl _, Nat.le_refl _, by simp [DS.used], by simp, by simp, by simp⟩, rfl, (fun k hk => by subst hk; simp), none, 0, none, 0, hk, FOwn.nil _, FOwn.nil _, (fun x hx => by cases hx), (fun x hx => by cases hx), (fun x y hx => by cases hx)⟩
  have C := kept (room_any _ _ _ n _ hD)
  clear hD hk
  have HB := kept hb
  clear hb
  go_enter Tryd.func17, Tryd.ntmps17
  go_wp2_with fail
  refine C.out.mono ?_
  rintro e w' ⟨rfl, hd, hu⟩
  go_wp2
  go_ret
  exact ⟨rfl, hd, (hu.below (B := w.heap.size) (by simp) (fun i _ hi => by omega)) |> HB.out.trans⟩
end Go.Proofs.YtdlghabpnpbebaaDoor.Disk
