/- Layer 22 (disk): the walk of Cut. -/
import Derived.Test.YtdlghabpnpbebaaDoorDiskSync
namespace Go.Proofs.YtdlghabpnpbebaaDoor.Disk
open Go.RowKit Go.Proofs.YtdlghabpnpbebaaDoor.Mem

/-- may a file be cut so? -/
def DS.cutOk (d : DS) (f n : Int) : Prop := isF f = true ∧ 0 ≤ n ∧ n ≤ (d.b f).length
theorem cut_no (S : Nat → Prop) (g : Nat) (d : DS) (f n : Int) (w : World) (h : Dsk w S g d) (hf : -9223372036854775808 ≤ f ∧ f ≤ 9223372036854775807) (hi : ¬ d.cutOk f n) :
    Calls Tryd.prog 37 #[.pointer (some ⟨g, 0, none⟩), .int .i64 f, .int .i64 n] w (Does S g w d (.int .i64 1)) := by
  have HD := kept h
  have CR := kept (read_any S g d f w h hf)
  obtain ⟨-, -, -, A0, c0, A1, c1, hk, -⟩ := h
  have h0 : w.cell? ⟨g, 0, none⟩ = some (.bool true) := hk.cell (j := 0) rfl
  have hlt := hk.lt
  have C := kept (fun W (hb : Below w.heap.size w W) => write_no g true false W ((hb.cell (p := ⟨g, 0, none⟩) hlt).trans h0) (.inr rfl))
  have C2 := is_any f w hf
  have C0 := kept (none_cell g true w h0)
  clear hk
  cases hfi : isF f with
  | false =>
    rw [hfi] at C2
    have C2 := kept C2
    clear hi
    go_enter Tryd.func37, Tryd.ntmps37
    go_wp2_with fail
    refine C0.out.mono ?_
    rintro e w' ⟨rfl, rfl⟩
    go_wp2_with fail
    refine C2.out.mono ?_
    rintro e w' ⟨rfl, rfl⟩
    go_wp2_with fail
    refine (C.out _ (Below.refl _ _)).mono ?_
    rintro e w' ⟨rfl, rfl⟩
    go_wp2
    go_ret
    exact Does.stay HD.out (Upd.refl _ _)
  | true =>
    rw [hfi] at C2
    have C2 := kept C2
    by_cases hn0 : 0 ≤ n
    · have hlen : ¬ n ≤ ((d.readM f).length : Int) := fun h => hi ⟨hfi, hn0, by rw [DS.readM, hfi, if_pos rfl] at h; exact h⟩
      clear hi
      generalize d.readM f = l at *
      go_enter Tryd.func37, Tryd.ntmps37
      go_wp2_with fail
      refine C0.out.mono ?_
      rintro e w' ⟨rfl, rfl⟩
      go_wp2_with fail
      refine C2.out.mono ?_
      rintro e w' ⟨rfl, rfl⟩
      go_wp2_with fail
      refine CR.out.mono ?_
      rintro e w1 ⟨A2, c2, rfl, -, -, hb⟩
      have C1 := kept (C.out _ hb)
      clear C
      have hdec : decide (n ≤ (l.length : Int)) = false := decide_eq_false (by omega)
      go_wp2_with fail
      refine C1.out.mono ?_
      rintro e w' ⟨rfl, rfl⟩
      go_wp2
      go_ret
      exact Does.stay (HD.out.next hb) (Upd.of_below hb)
    · clear hi
      go_enter Tryd.func37, Tryd.ntmps37
      go_wp2_with fail
      refine C0.out.mono ?_
      rintro e w' ⟨rfl, rfl⟩
      go_wp2_with fail
      refine C2.out.mono ?_
      rintro e w' ⟨rfl, rfl⟩
      go_wp2_with fail
      refine (C.out _ (Below.refl _ _)).mono ?_
      rintro e w' ⟨rfl, rfl⟩
      go_wp2
      go_ret
      exact Does.stay HD.out (Upd.refl _ _)
theorem fcut0 {w : World} {S : Nat → Prop} {g : Nat} {A0 A1 : Option Addr} {c0 c1 n : Nat} {b0 b1 : List Nat} (h : Files w S g A0 c0 b0 A1 c1 b1) (hn : n ≤ b0.length) (u v : Value) :
    Files ((w.setCell ⟨g, 2, none⟩ u).setCell ⟨g, 3, none⟩ v) S g A0 n (b0.take n) A1 c1 b1 := by
  refine Files.set (Files.set (w := w) ⟨?_, h.2⟩ 2 u) 3 v
  have := h.1.cut hn
  have hl : (b0.take n).length = n := by rw [List.length_take]; omega
  rw [hl]
  exact this
theorem cut_0 (S : Nat → Prop) (g : Nat) (d : DS) (n : Nat) (w : World) (h : Dsk w S g d) (hn : n ≤ d.b0.length) :
    Calls Tryd.prog 37 #[.pointer (some ⟨g, 0, none⟩), .int .i64 0, .int .i64 (n : Int)] w (Does S g w (d.cutM 0 (n : Int)).1 (.int .i64 ((d.cutM 0 (n : Int)).2 : Int))) := by
  have CR := kept (read_any S g d 0 w h (by decide))
  have CW := kept (fun W (hb : Below w.heap.size w W) => write_yes S g d W (h.next hb))
  have C2 := kept (is_any 0 w (by decide))
  have hlr : n ≤ (d.readM 0).length := hn
  have hb0 : d.burn.b0 = d.b0 := (burn_b d).1
  have hsw := h.under
  have hgw := h.2.1
  rw [← hb0] at hn
  have C0 : Calls Tryd.prog 40 #[.pointer (some ⟨g, 0, none⟩)] w fun e w' => e = .returned (.bool false) ∧ w = w' := by
    obtain ⟨-, -, -, A0, c0, A1, c1, hk, -⟩ := h
    exact none_cell g true w (hk.cell (j := 0) rfl)
  have C0 := kept C0
  obtain ⟨e, he⟩ : ∃ e, d.burn = e := ⟨_, rfl⟩
  have HE : Kept (d.cutM 0 (n : Int) = (if e.down = true then (e, 14) else (⟨e.b0.take n, n, e.b1, e.s1, e.room, e.fuse, e.down⟩, 0))) := ⟨by
    have hc : isF 0 = true ∧ (0 : Int) ≤ (n : Int) ∧ (n : Int) ≤ ((d.b 0).length : Int) := ⟨rfl, by omega, by have : n ≤ (d.b 0).length := hlr; omega⟩
    unfold DS.cutM
    rw [if_pos hc, ← he]; rfl⟩
  generalize d.cutM 0 (n : Int) = r at *
  rw [he] at CW hn
  generalize d.readM 0 = lr at *
  clear he h hb0
  rw [show isF 0 = true from rfl] at C2
  go_enter Tryd.func37, Tryd.ntmps37
  go_wp2_with fail
  refine C0.out.mono ?_
  rintro e w' ⟨rfl, rfl⟩
  go_wp2_with fail
  refine C2.out.mono ?_
  rintro e w' ⟨rfl, rfl⟩
  go_wp2_with fail
  refine CR.out.mono ?_
  rintro e w0 ⟨A2, c2, rfl, -, -, hb⟩
  have CX := kept (CW.out _ hb)
  have HB := kept hb
  clear CW hb
  go_wp2_with fail
  refine CX.out.mono ?_
  rintro e1 w1 ⟨rfl, hD, hu⟩
  have HU := kept ((Upd.of_below (S := S) HB.out).trans (hu.mono (T := S) fun i _ hi => by subst hi; exact hgw))
  have HD := kept hD
  clear hu
  obtain ⟨b0, s0, b1, s1, room, fuse, down⟩ := e
  cases down with
  | true =>
    obtain rfl : r = (_, 14) := HE.out
    go_wp2
    go_ret
    exact Does.stay HD.out HU.out
  | false =>
    obtain rfl : r = (⟨b0.take n, n, b1, s1, room, fuse, false⟩, 0) := HE.out
    have hok := hD.ok
    obtain ⟨-, hg, hS, A0, c0, A1, c1, hk, hfl⟩ := hD
    have h2 : w1.cell? ⟨g, 2, none⟩ = some (.slice A0 b0.length c0) := hk.cell (j := 2) rfl
    have h3 : w1.cell? ⟨g, 3, none⟩ = some (.int .i64 (s0 : Int)) := hk.cell (j := 3) rfl
    have hlt := hk.lt
    have hz2 := hk.frozen 2
    have hz3 := hk.frozen 3
    have hus : b0.length + b1.length ≤ 1048576 := hok.2.2.2.2.1
    have hn' : n ≤ b0.length := hn
    have hc0 := hfl.len0.1
    have hc1 := hfl.len0.2
    have hnc : n ≤ c0 := Nat.le_trans hn' hc0
    have HFL := kept hfl
    have HK := kept hk
    have HS := kept hS
    have hlt' : (b0.take n).length = n := by rw [List.length_take]; omega
    have hdk : Blk (((w1.setCell ⟨g, 2, none⟩ (.slice A0 n n)).setCell ⟨g, 3, none⟩ (.int .i64 (n : Int))).drew) g (DC ⟨b0.take n, n, b1, s1, room, fuse, false⟩ A0 n A1 c1) 85 := by
      unfold DC
      dsimp only
      rw [hlt']
      exact (hk.set 2 _).set 3 _
    have HDK := kept hdk
    clear hlt' hdk
    have HFC := kept (fcut0 hfl hn' (.slice A0 n n) (.int .i64 (n : Int)))
    clear hk hfl HD hS HE hn
    go_wp2
    go_region_law (fail)
    all_goals
      go_wp2
      go_ret
      refine ⟨rfl, S, ⟨⟨take_all hok.1 n, hok.2.1, by show n ≤ (b0.take n).length; rw [List.length_take]; omega, hok.2.2.2.1, by show (b0.take n).length + b1.length ≤ _; rw [List.length_take]; omega, hok.2.2.2.2.2⟩, hg, (fun k hk => by have := HS.out k hk; simpa [World.setCell] using this), A0, n, A1, c1, HDK.out, HFC.out⟩, ((HU.out.setCell (p := ⟨g, 2, none⟩) (.inl hg) _).setCell (p := ⟨g, 3, none⟩) (.inl hg) _).drew, fun k h => .inl h⟩
theorem fcut1 {w : World} {S : Nat → Prop} {g : Nat} {A0 A1 : Option Addr} {c0 c1 n : Nat} {b0 b1 : List Nat} (h : Files w S g A0 c0 b0 A1 c1 b1) (hn : n ≤ b1.length) (u v : Value) :
    Files ((w.setCell ⟨g, 4, none⟩ u).setCell ⟨g, 5, none⟩ v) S g A0 c0 b0 A1 n (b1.take n) := by
  refine Files.set (Files.set (w := w) ⟨h.1, ?_, h.2.2⟩ 4 u) 5 v
  have := h.2.1.cut hn
  have hl : (b1.take n).length = n := by rw [List.length_take]; omega
  rw [hl]
  exact this
theorem cut_1 (S : Nat → Prop) (g : Nat) (d : DS) (n : Nat) (w : World) (h : Dsk w S g d) (hn : n ≤ d.b1.length) :
    Calls Tryd.prog 37 #[.pointer (some ⟨g, 0, none⟩), .int .i64 1, .int .i64 (n : Int)] w (Does S g w (d.cutM 1 (n : Int)).1 (.int .i64 ((d.cutM 1 (n : Int)).2 : Int))) := by
  have CR := kept (read_any S g d 1 w h (by decide))
  have CW := kept (fun W (hb : Below w.heap.size w W) => write_yes S g d W (h.next hb))
  have C2 := kept (is_any 1 w (by decide))
  have hlr : n ≤ (d.readM 1).length := hn
  have hb0 : d.burn.b1 = d.b1 := (burn_b d).2.1
  have hsw := h.under
  have hgw := h.2.1
  rw [← hb0] at hn
  have C0 : Calls Tryd.prog 40 #[.pointer (some ⟨g, 0, none⟩)] w fun e w' => e = .returned (.bool false) ∧ w = w' := by
    obtain ⟨-, -, -, A0, c0, A1, c1, hk, -⟩ := h
    exact none_cell g true w (hk.cell (j := 0) rfl)
  have C0 := kept C0
  obtain ⟨e, he⟩ : ∃ e, d.burn = e := ⟨_, rfl⟩
  have HE : Kept (d.cutM 1 (n : Int) = (if e.down = true then (e, 14) else (⟨e.b0, e.s0, e.b1.take n, n, e.room, e.fuse, e.down⟩, 0))) := ⟨by
    have hc : isF 1 = true ∧ (0 : Int) ≤ (n : Int) ∧ (n : Int) ≤ ((d.b 1).length : Int) := ⟨rfl, by omega, by have : n ≤ (d.b 1).length := hlr; omega⟩
    unfold DS.cutM
    rw [if_pos hc, ← he]; rfl⟩
  generalize d.cutM 1 (n : Int) = r at *
  rw [he] at CW hn
  generalize d.readM 1 = lr at *
  clear he h hb0
  rw [show isF 1 = true from rfl] at C2
  go_enter Tryd.func37, Tryd.ntmps37
  go_wp2_with fail
  refine C0.out.mono ?_
  rintro e w' ⟨rfl, rfl⟩
  go_wp2_with fail
  refine C2.out.mono ?_
  rintro e w' ⟨rfl, rfl⟩
  go_wp2_with fail
  refine CR.out.mono ?_
  rintro e w0 ⟨A2, c2, rfl, -, -, hb⟩
  have CX := kept (CW.out _ hb)
  have HB := kept hb
  clear CW hb
  go_wp2_with fail
  refine CX.out.mono ?_
  rintro e1 w1 ⟨rfl, hD, hu⟩
  have HU := kept ((Upd.of_below (S := S) HB.out).trans (hu.mono (T := S) fun i _ hi => by subst hi; exact hgw))
  have HD := kept hD
  clear hu
  obtain ⟨b0, s0, b1, s1, room, fuse, down⟩ := e
  cases down with
  | true =>
    obtain rfl : r = (_, 14) := HE.out
    go_wp2
    go_ret
    exact Does.stay HD.out HU.out
  | false =>
    obtain rfl : r = (⟨b0, s0, b1.take n, n, room, fuse, false⟩, 0) := HE.out
    have hok := hD.ok
    obtain ⟨-, hg, hS, A0, c0, A1, c1, hk, hfl⟩ := hD
    have h2 : w1.cell? ⟨g, 4, none⟩ = some (.slice A1 b1.length c1) := hk.cell (j := 4) rfl
    have h3 : w1.cell? ⟨g, 5, none⟩ = some (.int .i64 (s1 : Int)) := hk.cell (j := 5) rfl
    have hlt := hk.lt
    have hz2 := hk.frozen 4
    have hz3 := hk.frozen 5
    have hus : b0.length + b1.length ≤ 1048576 := hok.2.2.2.2.1
    have hn' : n ≤ b1.length := hn
    have hc0 := hfl.len1.1
    have hc1 := hfl.len1.2
    have hnc : n ≤ c1 := Nat.le_trans hn' hc0
    have HFL := kept hfl
    have HK := kept hk
    have HS := kept hS
    have hlt' : (b1.take n).length = n := by rw [List.length_take]; omega
    have hdk : Blk (((w1.setCell ⟨g, 4, none⟩ (.slice A1 n n)).setCell ⟨g, 5, none⟩ (.int .i64 (n : Int))).drew) g (DC ⟨b0, s0, b1.take n, n, room, fuse, false⟩ A0 c0 A1 n) 85 := by
      unfold DC
      dsimp only
      rw [hlt']
      exact (hk.set 4 _).set 5 _
    have HDK := kept hdk
    clear hlt' hdk
    have HFC := kept (fcut1 hfl hn' (.slice A1 n n) (.int .i64 (n : Int)))
    clear hk hfl HD hS HE hn
    go_wp2
    go_region_law (fail)
    all_goals
      go_wp2
      go_ret
      refine ⟨rfl, S, ⟨⟨hok.1, take_all hok.2.1 n, hok.2.2.1, by show n ≤ (b1.take n).length; rw [List.length_take]; omega, by show b0.length + (b1.take n).length ≤ _; rw [List.length_take]; omega, hok.2.2.2.2.2⟩, hg, (fun k hk => by have := HS.out k hk; simpa [World.setCell] using this), A0, c0, A1, n, HDK.out, HFC.out⟩, ((HU.out.setCell (p := ⟨g, 4, none⟩) (.inl hg) _).setCell (p := ⟨g, 5, none⟩) (.inl hg) _).drew, fun k h => .inl h⟩
theorem cut_any (S : Nat → Prop) (g : Nat) (d : DS) (f n : Int) (w : World) (h : Dsk w S g d) (hf : -9223372036854775808 ≤ f ∧ f ≤ 9223372036854775807) :
    Calls Tryd.prog 37 #[.pointer (some ⟨g, 0, none⟩), .int .i64 f, .int .i64 n] w (Does S g w (d.cutM f n).1 (.int .i64 ((d.cutM f n).2 : Int))) := by
  by_cases hc : d.cutOk f n
  · obtain ⟨h1, h2, h3⟩ := id hc
    obtain ⟨k, rfl⟩ : ∃ k : Nat, (k : Int) = n := ⟨n.toNat, by omega⟩
    by_cases h0 : f = 0
    · subst h0
      have h4 : (k : Int) ≤ (d.b0.length : Int) := h3
      exact cut_0 S g d k w h (by omega)
    · have h5 : f = 1 := by simpa [isF, h0] using h1
      subst h5
      have h4 : (k : Int) ≤ (d.b1.length : Int) := h3
      exact cut_1 S g d k w h (by omega)
  · have he : d.cutM f n = (d, 1) := by unfold DS.cutM; exact if_neg hc
    rw [he]
    exact cut_no S g d f n w h hf hc
end Go.Proofs.YtdlghabpnpbebaaDoor.Disk
