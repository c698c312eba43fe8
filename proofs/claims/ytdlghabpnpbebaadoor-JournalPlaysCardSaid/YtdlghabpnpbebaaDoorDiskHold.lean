/- Layer 22 (disk): how a disk lies in memory; the small calls. -/
import Derived.Test.YtdlghabpnpbebaaDoorFileMem
import Derived.Test.YtdlghabpnpbebaaDoorDiskMath
import Derived.Lib.MinMax
import Derived.BigQuiet
namespace Go.Proofs.YtdlghabpnpbebaaDoor.Disk
open Go.RowKit Go.Proofs.YtdlghabpnpbebaaDoor.Mem

/-- the cells of a disk -/
def DC (d : DS) (A0 : Option Addr) (c0 : Nat) (A1 : Option Addr) (c1 : Nat) : List Value := [.bool true, .bool d.down, .slice A0 d.b0.length c0, .int .i64 (d.s0 : Int), .slice A1 d.b1.length c1, .int .i64 (d.s1 : Int), .int .i64 (d.room : Int), .int .i64 d.fuse]
/-- the files' bytes lie on the ground S, apart from the disk's own block and from each other -/
def Files (w : World) (S : Nat → Prop) (g : Nat) (A0 : Option Addr) (c0 : Nat) (l0 : List Nat) (A1 : Option Addr) (c1 : Nat) (l1 : List Nat) : Prop :=
  FOwn w (.slice A0 l0.length c0) l0 ∧ FOwn w (.slice A1 l1.length c1) l1 ∧ (∀ x, A0 = some x → S x.block ∧ x.block ≠ g) ∧ (∀ x, A1 = some x → S x.block ∧ x.block ≠ g) ∧ ∀ x y, A0 = some x → A1 = some y → x.block ≠ y.block
def Dsk (w : World) (S : Nat → Prop) (g : Nat) (d : DS) : Prop :=
  d.Ok ∧ S g ∧ (∀ k, S k → k < w.heap.size) ∧ ∃ A0 c0 A1 c1, Blk w g (DC d A0 c0 A1 c1) 85 ∧ Files w S g A0 c0 d.b0 A1 c1 d.b1
/-- what a call on it gives -/
def Does (S : Nat → Prop) (g : Nat) (w : World) (d : DS) (v : Value) (e : Ending) (w' : World) : Prop := e = .returned v ∧ ∃ S', Dsk w' S' g d ∧ Goes S w S' w'
section
variable {w w' : World} {S T : Nat → Prop} {g : Nat} {A0 A1 : Option Addr} {c0 c1 : Nat} {l0 l1 : List Nat} {d : DS}
theorem ob_some {A : Option Addr} {n c k : Nat} (h : (Value.slice A n c).ownBlock = some k) : ∃ x, A = some x ∧ x.block = k := by
  rcases A with _ | a
  · cases h
  · exact ⟨a, rfl, Option.some.inj h⟩
theorem Files.upd (h : Files w S g A0 c0 l0 A1 c1 l1) (hu : Upd T w w') (hd : ∀ k, S k → k ≠ g → ¬ T k) : Files w' S g A0 c0 l0 A1 c1 l1 := by
  obtain ⟨h0, h1, h2, h3, h4⟩ := h
  refine ⟨h0.upd hu fun k hk => ?_, h1.upd hu fun k hk => ?_, h2, h3, h4⟩
  · obtain ⟨x, hx, rfl⟩ := ob_some hk
    exact hd _ (h2 x hx).1 (h2 x hx).2
  · obtain ⟨x, hx, rfl⟩ := ob_some hk
    exact hd _ (h3 x hx).1 (h3 x hx).2
theorem Files.set (h : Files w S g A0 c0 l0 A1 c1 l1) (j : Nat) (v : Value) : Files (w.setCell ⟨g, j, none⟩ v) S g A0 c0 l0 A1 c1 l1 :=
  h.upd (T := fun k => k = g) (Upd.setCell (S := fun k => k = g) (Upd.refl _ w) (p := ⟨g, j, none⟩) (.inl rfl) v) fun _ _ h1 => h1
theorem Files.len0 (h : Files w S g A0 c0 l0 A1 c1 l1) : l0.length ≤ c0 ∧ c0 ≤ maxLen := by
  obtain ⟨A, c, he, h1, h2, h3⟩ := h.1.form
  injection he with _ _ h4
  subst h4
  exact ⟨h1, h2⟩
theorem Files.len1 (h : Files w S g A0 c0 l0 A1 c1 l1) : l1.length ≤ c1 ∧ c1 ≤ maxLen := by
  obtain ⟨A, c, he, h1, h2, h3⟩ := h.2.1.form
  injection he with _ _ h4
  subst h4
  exact ⟨h1, h2⟩
theorem Files.rd0 (h : Files w S g A0 c0 l0 A1 c1 l1) : Rd w w.heap.size A0 (BB l0) := by
  obtain ⟨A, c, he, h1, h2, h3⟩ := h.1.form
  injection he with h4 _ h5
  subst h4
  exact h3
theorem Files.rd1 (h : Files w S g A0 c0 l0 A1 c1 l1) : Rd w w.heap.size A1 (BB l1) := by
  obtain ⟨A, c, he, h1, h2, h3⟩ := h.2.1.form
  injection he with h4 _ h5
  subst h4
  exact h3
theorem Files.swap (h : Files w S g A0 c0 l0 A1 c1 l1) : Files w S g A1 c1 l1 A0 c0 l0 := ⟨h.2.1, h.1, h.2.2.2.1, h.2.2.1, fun x y h1 h2 h3 => h.2.2.2.2 y x h2 h1 h3.symm⟩
/-- the first file's bytes have grown -/
theorem Files.grown {A' : Option Addr} {c' : Nat} {r : List Nat} (h : Files w S g A0 c0 l0 A1 c1 l1) (hg : g < w.heap.size) (ho : FOwn w' (.slice A' r.length c') r) (hu : ∀ S : Nat → Prop, (∀ k, (Value.slice A0 l0.length c0).ownBlock = some k → S k) → Upd S w w')
    (hx : ∀ x, A' = some x → (Value.slice A0 l0.length c0).ownBlock = some x.block ∨ w.heap.size ≤ x.block) :
    Files w' (fun k => S k ∨ ∃ x, A' = some x ∧ x.block = k) g A' c' r A1 c1 l1 ∧ Upd (fun k => S k ∧ k ≠ g) w w' := by
  obtain ⟨h0, h1, h2, h3, h4⟩ := h
  have U := hu (fun k => (Value.slice A0 l0.length c0).ownBlock = some k) fun _ h => h
  have hn : ∀ x, A' = some x → x.block ≠ g := fun x he => (hx x he).elim (fun h5 => by
    obtain ⟨y, hy, hz⟩ := ob_some h5
    rw [← hz]; exact (h2 y hy).2) (fun h5 => by omega)
  refine ⟨⟨ho, h1.upd U fun k hk h5 => ?_, fun x he => ⟨.inr ⟨x, he, rfl⟩, hn x he⟩, fun x he => ⟨.inl (h3 x he).1, (h3 x he).2⟩, fun x y he hf h5 => ?_⟩, hu _ fun k hk => ?_⟩
  · obtain ⟨x, hx1, rfl⟩ := ob_some hk
    obtain ⟨y, hy1, hy2⟩ := ob_some h5
    exact h4 y x hy1 hx1 hy2
  · rcases hx x he with h6 | h6
    · obtain ⟨z, hz1, hz2⟩ := ob_some h6
      exact h4 z y hz1 hf (hz2.trans h5)
    · have := h1.lt y.block (by subst hf; rfl)
      omega
  · obtain ⟨x, hx1, rfl⟩ := ob_some hk
    exact h2 x hx1
theorem Dsk.upd (h : Dsk w S g d) (hu : Upd T w w') (hd : ∀ k, S k → ¬ T k) : Dsk w' S g d := by
  obtain ⟨hok, hg, hS, A0, c0, A1, c1, hk, hf⟩ := h
  exact ⟨hok, hg, fun k hk => Nat.lt_of_lt_of_le (hS k hk) hu.size, A0, c0, A1, c1, hk.upd hu (hd g hg), hf.upd hu fun k hk _ => hd k hk⟩
theorem Dsk.next (h : Dsk w S g d) (hb : Below w.heap.size w w') : Dsk w' S g d := h.upd (Upd.of_below (S := fun _ => False) hb) fun _ _ e => e
theorem Dsk.drewN (h : Dsk w S g d) (q : Nat) : Dsk (w.drewN q) S g d := h
theorem Dsk.under (h : Dsk w S g d) : ∀ k, S k → k < w.heap.size := h.2.2.1
theorem Dsk.ok (h : Dsk w S g d) : d.Ok := h.1
theorem Does.stay {v : Value} {w1 : World} (h : Dsk w1 S g d) (hu : Upd S w w1) : Does S g w d v (.returned v) w1 := ⟨rfl, S, h, hu, fun _ h => .inl h⟩
theorem Does.then {w1 : World} {v : Value} {e : Ending} (h : Below w.heap.size w w1) (k : Does S g w1 d v e w') : Does S g w d v e w' := by
  obtain ⟨he, S', h1, h2, h3⟩ := k
  exact ⟨he, S', h1, (Upd.of_below h).trans h2, fun i hi => (h3 i hi).elim .inl fun h4 => .inr (Nat.le_trans h.size h4)⟩
end
theorem none_cell (g : Nat) (b : Bool) (w : World) (h : w.cell? ⟨g, 0, none⟩ = some (.bool b)) :
    Calls Tryd.prog 40 #[.pointer (some ⟨g, 0, none⟩)] w fun e w' => e = .returned (.bool (!b)) ∧ w = w' := by
  cases b <;> (go_enter Tryd.func40, Tryd.ntmps40; go_wp2; go_ret; exact ⟨rfl, rfl⟩)
theorem none_nil (w : World) : Calls Tryd.prog 40 #[.pointer none] w fun e w' => e = .returned (.bool true) ∧ w = w' := by
  go_enter Tryd.func40, Tryd.ntmps40
  go_wp2
  go_ret
  exact ⟨rfl, rfl⟩
theorem is_any (f : Int) (w : World) (hf : -9223372036854775808 ≤ f ∧ f ≤ 9223372036854775807) : Calls Tryd.prog 53 #[.int .i64 f] w fun e w' => e = .returned (.bool (isF f)) ∧ w = w' := by
  by_cases h0 : f = 0
  · subst h0
    go_enter Tryd.func53, Tryd.ntmps53
    go_wp2
    go_ret
    exact ⟨rfl, rfl⟩
  · by_cases h1 : f = 1
    · subst h1
      go_enter Tryd.func53, Tryd.ntmps53
      go_wp2
      go_ret
      exact ⟨rfl, rfl⟩
    · have hf2 : isF f = (f == 0 || f == 1) := rfl
      rw [hf2]
      go_enter Tryd.func53, Tryd.ntmps53
      go_wp2
      go_ret
      exact ⟨rfl, rfl⟩
/-- a write that may not be -/
theorem write_no (g : Nat) (b ok : Bool) (w : World) (h : w.cell? ⟨g, 0, none⟩ = some (.bool b)) (hn : b = false ∨ ok = false) :
    Calls Tryd.prog 59 #[.pointer (some ⟨g, 0, none⟩), .bool ok] w fun e w' => e = .returned (.int .i64 1) ∧ w = w' := by
  have C := kept (none_cell g b w h)
  rcases hn with rfl | rfl
  · go_enter Tryd.func59, Tryd.ntmps59
    go_wp2_with fail
    refine C.out.mono ?_
    rintro e w' ⟨rfl, rfl⟩
    go_wp2
    go_ret
    exact ⟨rfl, rfl⟩
  · cases b <;> (go_enter Tryd.func59, Tryd.ntmps59; go_wp2_with fail; refine C.out.mono ?_; rintro e w' ⟨rfl, rfl⟩; go_wp2; go_ret; exact ⟨rfl, rfl⟩)
theorem write_nil (ok : Bool) (w : World) :
    Calls Tryd.prog 59 #[.pointer none, .bool ok] w fun e w' => e = .returned (.int .i64 1) ∧ w = w' := by
  have C := kept (none_nil w)
  go_enter Tryd.func59, Tryd.ntmps59
  go_wp2_with fail
  refine C.out.mono ?_
  rintro e w' ⟨rfl, rfl⟩
  go_wp2
  go_ret
  exact ⟨rfl, rfl⟩
/-- a write that may be: the fuse burns -/
theorem write_yes (S : Nat → Prop) (g : Nat) (d : DS) (w : World) (h : Dsk w S g d) :
    Calls Tryd.prog 59 #[.pointer (some ⟨g, 0, none⟩), .bool true] w fun e w' => e = .returned (.int .i64 (if d.burn.down = true then 14 else 0)) ∧ Dsk w' S g d.burn ∧ Upd (fun k => k = g) w w' := by
  have hb := burn_ok h.ok
  obtain ⟨hok, hg, hS, A0, c0, A1, c1, hk, hf⟩ := h
  obtain ⟨b0, s0, b1, s1, room, fuse, down⟩ := d
  obtain ⟨-, -, -, -, -, -, hf1, hf2⟩ := hok
  replace hf1 : -1 ≤ fuse := hf1
  replace hf2 : fuse ≤ 9223372036854775807 := hf2
  have h0 : w.cell? ⟨g, 0, none⟩ = some (.bool true) := hk.cell (j := 0) rfl
  have h1 : w.cell? ⟨g, 1, none⟩ = some (.bool down) := hk.cell (j := 1) rfl
  have h7 : w.cell? ⟨g, 7, none⟩ = some (.int .i64 fuse) := hk.cell (j := 7) rfl
  have hlt := hk.lt
  have z1 := hk.frozen 1
  have z7 := hk.frozen 7
  have C := kept (none_cell g true w h0)
  have HK := kept hk
  have HF := kept hf
  have HS := kept hS
  clear hk hf hS
  unfold DS.burn at hb ⊢
  dsimp only at hb ⊢
  by_cases hz : fuse = 0
  · subst hz
    rw [if_pos rfl] at hb ⊢
    have HB := kept hb
    clear hb
    go_enter Tryd.func59, Tryd.ntmps59
    go_wp2_with fail
    refine C.out.mono ?_
    rintro e w' ⟨rfl, rfl⟩
    go_wp2
    go_ret
    exact ⟨rfl, ⟨HB.out, hg, (fun k hk => by have := HS.out k hk; simpa [World.setCell] using this), A0, c0, A1, c1, HK.out.set 1 _, HF.out.set 1 _⟩, (Upd.refl (fun k => k = g) w).setCell (p := ⟨g, 1, none⟩) (.inl rfl) _⟩
  · rw [if_neg hz] at hb ⊢
    cases down
    · simp only [Bool.false_eq_true, if_false] at hb ⊢
      have HB := kept hb
      clear hb
      go_enter Tryd.func59, Tryd.ntmps59
      go_wp2_with fail
      refine C.out.mono ?_
      rintro e w' ⟨rfl, rfl⟩
      go_wp2
      go_ret
      exact ⟨rfl, ⟨HB.out, hg, (fun k hk => by have := HS.out k hk; simpa [World.setCell] using this), A0, c0, A1, c1, HK.out.set 7 _, HF.out.set 7 _⟩, (Upd.refl (fun k => k = g) w).setCell (p := ⟨g, 7, none⟩) (.inl rfl) _⟩
    · rw [if_pos rfl] at hb ⊢
      have HB := kept hb
      clear hb
      go_enter Tryd.func59, Tryd.ntmps59
      go_wp2_with fail
      refine C.out.mono ?_
      rintro e w' ⟨rfl, rfl⟩
      go_wp2
      go_ret
      exact ⟨rfl, ⟨HB.out, hg, HS.out, A0, c0, A1, c1, HK.out, HF.out⟩, Upd.refl _ w⟩
end Go.Proofs.YtdlghabpnpbebaaDoor.Disk
