/- Layer 22 (disk): the walk of Copy. -/
import Derived.Test.YtenkccfglmkdmaaDiskCrash
namespace Go.Proofs.Ytenkccfglmkdmaa.Disk
open Go.RowKit Go.Proofs.Ytenkccfglmkdmaa.Mem

/-- what there is behind j rounds -/
def CpIn (w : World) (d : DS) (A0 : Option Addr) (c0 : Nat) (A1 : Option Addr) (c1 : Nat) (j : Nat) (wr : World) : Prop :=
  Below w.heap.size w wr ∧ ∃ B0 e0 B1 e1, Blk wr w.heap.size (DC d B0 e0 B1 e1) 60 ∧ (j = 0 → B0 = A0 ∧ e0 = c0) ∧ (j ≤ 1 → B1 = A1 ∧ e1 = c1) ∧
    (1 ≤ j → FOwn wr (.slice B0 d.b0.length e0) d.b0 ∧ ∀ x, B0 = some x → w.heap.size < x.block) ∧
    (2 ≤ j → FOwn wr (.slice B1 d.b1.length e1) d.b1 ∧ (∀ x, B1 = some x → w.heap.size < x.block) ∧ ∀ x y, B0 = some x → B1 = some y → x.block ≠ y.block)
theorem cp_0 {w wr w3 : World} {d : DS} {A0 A1 A : Option Addr} {c0 c1 c : Nat} {r : List Nat} (h : CpIn w d A0 c0 A1 c1 0 wr) (hb : Below wr.heap.size wr w3) (ho : Own w3 wr.heap.size 5 (.slice A r.length c) (BB r)) (he : r = d.b0) :
    CpIn w d A0 c0 A1 c1 1 (w3.setCell ⟨w.heap.size, 2, none⟩ (.slice A r.length c)) := by
  obtain ⟨hu, B0, e0, B1, e1, hk, q0, q1, -, -⟩ := h
  subst he
  have hl := hk.lt
  have hu2 : Upd (fun k => k = w.heap.size) w3 (w3.setCell ⟨w.heap.size, 2, none⟩ (.slice A d.b0.length c)) := Upd.setCell (S := fun k => k = w.heap.size) (Upd.refl _ w3) (p := ⟨w.heap.size, 2, none⟩) (.inl rfl) _
  refine ⟨(hu.trans (hb.mono hu.size)).setCell (p := ⟨w.heap.size, 2, none⟩) (Nat.le_refl _) _, A, c, B1, e1, (hk.below hb hl).set 2 _, (fun h => absurd h (by decide)), (fun _ => q1 (by decide)), (fun _ => ⟨FOwn.upd (.inl (ho.mono (Nat.zero_le _))) hu2 fun k hk e => ?_, fun x hx => ?_⟩), fun h => absurd h (by decide)⟩
  · have := (ho.lt k hk).1
    omega
  · subst hx
    exact Nat.lt_of_lt_of_le hl (ho.lt x.block rfl).1
theorem cp_1 {w wr w3 : World} {d : DS} {A0 A1 A : Option Addr} {c0 c1 c : Nat} {r : List Nat} (h : CpIn w d A0 c0 A1 c1 1 wr) (hb : Below wr.heap.size wr w3) (ho : Own w3 wr.heap.size 5 (.slice A r.length c) (BB r)) (he : r = d.b1) :
    CpIn w d A0 c0 A1 c1 2 (w3.setCell ⟨w.heap.size, 4, none⟩ (.slice A r.length c)) := by
  obtain ⟨hu, B0, e0, B1, e1, hk, -, -, q2, -⟩ := h
  obtain ⟨q3, q4⟩ := q2 (by decide)
  subst he
  have hl := hk.lt
  have hu2 : Upd (fun k => k = w.heap.size) w3 (w3.setCell ⟨w.heap.size, 4, none⟩ (.slice A d.b1.length c)) := Upd.setCell (S := fun k => k = w.heap.size) (Upd.refl _ w3) (p := ⟨w.heap.size, 4, none⟩) (.inl rfl) _
  have hx0 : ∀ x, B0 = some x → x.block < wr.heap.size := fun x hx => by subst hx; exact q3.lt x.block rfl
  have hne : ∀ x, A = some x → wr.heap.size ≤ x.block := fun x hx => by subst hx; exact (ho.lt x.block rfl).1
  refine ⟨(hu.trans (hb.mono hu.size)).setCell (p := ⟨w.heap.size, 4, none⟩) (Nat.le_refl _) _, B0, e0, A, c, (hk.below hb hl).set 4 _, (fun h => absurd h (by decide)), (fun h => absurd h (by decide)), (fun _ => ⟨(q3.next hb).upd hu2 fun k hk e => ?_, q4⟩), fun _ => ⟨FOwn.upd (.inl (ho.mono (Nat.zero_le _))) hu2 fun k hk e => ?_, fun x hx => Nat.lt_of_lt_of_le hl (hne x hx), fun x y hx hy e => ?_⟩⟩
  · obtain ⟨x, hx, rfl⟩ := ob_some hk
    have := q4 x hx
    omega
  · have := (ho.lt k hk).1
    omega
  · have h1 := hx0 x hx
    have h2 := hne y hy
    omega
theorem cp_end {w wr : World} {d : DS} {A0 A1 : Option Addr} {c0 c1 : Nat} (hok : d.Ok) (h : CpIn w d A0 c0 A1 c1 2 wr) : ∃ S, Dsk wr S w.heap.size d ∧ (∀ k, S k → w.heap.size ≤ k) ∧ Below w.heap.size w wr := by
  obtain ⟨hu, B0, e0, B1, e1, hk, -, -, q2, q3⟩ := h
  obtain ⟨o0, y0⟩ := q2 (by decide)
  obtain ⟨o1, y1, y2⟩ := q3 (by decide)
  refine ⟨fun k => k = w.heap.size ∨ (∃ x, B0 = some x ∧ x.block = k) ∨ ∃ x, B1 = some x ∧ x.block = k, ⟨hok, .inl rfl, fun k hk2 => ?_, B0, e0, B1, e1, hk, o0, o1, fun x hx => ⟨.inr (.inl ⟨x, hx, rfl⟩), by have := y0 x hx; omega⟩, fun x hx => ⟨.inr (.inr ⟨x, hx, rfl⟩), by have := y1 x hx; omega⟩, y2⟩, fun k hk2 => ?_, hu⟩
  · rcases hk2 with rfl | ⟨x, hx, rfl⟩ | ⟨x, hx, rfl⟩
    · exact hk.lt
    · subst hx; exact o0.lt x.block rfl
    · subst hx; exact o1.lt x.block rfl
  · rcases hk2 with rfl | ⟨x, hx, rfl⟩ | ⟨x, hx, rfl⟩
    · exact Nat.le_refl _
    · have := y0 x hx; omega
    · have := y1 x hx; omega
set_option maxHeartbeats 4000000 in
theorem copy_any (S : Nat → Prop) (g : Nat) (d : DS) (w : World) (h : Dsk w S g d) :
    Calls Try.prog 26 #[.pointer (some ⟨g, 0, none⟩)] w fun e w' => e = .returned (.pointer (some ⟨w.heap.size, 0, none⟩)) ∧ ∃ S', Dsk w' S' w.heap.size d ∧ (∀ k, S' k → w.heap.size ≤ k) ∧ Below w.heap.size w w' := by
  have hok := h.ok
  obtain ⟨-, hg, hS, A0, c0, A1, c1, hk, hfl⟩ := h
  have h0 : w.cell? ⟨g, 0, none⟩ = some (.bool true) := hk.cell (j := 0) rfl
  have h1 : w.cell? ⟨g, 1, none⟩ = some (.bool d.down) := hk.cell (j := 1) rfl
  have h2 : w.cell? ⟨g, 2, none⟩ = some (.slice A0 d.b0.length c0) := hk.cell (j := 2) rfl
  have h3 : w.cell? ⟨g, 3, none⟩ = some (.int .i64 (d.s0 : Int)) := hk.cell (j := 3) rfl
  have h4 : w.cell? ⟨g, 4, none⟩ = some (.slice A1 d.b1.length c1) := hk.cell (j := 4) rfl
  have h5 : w.cell? ⟨g, 5, none⟩ = some (.int .i64 (d.s1 : Int)) := hk.cell (j := 5) rfl
  have h6 : w.cell? ⟨g, 6, none⟩ = some (.int .i64 (d.room : Int)) := hk.cell (j := 6) rfl
  have h7 : w.cell? ⟨g, 7, none⟩ = some (.int .i64 d.fuse) := hk.cell (j := 7) rfl
  have hlt := hk.lt
  have C := kept (none_cell g true w h0)
  have HI : Kept (CpIn w d A0 c0 A1 c1 0 (w.alloc (.cells (DC d A0 c0 A1 c1).toArray 60))) := ⟨(Below.refl _ _).alloc (Nat.le_refl _) _, A0, c0, A1, c1, Blk.new w (DC d A0 c0 A1 c1) _, (fun _ => ⟨rfl, rfl⟩), (fun _ => ⟨rfl, rfl⟩), (fun h => absurd h (by decide)), fun h => absurd h (by decide)⟩
  have HFL := kept hfl
  have HO := kept hok
  have hus : d.b0.length + d.b1.length ≤ 1048576 := hok.2.2.2.2.1
  clear hk hfl hS hok
  have i0 : ∀ W, (Instr.index 58 (.agg #[.slice A0 d.b0.length c0, .int .i64 (d.s0 : Int), .slice A1 d.b1.length c1, .int .i64 (d.s1 : Int)]) (.int .i64 0)).run Try.prog W = .ok (.agg #[.slice A0 d.b0.length c0, .int .i64 (d.s0 : Int)]) W := fun _ => by kernel_rfl
  have i1 : ∀ W, (Instr.index 58 (.agg #[.slice A0 d.b0.length c0, .int .i64 (d.s0 : Int), .slice A1 d.b1.length c1, .int .i64 (d.s1 : Int)]) (.int .i64 1)).run Try.prog W = .ok (.agg #[.slice A1 d.b1.length c1, .int .i64 (d.s1 : Int)]) W := fun _ => by kernel_rfl
  go_enter Try.func26, Try.ntmps26
  go_wp2_with fail
  refine C.out.mono ?_
  rintro e w' ⟨rfl, rfl⟩
  go_wp2
  go_loopw [15] (fun i wr => ∃ j : Nat, j ≤ 2 ∧ i = .int .i64 (j : Int) ∧ Kept (CpIn w d A0 c0 A1 c1 j wr)) (fun i _ => 2 - (intOf i).toNat)
  case atStart => exact ⟨0, by omega, rfl, HI⟩
  case round =>
    obtain ⟨j, hj, rfl, hin⟩ := hrel
    have hj3 : j = 0 ∨ j = 1 ∨ j = 2 := by omega
    rcases hj3 with rfl | rfl | rfl
    · obtain ⟨hu, B0, e0, B1, e1, hk, q0, q1, -, -⟩ := hin.out
      obtain ⟨rfl, rfl⟩ := q0 rfl
      obtain ⟨rfl, rfl⟩ := q1 (by decide)
      have hr2 := (HFL.out.rd0.next hu).alloc (Nat.le_refl _) (.cells #[.slice B0 d.b0.length e0, .int .i64 (d.s0 : Int)] 57)
      have hz : ([] : List Nat).length + d.b0.length ≤ 140737488355328 := by simp; omega
      have hlt2 : w.heap.size < wr.heap.size := hk.lt
      go_upto_region 7 with (fail)
      go_wp2_with (at_builtin; refine wpl_app rfl (.const (.slice none 0 0)) (.tmp 21) rfl wr.heap.size _ [] rfl (Own.nilv _ _ _) _ B0 _ e0 d.b0 rfl rfl hr2 hz (by simp) ?_; intro A2 c2 w2 r2 hr2 hown2 hg2 hb2; have hb3 : Below wr.heap.size wr w2 := ((Below.refl _ wr).alloc (Nat.le_refl _) _).trans hb2; have hk2 := hk.below hb3 hlt2; have g2 : w2.cell? ⟨w.heap.size, 2, none⟩ = some (.slice B0 d.b0.length e0) := hk2.cell (j := 2) rfl; have f2 := hk2.frozen 2; have hl2 := hk2.lt; have HF := kept (cp_0 hin.out hb3 hown2 hr2.out); clear hk2 hb2 hg2 hr2 hb3 hown2)
      go_roundw
      case rel => exact ⟨1, by omega, rfl, HF⟩
      case measure => simp [intOf]
    · obtain ⟨hu, B0, e0, B1, e1, hk, q0, q1, -, -⟩ := hin.out
      clear q0
      obtain ⟨rfl, rfl⟩ := q1 (by decide)
      have hr2 := (HFL.out.rd1.next hu).alloc (Nat.le_refl _) (.cells #[.slice B1 d.b1.length e1, .int .i64 (d.s1 : Int)] 57)
      have hz : ([] : List Nat).length + d.b1.length ≤ 140737488355328 := by simp; omega
      have hlt2 : w.heap.size < wr.heap.size := hk.lt
      go_upto_region 7 with (fail)
      go_wp2_with (at_builtin; refine wpl_app rfl (.const (.slice none 0 0)) (.tmp 21) rfl wr.heap.size _ [] rfl (Own.nilv _ _ _) _ B1 _ e1 d.b1 rfl rfl hr2 hz (by simp) ?_; intro A2 c2 w2 r2 hr2 hown2 hg2 hb2; have hb3 : Below wr.heap.size wr w2 := ((Below.refl _ wr).alloc (Nat.le_refl _) _).trans hb2; have hk2 := hk.below hb3 hlt2; have g2 : w2.cell? ⟨w.heap.size, 4, none⟩ = some (.slice B1 d.b1.length e1) := hk2.cell (j := 4) rfl; have f2 := hk2.frozen 4; have hl2 := hk2.lt; have HF := kept (cp_1 hin.out hb3 hown2 hr2.out); clear hk2 hb2 hg2 hr2 hb3 hown2)
      go_roundw
      case rel => exact ⟨2, by omega, rfl, HF⟩
      case measure => simp [intOf]
    · have HFIN := kept (cp_end HO.out hin.out)
      go_wp2
      go_ret
      exact ⟨rfl, HFIN.out⟩
end Go.Proofs.Ytenkccfglmkdmaa.Disk
