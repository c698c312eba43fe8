import Derived.Test.YtdlghabpnpbebaaDoorDiskWays
/- Layer 22 (disk): the walk of Crash. -/
namespace Go.Proofs.YtdlghabpnpbebaaDoor.Disk
open Go.RowKit Go.Proofs.YtdlghabpnpbebaaDoor.Mem

/-- the disk behind j rounds of a crash -/
def DS.cr (d : DS) (keep : Int) (turn : Bool) (j : Nat) : DS :=
  ⟨if 1 ≤ j then crashB d.b0 d.s0 keep turn else d.b0, if 1 ≤ j then (crashB d.b0 d.s0 keep turn).length else d.s0, if 2 ≤ j then crashB d.b1 d.s1 keep turn else d.b1, if 2 ≤ j then (crashB d.b1 d.s1 keep turn).length else d.s1, d.room, d.fuse, d.down⟩
theorem keepN_val (l : List Nat) {s : Nat} (hs : s ≤ l.length) (keep : Int) : min (max keep 0) ((l.length : Int) - (s : Int)) = (keepN l s keep : Int) := by unfold keepN; omega
/-- what there is behind j rounds -/
def CrIn (w : World) (g : Nat) (d : DS) (keep : Int) (turn : Bool) (A0 : Option Addr) (c0 : Nat) (A1 : Option Addr) (c1 : Nat) (j : Nat) (wr : World) : Prop :=
  Upd (fun k => k = g) w wr ∧ ∃ B0 e0 B1 e1, Blk wr g (DC (d.cr keep turn j) B0 e0 B1 e1) 85 ∧ (j = 0 → B0 = A0 ∧ e0 = c0) ∧ (j ≤ 1 → B1 = A1 ∧ e1 = c1) ∧
    (1 ≤ j → FOwn wr (.slice B0 (crashB d.b0 d.s0 keep turn).length e0) (crashB d.b0 d.s0 keep turn) ∧ ∀ x, B0 = some x → w.heap.size ≤ x.block) ∧
    (2 ≤ j → FOwn wr (.slice B1 (crashB d.b1 d.s1 keep turn).length e1) (crashB d.b1 d.s1 keep turn) ∧ (∀ x, B1 = some x → w.heap.size ≤ x.block) ∧ ∀ x y, B0 = some x → B1 = some y → x.block ≠ y.block)
theorem cr_0 {w wr w3 : World} {g : Nat} {d : DS} {keep : Int} {turn : Bool} {A0 A1 A : Option Addr} {c0 c1 c : Nat} {r : List Nat} (h : CrIn w g d keep turn A0 c0 A1 c1 0 wr) (hb : Below wr.heap.size wr w3) (ho : Own w3 wr.heap.size 5 (.slice A r.length c) (BB r)) (he : r = crashB d.b0 d.s0 keep turn) :
    CrIn w g d keep turn A0 c0 A1 c1 1 ((w3.setCell ⟨g, 2, none⟩ (.slice A r.length c)).setCell ⟨g, 3, none⟩ (.int .i64 (r.length : Int))) := by
  obtain ⟨hu, B0, e0, B1, e1, hk, q0, q1, -, -⟩ := h
  subst he
  have hl := hk.lt
  have hu2 : Upd (fun k => k = g) w3 ((w3.setCell ⟨g, 2, none⟩ (.slice A (crashB d.b0 d.s0 keep turn).length c)).setCell ⟨g, 3, none⟩ (.int .i64 ((crashB d.b0 d.s0 keep turn).length : Int))) :=
    Upd.setCell (S := fun k => k = g) (Upd.setCell (S := fun k => k = g) (Upd.refl _ w3) (p := ⟨g, 2, none⟩) (.inl rfl) _) (p := ⟨g, 3, none⟩) (.inl rfl) _
  refine ⟨(hu.next hb).trans hu2, A, c, B1, e1, ((hk.below hb hl).set 2 _).set 3 _, (fun h => absurd h (by decide)), (fun _ => q1 (by decide)), (fun _ => ⟨FOwn.upd (.inl (ho.mono (Nat.zero_le _))) hu2 fun k hk e => ?_, fun x hx => ?_⟩), fun h => absurd h (by decide)⟩
  · have := (ho.lt k hk).1
    omega
  · subst hx
    exact Nat.le_trans hu.size (ho.lt x.block rfl).1
theorem cr_1 {w wr w3 : World} {g : Nat} {d : DS} {keep : Int} {turn : Bool} {A0 A1 A : Option Addr} {c0 c1 c : Nat} {r : List Nat} (hgl : g < w.heap.size) (h : CrIn w g d keep turn A0 c0 A1 c1 1 wr) (hb : Below wr.heap.size wr w3) (ho : Own w3 wr.heap.size 5 (.slice A r.length c) (BB r)) (he : r = crashB d.b1 d.s1 keep turn) :
    CrIn w g d keep turn A0 c0 A1 c1 2 ((w3.setCell ⟨g, 4, none⟩ (.slice A r.length c)).setCell ⟨g, 5, none⟩ (.int .i64 (r.length : Int))) := by
  obtain ⟨hu, B0, e0, B1, e1, hk, -, -, q2, -⟩ := h
  obtain ⟨q3, q4⟩ := q2 (by decide)
  subst he
  have hl := hk.lt
  have hu2 : Upd (fun k => k = g) w3 ((w3.setCell ⟨g, 4, none⟩ (.slice A (crashB d.b1 d.s1 keep turn).length c)).setCell ⟨g, 5, none⟩ (.int .i64 ((crashB d.b1 d.s1 keep turn).length : Int))) :=
    Upd.setCell (S := fun k => k = g) (Upd.setCell (S := fun k => k = g) (Upd.refl _ w3) (p := ⟨g, 4, none⟩) (.inl rfl) _) (p := ⟨g, 5, none⟩) (.inl rfl) _
  have hx0 : ∀ x, B0 = some x → x.block < wr.heap.size := fun x hx => by subst hx; exact q3.lt x.block rfl
  have hne : ∀ x, A = some x → wr.heap.size ≤ x.block := fun x hx => by subst hx; exact (ho.lt x.block rfl).1
  refine ⟨(hu.next hb).trans hu2, B0, e0, A, c, ((hk.below hb hl).set 4 _).set 5 _, (fun h => absurd h (by decide)), (fun h => absurd h (by decide)), (fun _ => ⟨(q3.next hb).upd hu2 fun k hk e => ?_, q4⟩), fun _ => ⟨FOwn.upd (.inl (ho.mono (Nat.zero_le _))) hu2 fun k hk e => ?_, fun x hx => Nat.le_trans hu.size (hne x hx), fun x y hx hy e => ?_⟩⟩
  · obtain ⟨x, hx, rfl⟩ := ob_some hk
    have := q4 x hx
    omega
  · have := (ho.lt k hk).1
    omega
  · have h1 := hx0 x hx
    have h2 := hne y hy
    omega
theorem cr_end {S : Nat → Prop} {w wr : World} {g : Nat} {d : DS} {keep : Int} {turn : Bool} {B0 B1 : Option Addr} {e0 e1 : Nat} (hok : d.Ok) (hg : S g) (hlt : g < w.heap.size) (hu : Upd (fun k => k = g) w wr) (hk : Blk wr g (DC (d.cr keep turn 2) B0 e0 B1 e1) 85)
    (o0 : FOwn wr (.slice B0 (crashB d.b0 d.s0 keep turn).length e0) (crashB d.b0 d.s0 keep turn)) (y0 : ∀ x, B0 = some x → w.heap.size ≤ x.block) (o1 : FOwn wr (.slice B1 (crashB d.b1 d.s1 keep turn).length e1) (crashB d.b1 d.s1 keep turn)) (y1 : ∀ x, B1 = some x → w.heap.size ≤ x.block) (y2 : ∀ x y, B0 = some x → B1 = some y → x.block ≠ y.block) :
    Does S g w (d.crashM keep turn) (.tuple #[]) (.returned (.tuple #[])) ((wr.setCell ⟨g, 7, none⟩ (.int .i64 (-1))).setCell ⟨g, 1, none⟩ (.bool false)) := by
  have hf : Files wr (fun k => k = g ∨ (∃ x, B0 = some x ∧ x.block = k) ∨ ∃ x, B1 = some x ∧ x.block = k) g B0 e0 (crashB d.b0 d.s0 keep turn) B1 e1 (crashB d.b1 d.s1 keep turn) :=
    ⟨o0, o1, fun x hx => ⟨.inr (.inl ⟨x, hx, rfl⟩), by have := y0 x hx; omega⟩, fun x hx => ⟨.inr (.inr ⟨x, hx, rfl⟩), by have := y1 x hx; omega⟩, y2⟩
  refine ⟨rfl, _, ⟨crash_ok hok keep turn, .inl rfl, fun k hk2 => ?_, B0, e0, B1, e1, (hk.set 7 _).set 1 _, (hf.set 7 _).set 1 _⟩, (((hu.mono (T := S) fun i _ hi => by subst hi; exact hg).setCell (p := ⟨g, 7, none⟩) (.inl hg) _).setCell (p := ⟨g, 1, none⟩) (.inl hg) _), fun k hk2 => ?_⟩
  · have hz : ((wr.setCell ⟨g, 7, none⟩ (.int .i64 (-1))).setCell ⟨g, 1, none⟩ (.bool false)).heap.size = wr.heap.size := by simp [World.setCell]
    rw [hz]
    rcases hk2 with rfl | ⟨x, hx, rfl⟩ | ⟨x, hx, rfl⟩
    · exact hk.lt
    · subst hx; exact o0.lt x.block rfl
    · subst hx; exact o1.lt x.block rfl
  · rcases hk2 with rfl | ⟨x, hx, rfl⟩ | ⟨x, hx, rfl⟩
    · exact .inl hg
    · exact .inr (y0 x hx)
    · exact .inr (y1 x hx)
theorem getD_lt8 {l : List Nat} (h : AllB l) {k : Nat} (hk : k < l.length) : l.getD k 0 < 256 := by
  rw [List.getD_eq_getElem?_getD, List.getElem?_eq_getElem hk]
  exact h _ (List.getElem_mem hk)
set_option maxHeartbeats 4000000 in
theorem crash_any (S : Nat → Prop) (g : Nat) (d : DS) (keep : Int) (turn : Bool) (w : World) (h : Dsk w S g d) :
    Calls Tryd.prog 19 #[.pointer (some ⟨g, 0, none⟩), .int .i64 keep, .bool turn] w (Does S g w (d.crashM keep turn) (.tuple #[])) := by
  have hok := h.ok
  obtain ⟨-, hg, hS, A0, c0, A1, c1, hk, hfl⟩ := h
  have h0 : w.cell? ⟨g, 0, none⟩ = some (.bool true) := hk.cell (j := 0) rfl
  have h2 : w.cell? ⟨g, 2, none⟩ = some (.slice A0 d.b0.length c0) := hk.cell (j := 2) rfl
  have h3 : w.cell? ⟨g, 3, none⟩ = some (.int .i64 (d.s0 : Int)) := hk.cell (j := 3) rfl
  have h4 : w.cell? ⟨g, 4, none⟩ = some (.slice A1 d.b1.length c1) := hk.cell (j := 4) rfl
  have h5 : w.cell? ⟨g, 5, none⟩ = some (.int .i64 (d.s1 : Int)) := hk.cell (j := 5) rfl
  have hlt := hk.lt
  have C := kept (none_cell g true w h0)
  have HI : Kept (CrIn w g d keep turn A0 c0 A1 c1 0 w) := ⟨Upd.refl _ w, A0, c0, A1, c1, hk, (fun _ => ⟨rfl, rfl⟩), (fun _ => ⟨rfl, rfl⟩), (fun h => absurd h (by decide)), fun h => absurd h (by decide)⟩
  have HFL := kept hfl
  have HS := kept hS
  have HO := kept hok
  have hs0 := hok.2.2.1
  have hs1 := hok.2.2.2.1
  have hus : d.b0.length + d.b1.length ≤ 1048576 := hok.2.2.2.2.1
  have hcc0 := hfl.len0
  have hcc1 := hfl.len1
  clear hk hfl hS hok
  have i0 : ∀ W, (Instr.index 83 (.agg #[.slice A0 d.b0.length c0, .int .i64 (d.s0 : Int), .slice A1 d.b1.length c1, .int .i64 (d.s1 : Int)]) (.int .i64 0)).run Tryd.prog W = .ok (.agg #[.slice A0 d.b0.length c0, .int .i64 (d.s0 : Int)]) W := fun _ => by kernel_rfl
  have i1 : ∀ W, (Instr.index 83 (.agg #[.slice A0 d.b0.length c0, .int .i64 (d.s0 : Int), .slice A1 d.b1.length c1, .int .i64 (d.s1 : Int)]) (.int .i64 1)).run Tryd.prog W = .ok (.agg #[.slice A1 d.b1.length c1, .int .i64 (d.s1 : Int)]) W := fun _ => by kernel_rfl
  go_enter Tryd.func19, Tryd.ntmps19
  go_wp2_with fail
  refine C.out.mono ?_
  rintro e w' ⟨rfl, rfl⟩
  go_wp2
  go_loopw [16] (fun i wr => ∃ j : Nat, j ≤ 2 ∧ i = .int .i64 (j : Int) ∧ Kept (CrIn w g d keep turn A0 c0 A1 c1 j wr)) (fun i _ => 2 - (intOf i).toNat)
  case atStart => exact ⟨0, by omega, rfl, HI⟩
  case round =>
    obtain ⟨j, hj, rfl, hin⟩ := hrel
    have hj3 : j = 0 ∨ j = 1 ∨ j = 2 := by omega
    rcases hj3 with rfl | rfl | rfl
    · have HN := kept (keepN_val d.b0 hs0 keep)
      have hkl := keepN_le d.b0 hs0 keep
      obtain ⟨hu, B0, e0, B1, e1, hk, q0, q1, -, -⟩ := hin.out
      obtain ⟨rfl, rfl⟩ := q0 rfl
      obtain ⟨rfl, rfl⟩ := q1 (by decide)
      have hr0 := HFL.out.rd0.updN hu (Nat.le_refl _) (fun x hx _ => (HFL.out.2.2.1 x hx).2)
      have HCR : Kept (crashB d.b0 d.s0 keep turn = turnL (turn && decide (0 < keepN d.b0 d.s0 keep)) (d.b0.take (d.s0 + keepN d.b0 d.s0 keep))) := ⟨rfl⟩
      generalize keepN d.b0 d.s0 keep = k at *
      have hlt2 : g < wr.heap.size := hk.lt
      have hL : (d.b0.take (d.s0 + k)).length = d.s0 + k := by rw [List.length_take]; omega
      have hr1 : Rd wr wr.heap.size B0 (BB (d.b0.take (d.s0 + k))) := by rw [← BB_take]; exact (hr0.take _).more hu.size
      have hr2 := hr1.alloc (Nat.le_refl _) (.cells #[.slice B0 d.b0.length e0, .int .i64 (d.s0 : Int)] 82)
      have hcr : crashB d.b0 d.s0 keep turn = turnL (turn && decide (0 < k)) (d.b0.take (d.s0 + k)) := by rw [HCR.out]
      have HCR2 := kept hcr
      have HAL := kept (take_all HO.out.1 (d.s0 + k))
      clear HCR hcr hr1 hr0
      generalize d.b0.take (d.s0 + k) = L at *
      have hz : ([] : List Nat).length + L.length ≤ 140737488355328 := by simp; omega
      have hsk : ((d.s0 : Int) + (k : Int)).toNat = L.length := by omega
      have HL := kept hL
      have hLe : L.length ≤ e0 := by omega
      have hLb : L.length ≤ 1048576 := by omega
      clear hL
      go_upto_region 5 with (fail)
      rw [HN.out]
      go_upto_region 6 with (at_builtin; refine wpl_app rfl (.const (.slice none 0 0)) (.tmp 35) rfl wr.heap.size _ [] rfl (Own.nilv _ _ _) _ B0 _ e0 L rfl (by first | rfl | exact hsk) hr2 hz (by simp) ?_; intro A2 c2 w2 r2 hr2 hown2 hg2 hb2)
      obtain rfl : r2 = L := hr2.out
      have hb3 : Below wr.heap.size wr w2 := ((Below.refl _ wr).alloc (Nat.le_refl _) _).trans hb2
      have hk2 := hk.below hb3 hlt2
      have g2 : w2.cell? ⟨g, 2, none⟩ = some (.slice B0 d.b0.length e0) := hk2.cell (j := 2) rfl
      have g3 : w2.cell? ⟨g, 3, none⟩ = some (.int .i64 (d.s0 : Int)) := hk2.cell (j := 3) rfl
      have f2 := hk2.frozen 2
      have f3 := hk2.frozen 3
      have hl2 := hk2.lt
      have HB3 := kept hb3
      have HO2 := kept hown2
      clear hk hk2 hb2 hg2 hr2 hb3 HN
      cases hcb : (turn && decide (0 < k)) with
      | false =>
        rw [hcb] at HCR2
        have HF := kept (cr_0 hin.out HB3.out HO2.out HCR2.out.symm)
        have hk0 : turn = true → k = 0 := fun h => by rw [h] at hcb; simpa using hcb
        cases turn with
        | false =>
          clear hcb hk0 hown2
          go_wp2
          all_goals
            go_roundw
            case rel => exact ⟨1, by omega, rfl, HF⟩
            case measure => simp [intOf]
        | true =>
          obtain rfl := hk0 rfl
          clear hcb hk0 hown2
          go_wp2
          all_goals
            go_roundw
            case rel => exact ⟨1, by omega, rfl, HF⟩
            case measure => simp [intOf]
      | true =>
        rw [hcb] at HCR2
        have ht : turn = true := by cases turn <;> simp_all
        subst ht
        have hk0 : 0 < k := by simpa using hcb
        have hpos : 1 ≤ r2.length := by have := HL.out; omega
        have hle : r2.length ≤ 1048576 := by have := HL.out; omega
        have hix : ((r2.length : Int) - 1).toNat = r2.length - 1 := by omega
        obtain ⟨g', rfl, hg1, hg2, hc5, hf5, hs5⟩ := hown2.spot (BB_get r2 (r2.length - 1) (by omega))
        have hxb : r2.getD (r2.length - 1) 0 < 256 := getD_lt8 HAL.out (by omega)
        have hxr : bits .xor .u8 ((r2.getD (r2.length - 1) 0 : Nat) : Int) 1 = ((r2.getD (r2.length - 1) 0 ^^^ 1 : Nat) : Int) := u8_xor_nat _ 1 hxb (by decide)
        obtain ⟨s1, s2⟩ := hs5 (.int .u8 ((r2.getD (r2.length - 1) 0 ^^^ 1 : Nat) : Int))
        have hLn : (r2.set (r2.length - 1) (r2.getD (r2.length - 1) 0 ^^^ 1)).length = r2.length := List.length_set
        have s3 : Own (w2.setCell ⟨g', r2.length - 1, none⟩ (.int .u8 ((r2.getD (r2.length - 1) 0 ^^^ 1 : Nat) : Int))) wr.heap.size 5 (.slice (some ⟨g', 0, none⟩) (r2.set (r2.length - 1) (r2.getD (r2.length - 1) 0 ^^^ 1)).length c2) (BB (r2.set (r2.length - 1) (r2.getD (r2.length - 1) 0 ^^^ 1))) := by
          rw [hLn]
          have : (BB r2).set (r2.length - 1) (.int .u8 ((r2.getD (r2.length - 1) 0 ^^^ 1 : Nat) : Int)) = BB (r2.set (r2.length - 1) (r2.getD (r2.length - 1) 0 ^^^ 1)) := by unfold BB; rw [List.map_set]
          rw [← this]; exact s1
        have hF := cr_0 hin.out (HB3.out.setCell (p := ⟨g', r2.length - 1, none⟩) hg1 (.int .u8 ((r2.getD (r2.length - 1) 0 ^^^ 1 : Nat) : Int))) s3 HCR2.out.symm
        rw [hLn] at hF
        have HF := kept hF
        have hgg : g ≠ g' := by omega
        clear hcb s1 s2 s3 hF hLn hs5 HO2 HCR2 hown2 HAL
        generalize r2.getD (r2.length - 1) 0 ^^^ 1 = y at *
        generalize r2.getD (r2.length - 1) 0 = x at *
        go_wp2
        go_roundw
        case rel => exact ⟨1, by omega, rfl, HF⟩
        case measure => simp [intOf]
    · have HN := kept (keepN_val d.b1 hs1 keep)
      have hkl := keepN_le d.b1 hs1 keep
      obtain ⟨hu, B0, e0, B1, e1, hk, -, q1, -, -⟩ := hin.out
      obtain ⟨rfl, rfl⟩ := q1 (by decide)
      have hr0 := HFL.out.rd1.updN hu (Nat.le_refl _) (fun x hx _ => (HFL.out.2.2.2.1 x hx).2)
      have HCR : Kept (crashB d.b1 d.s1 keep turn = turnL (turn && decide (0 < keepN d.b1 d.s1 keep)) (d.b1.take (d.s1 + keepN d.b1 d.s1 keep))) := ⟨rfl⟩
      generalize keepN d.b1 d.s1 keep = k at *
      have hlt2 : g < wr.heap.size := hk.lt
      have hL : (d.b1.take (d.s1 + k)).length = d.s1 + k := by rw [List.length_take]; omega
      have hr1 : Rd wr wr.heap.size B1 (BB (d.b1.take (d.s1 + k))) := by rw [← BB_take]; exact (hr0.take _).more hu.size
      have hr2 := hr1.alloc (Nat.le_refl _) (.cells #[.slice B1 d.b1.length e1, .int .i64 (d.s1 : Int)] 82)
      have hcr : crashB d.b1 d.s1 keep turn = turnL (turn && decide (0 < k)) (d.b1.take (d.s1 + k)) := by rw [HCR.out]
      have HCR2 := kept hcr
      have HAL := kept (take_all HO.out.2.1 (d.s1 + k))
      clear HCR hcr hr1 hr0
      generalize d.b1.take (d.s1 + k) = L at *
      have hz : ([] : List Nat).length + L.length ≤ 140737488355328 := by simp; omega
      have hsk : ((d.s1 : Int) + (k : Int)).toNat = L.length := by omega
      have HL := kept hL
      have hLe : L.length ≤ e1 := by omega
      have hLb : L.length ≤ 1048576 := by omega
      clear hL
      go_upto_region 5 with (fail)
      rw [HN.out]
      go_upto_region 6 with (at_builtin; refine wpl_app rfl (.const (.slice none 0 0)) (.tmp 35) rfl wr.heap.size _ [] rfl (Own.nilv _ _ _) _ B1 _ e1 L rfl (by first | rfl | exact hsk) hr2 hz (by simp) ?_; intro A2 c2 w2 r2 hr2 hown2 hg2 hb2)
      obtain rfl : r2 = L := hr2.out
      have hb3 : Below wr.heap.size wr w2 := ((Below.refl _ wr).alloc (Nat.le_refl _) _).trans hb2
      have hk2 := hk.below hb3 hlt2
      have g2 : w2.cell? ⟨g, 4, none⟩ = some (.slice B1 d.b1.length e1) := hk2.cell (j := 4) rfl
      have g3 : w2.cell? ⟨g, 5, none⟩ = some (.int .i64 (d.s1 : Int)) := hk2.cell (j := 5) rfl
      have f2 := hk2.frozen 4
      have f3 := hk2.frozen 5
      have hl2 := hk2.lt
      have HB3 := kept hb3
      have HO2 := kept hown2
      clear hk hk2 hb2 hg2 hr2 hb3 HN
      cases hcb : (turn && decide (0 < k)) with
      | false =>
        rw [hcb] at HCR2
        have HF := kept (cr_1 hlt hin.out HB3.out HO2.out HCR2.out.symm)
        have hk0 : turn = true → k = 0 := fun h => by rw [h] at hcb; simpa using hcb
        cases turn with
        | false =>
          clear hcb hk0 hown2
          go_wp2
          all_goals
            go_roundw
            case rel => exact ⟨2, by omega, rfl, HF⟩
            case measure => simp [intOf]
        | true =>
          obtain rfl := hk0 rfl
          clear hcb hk0 hown2
          go_wp2
          all_goals
            go_roundw
            case rel => exact ⟨2, by omega, rfl, HF⟩
            case measure => simp [intOf]
      | true =>
        rw [hcb] at HCR2
        have ht : turn = true := by cases turn <;> simp_all
        subst ht
        have hk0 : 0 < k := by simpa using hcb
        have hpos : 1 ≤ r2.length := by have := HL.out; omega
        have hle : r2.length ≤ 1048576 := by have := HL.out; omega
        have hix : ((r2.length : Int) - 1).toNat = r2.length - 1 := by omega
        obtain ⟨g', rfl, hg1, hg2, hc5, hf5, hs5⟩ := hown2.spot (BB_get r2 (r2.length - 1) (by omega))
        have hxb : r2.getD (r2.length - 1) 0 < 256 := getD_lt8 HAL.out (by omega)
        have hxr : bits .xor .u8 ((r2.getD (r2.length - 1) 0 : Nat) : Int) 1 = ((r2.getD (r2.length - 1) 0 ^^^ 1 : Nat) : Int) := u8_xor_nat _ 1 hxb (by decide)
        obtain ⟨s1, s2⟩ := hs5 (.int .u8 ((r2.getD (r2.length - 1) 0 ^^^ 1 : Nat) : Int))
        have hLn : (r2.set (r2.length - 1) (r2.getD (r2.length - 1) 0 ^^^ 1)).length = r2.length := List.length_set
        have s3 : Own (w2.setCell ⟨g', r2.length - 1, none⟩ (.int .u8 ((r2.getD (r2.length - 1) 0 ^^^ 1 : Nat) : Int))) wr.heap.size 5 (.slice (some ⟨g', 0, none⟩) (r2.set (r2.length - 1) (r2.getD (r2.length - 1) 0 ^^^ 1)).length c2) (BB (r2.set (r2.length - 1) (r2.getD (r2.length - 1) 0 ^^^ 1))) := by
          rw [hLn]
          have : (BB r2).set (r2.length - 1) (.int .u8 ((r2.getD (r2.length - 1) 0 ^^^ 1 : Nat) : Int)) = BB (r2.set (r2.length - 1) (r2.getD (r2.length - 1) 0 ^^^ 1)) := by unfold BB; rw [List.map_set]
          rw [← this]; exact s1
        have hF := cr_1 hlt hin.out (HB3.out.setCell (p := ⟨g', r2.length - 1, none⟩) hg1 (.int .u8 ((r2.getD (r2.length - 1) 0 ^^^ 1 : Nat) : Int))) s3 HCR2.out.symm
        rw [hLn] at hF
        have HF := kept hF
        have hgg : g ≠ g' := by omega
        clear hcb s1 s2 s3 hF hLn hs5 HO2 HCR2 hown2 HAL
        generalize r2.getD (r2.length - 1) 0 ^^^ 1 = y at *
        generalize r2.getD (r2.length - 1) 0 = x at *
        go_wp2
        go_roundw
        case rel => exact ⟨2, by omega, rfl, HF⟩
        case measure => simp [intOf]
    · obtain ⟨hu, B0, e0, B1, e1, hk, -, -, q2, q3⟩ := hin.out
      obtain ⟨o0, y0⟩ := q2 (by decide)
      obtain ⟨o1, y1, y2⟩ := q3 (by decide)
      have g7 : wr.cell? ⟨g, 7, none⟩ = some (.int .i64 d.fuse) := hk.cell (j := 7) rfl
      have g1 : wr.cell? ⟨g, 1, none⟩ = some (.bool d.down) := hk.cell (j := 1) rfl
      have f7 := hk.frozen 7
      have f1 := hk.frozen 1
      have hlt2 : g < wr.heap.size := hk.lt
      have HFIN := kept (cr_end (S := S) HO.out hg hlt hu hk o0 y0 o1 y1 y2)
      clear hk o0 y0 o1 y1 y2 q2 q3 i0 i1
      go_wp2
      go_end0
      exact HFIN.out
end Go.Proofs.YtdlghabpnpbebaaDoor.Disk

/- Layer 22 (disk): the walk of Copy. -/
namespace Go.Proofs.YtdlghabpnpbebaaDoor.Disk
open Go.RowKit Go.Proofs.YtdlghabpnpbebaaDoor.Mem

/-- what there is behind j rounds -/
def CpIn (w : World) (d : DS) (A0 : Option Addr) (c0 : Nat) (A1 : Option Addr) (c1 : Nat) (j : Nat) (wr : World) : Prop :=
  Below w.heap.size w wr ∧ ∃ B0 e0 B1 e1, Blk wr w.heap.size (DC d B0 e0 B1 e1) 85 ∧ (j = 0 → B0 = A0 ∧ e0 = c0) ∧ (j ≤ 1 → B1 = A1 ∧ e1 = c1) ∧
    (1 ≤ j → FOwn wr (.slice B0 d.b0.length e0) d.b0 ∧ ∀ x, B0 = some x → w.heap.size < x.block) ∧
    (2 ≤ j → FOwn wr (.slice B1 d.b1.length e1) d.b1 ∧ (∀ x, B1 = some x → w.heap.size < x.block) ∧ ∀ x y, B0 = some x → B1 = some y → x.block ≠ y.block)
theorem cp_0 {w wr w3 : World} {d : DS} {A0 A1 A : Option Addr} {c0 c1 c : Nat} {r : List Nat} (h : CpIn w d A0 c0 A1 c1 0 wr) (hb : Below wr.heap.size wr w3) (ho : Own w3 wr.heap.size 5 (.slice A r.length c) (BB r)) (he : r = d.b0) :
    CpIn w d A0 c0 A1 c1 1 (w3.setCell ⟨w.heap.size, 2, none⟩ (.slice A r.length c)) := by
  obtain ⟨hu, B0, e0, B1, e1, hk, q0, q1, -, -⟩ := h
  subst he
  have hl := hk.lt
  have hu2 : Upd (fun k => k = w.heap.size) w3 (w3.setCell ⟨w.heap.size, 2, none⟩ (.slice A d.b0.length c)) := Upd.setCell (S := fun k => k = w.heap.size) (Upd.refl _ w3) (p := ⟨w.heap.size, 2, none⟩) (.inl rfl) _
  refine ⟨(hu.trans (hb.mono hu.size)).setCell (p := ⟨w.heap.size, 2, none⟩) (Nat.le_refl _) _, A, c, B1, e1, (hk.below hb hl).set 2 _, (fun h => absurd h (by decide)), (fun _ => q1 (by decide)), (fun _ => ⟨FOwn.upd (.inl (ho.mono (Nat.zero_le _))) hu2 fun k hk e => ?_, fun x hx => ?_⟩), fun h => absurd h (by decide)⟩
  · have := (ho.lt k hk).1
    omega
  · subst hx
    exact Nat.lt_of_lt_of_le hl (ho.lt x.block rfl).1
theorem cp_1 {w wr w3 : World} {d : DS} {A0 A1 A : Option Addr} {c0 c1 c : Nat} {r : List Nat} (h : CpIn w d A0 c0 A1 c1 1 wr) (hb : Below wr.heap.size wr w3) (ho : Own w3 wr.heap.size 5 (.slice A r.length c) (BB r)) (he : r = d.b1) :
    CpIn w d A0 c0 A1 c1 2 (w3.setCell ⟨w.heap.size, 4, none⟩ (.slice A r.length c)) := by
  obtain ⟨hu, B0, e0, B1, e1, hk, -, -, q2, -⟩ := h
  obtain ⟨q3, q4⟩ := q2 (by decide)
  subst he
  have hl := hk.lt
  have hu2 : Upd (fun k => k = w.heap.size) w3 (w3.setCell ⟨w.heap.size, 4, none⟩ (.slice A d.b1.length c)) := Upd.setCell (S := fun k => k = w.heap.size) (Upd.refl _ w3) (p := ⟨w.heap.size, 4, none⟩) (.inl rfl) _
  have hx0 : ∀ x, B0 = some x → x.block < wr.heap.size := fun x hx => by subst hx; exact q3.lt x.block rfl
  have hne : ∀ x, A = some x → wr.heap.size ≤ x.block := fun x hx => by subst hx; exact (ho.lt x.block rfl).1
  refine ⟨(hu.trans (hb.mono hu.size)).setCell (p := ⟨w.heap.size, 4, none⟩) (Nat.le_refl _) _, B0, e0, A, c, (hk.below hb hl).set 4 _, (fun h => absurd h (by decide)), (fun h => absurd h (by decide)), (fun _ => ⟨(q3.next hb).upd hu2 fun k hk e => ?_, q4⟩), fun _ => ⟨FOwn.upd (.inl (ho.mono (Nat.zero_le _))) hu2 fun k hk e => ?_, fun x hx => Nat.lt_of_lt_of_le hl (hne x hx), fun x y hx hy e => ?_⟩⟩
  · obtain ⟨x, hx, rfl⟩ := ob_some hk
    have := q4 x hx
    omega
  · have := (ho.lt k hk).1
    omega
  · have h1 := hx0 x hx
    have h2 := hne y hy
    omega
theorem cp_end {w wr : World} {d : DS} {A0 A1 : Option Addr} {c0 c1 : Nat} (hok : d.Ok) (h : CpIn w d A0 c0 A1 c1 2 wr) : ∃ S, Dsk wr S w.heap.size d ∧ (∀ k, S k → w.heap.size ≤ k) ∧ Below w.heap.size w wr := by
  obtain ⟨hu, B0, e0, B1, e1, hk, -, -, q2, q3⟩ := h
  obtain ⟨o0, y0⟩ := q2 (by decide)
  obtain ⟨o1, y1, y2⟩ := q3 (by decide)
  refine ⟨fun k => k = w.heap.size ∨ (∃ x, B0 = some x ∧ x.block = k) ∨ ∃ x, B1 = some x ∧ x.block = k, ⟨hok, .inl rfl, fun k hk2 => ?_, B0, e0, B1, e1, hk, o0, o1, fun x hx => ⟨.inr (.inl ⟨x, hx, rfl⟩), by have := y0 x hx; omega⟩, fun x hx => ⟨.inr (.inr ⟨x, hx, rfl⟩), by have := y1 x hx; omega⟩, y2⟩, fun k hk2 => ?_, hu⟩
  · rcases hk2 with rfl | ⟨x, hx, rfl⟩ | ⟨x, hx, rfl⟩
    · exact hk.lt
    · subst hx; exact o0.lt x.block rfl
    · subst hx; exact o1.lt x.block rfl
  · rcases hk2 with rfl | ⟨x, hx, rfl⟩ | ⟨x, hx, rfl⟩
    · exact Nat.le_refl _
    · have := y0 x hx; omega
    · have := y1 x hx; omega
set_option maxHeartbeats 4000000 in
theorem copy_any (S : Nat → Prop) (g : Nat) (d : DS) (w : World) (h : Dsk w S g d) :
    Calls Tryd.prog 31 #[.pointer (some ⟨g, 0, none⟩)] w fun e w' => e = .returned (.pointer (some ⟨w.heap.size, 0, none⟩)) ∧ ∃ S', Dsk w' S' w.heap.size d ∧ (∀ k, S' k → w.heap.size ≤ k) ∧ Below w.heap.size w w' := by
  have hok := h.ok
  obtain ⟨-, hg, hS, A0, c0, A1, c1, hk, hfl⟩ := h
  have h0 : w.cell? ⟨g, 0, none⟩ = some (.bool true) := hk.cell (j := 0) rfl
  have h1 : w.cell? ⟨g, 1, none⟩ = some (.bool d.down) := hk.cell (j := 1) rfl
  have h2 : w.cell? ⟨g, 2, none⟩ = some (.slice A0 d.b0.length c0) := hk.cell (j := 2) rfl
  have h3 : w.cell? ⟨g, 3, none⟩ = some (.int .i64 (d.s0 : Int)) := hk.cell (j := 3) rfl
  have h4 : w.cell? ⟨g, 4, none⟩ = some (.slice A1 d.b1.length c1) := hk.cell (j := 4) rfl
  have h5 : w.cell? ⟨g, 5, none⟩ = some (.int .i64 (d.s1 : Int)) := hk.cell (j := 5) rfl
  have h6 : w.cell? ⟨g, 6, none⟩ = some (.int .i64 (d.room : Int)) := hk.cell (j := 6) rfl
  have h7 : w.cell? ⟨g, 7, none⟩ = some (.int .i64 d.fuse) := hk.cell (j := 7) rfl
  have hlt := hk.lt
  have C := kept (none_cell g true w h0)
  have HI : Kept (CpIn w d A0 c0 A1 c1 0 (w.alloc (.cells (DC d A0 c0 A1 c1).toArray 85))) := ⟨(Below.refl _ _).alloc (Nat.le_refl _) _, A0, c0, A1, c1, Blk.new w (DC d A0 c0 A1 c1) _, (fun _ => ⟨rfl, rfl⟩), (fun _ => ⟨rfl, rfl⟩), (fun h => absurd h (by decide)), fun h => absurd h (by decide)⟩
  have HFL := kept hfl
  have HO := kept hok
  have hus : d.b0.length + d.b1.length ≤ 1048576 := hok.2.2.2.2.1
  clear hk hfl hS hok
  have i0 : ∀ W, (Instr.index 83 (.agg #[.slice A0 d.b0.length c0, .int .i64 (d.s0 : Int), .slice A1 d.b1.length c1, .int .i64 (d.s1 : Int)]) (.int .i64 0)).run Tryd.prog W = .ok (.agg #[.slice A0 d.b0.length c0, .int .i64 (d.s0 : Int)]) W := fun _ => by kernel_rfl
  have i1 : ∀ W, (Instr.index 83 (.agg #[.slice A0 d.b0.length c0, .int .i64 (d.s0 : Int), .slice A1 d.b1.length c1, .int .i64 (d.s1 : Int)]) (.int .i64 1)).run Tryd.prog W = .ok (.agg #[.slice A1 d.b1.length c1, .int .i64 (d.s1 : Int)]) W := fun _ => by kernel_rfl
  go_enter Tryd.func31, Tryd.ntmps31
  go_wp2_with fail
  refine C.out.mono ?_
  rintro e w' ⟨rfl, rfl⟩
  go_wp2
  go_loopw [15] (fun i wr => ∃ j : Nat, j ≤ 2 ∧ i = .int .i64 (j : Int) ∧ Kept (CpIn w d A0 c0 A1 c1 j wr)) (fun i _ => 2 - (intOf i).toNat)
  case atStart => exact ⟨0, by omega, rfl, HI⟩
  case round =>
    obtain ⟨j, hj, rfl, hin⟩ := hrel
    have hj3 : j = 0 ∨ j = 1 ∨ j = 2 := by omega
    rcases hj3 with rfl | rfl | rfl
    · obtain ⟨hu, B0, e0, B1, e1, hk, q0, q1, -, -⟩ := hin.out
      obtain ⟨rfl, rfl⟩ := q0 rfl
      obtain ⟨rfl, rfl⟩ := q1 (by decide)
      have hr2 := (HFL.out.rd0.next hu).alloc (Nat.le_refl _) (.cells #[.slice B0 d.b0.length e0, .int .i64 (d.s0 : Int)] 82)
      have hz : ([] : List Nat).length + d.b0.length ≤ 140737488355328 := by simp; omega
      have hlt2 : w.heap.size < wr.heap.size := hk.lt
      go_upto_region 7 with (fail)
      go_wp2_with (at_builtin; refine wpl_app rfl (.const (.slice none 0 0)) (.tmp 21) rfl wr.heap.size _ [] rfl (Own.nilv _ _ _) _ B0 _ e0 d.b0 rfl rfl hr2 hz (by simp) ?_; intro A2 c2 w2 r2 hr2 hown2 hg2 hb2; have hb3 : Below wr.heap.size wr w2 := ((Below.refl _ wr).alloc (Nat.le_refl _) _).trans hb2; have hk2 := hk.below hb3 hlt2; have g2 : w2.cell? ⟨w.heap.size, 2, none⟩ = some (.slice B0 d.b0.length e0) := hk2.cell (j := 2) rfl; have f2 := hk2.frozen 2; have hl2 := hk2.lt; have HF := kept (cp_0 hin.out hb3 hown2 hr2.out); clear hk2 hb2 hg2 hr2 hb3 hown2)
      go_roundw
      case rel => exact ⟨1, by omega, rfl, HF⟩
      case measure => simp [intOf]
    · obtain ⟨hu, B0, e0, B1, e1, hk, q0, q1, -, -⟩ := hin.out
      clear q0
      obtain ⟨rfl, rfl⟩ := q1 (by decide)
      have hr2 := (HFL.out.rd1.next hu).alloc (Nat.le_refl _) (.cells #[.slice B1 d.b1.length e1, .int .i64 (d.s1 : Int)] 82)
      have hz : ([] : List Nat).length + d.b1.length ≤ 140737488355328 := by simp; omega
      have hlt2 : w.heap.size < wr.heap.size := hk.lt
      go_upto_region 7 with (fail)
      go_wp2_with (at_builtin; refine wpl_app rfl (.const (.slice none 0 0)) (.tmp 21) rfl wr.heap.size _ [] rfl (Own.nilv _ _ _) _ B1 _ e1 d.b1 rfl rfl hr2 hz (by simp) ?_; intro A2 c2 w2 r2 hr2 hown2 hg2 hb2; have hb3 : Below wr.heap.size wr w2 := ((Below.refl _ wr).alloc (Nat.le_refl _) _).trans hb2; have hk2 := hk.below hb3 hlt2; have g2 : w2.cell? ⟨w.heap.size, 4, none⟩ = some (.slice B1 d.b1.length e1) := hk2.cell (j := 4) rfl; have f2 := hk2.frozen 4; have hl2 := hk2.lt; have HF := kept (cp_1 hin.out hb3 hown2 hr2.out); clear hk2 hb2 hg2 hr2 hb3 hown2)
      go_roundw
      case rel => exact ⟨2, by omega, rfl, HF⟩
      case measure => simp [intOf]
    · have HFIN := kept (cp_end HO.out hin.out)
      go_wp2
      go_ret
      exact ⟨rfl, HFIN.out⟩
end Go.Proofs.YtdlghabpnpbebaaDoor.Disk
