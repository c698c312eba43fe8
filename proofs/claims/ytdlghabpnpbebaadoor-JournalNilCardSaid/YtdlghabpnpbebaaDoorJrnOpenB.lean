/- The walks of layer 24, continued: Open. -/
import Derived.Test.YtdlghabpnpbebaaDoorJrnOpen
namespace Go.Proofs.YtdlghabpnpbebaaDoor.Jrn
open Go.RowKit Go.Proofs.YtdlghabpnpbebaaDoor.Mem Go.Proofs.YtdlghabpnpbebaaDoor.Num Go.Proofs.YtdlghabpnpbebaaDoor.Wal Go.Proofs.YtdlghabpnpbebaaDoor.Disk Go.Proofs.YtdlghabpnpbebaaDoor.Crc

theorem own_max {w : World} {base : Nat} {e : TypeId} {A : Option Addr} {n c : Nat} {xs : List Value} (h : Own w base e (.slice A n c) xs) : c ≤ 9223372036854775807 := by
  obtain ⟨A', c', he, _, hm, _⟩ := h.form
  injection he with h1 h2 h3
  subst h3
  unfold maxLen at hm
  omega
theorem Fresh.low {lo lo' : Nat} {A X : Option Addr} {ps : List Part} (h : Fresh lo A X ps) (hl : lo' ≤ lo) : Fresh lo' A X ps :=
  ⟨fun x hx => Nat.le_trans hl (h.1 x hx), fun x hx => Nat.le_trans hl (h.2.1 x hx), fun p hp x hx => Nat.le_trans hl (h.2.2 p hp x hx)⟩
theorem below_set4' {B : Nat} {w w1 : World} (h : Below B w w1) {g : Nat} (hp : B ≤ g) (v0 v1 v2 v3 : Value) : Below B w ((((w1.setCell ⟨g, 0, none⟩ v0).setCell ⟨g, 1, none⟩ v1).setCell ⟨g, 2, none⟩ v2).setCell ⟨g, 3, none⟩ v3) :=
  (((h.setCell (p := ⟨g, 0, none⟩) hp v0).setCell (p := ⟨g, 1, none⟩) hp v1).setCell (p := ⟨g, 2, none⟩) hp v2).setCell (p := ⟨g, 3, none⟩) hp v3
theorem Blk.other4 {w : World} {g g' : Nat} {cs : List Value} {t : TypeId} (h : Blk w g cs t) (hne : g' ≠ g) (v0 v1 v2 v3 : Value) : Blk ((((w.setCell ⟨g', 0, none⟩ v0).setCell ⟨g', 1, none⟩ v1).setCell ⟨g', 2, none⟩ v2).setCell ⟨g', 3, none⟩ v3) g cs t :=
  (((h.other (p := ⟨g', 0, none⟩) hne v0).other (p := ⟨g', 1, none⟩) hne v1).other (p := ⟨g', 2, none⟩) hne v2).other (p := ⟨g', 3, none⟩) hne v3
/-- the cells of a found -/
def FC (F : Found) (A : Option Addr) (c : Nat) (X : Option Addr) (n c2 : Nat) : List Value := [.int .u64 (F.gen : Int), .slice A F.snap.length c, .slice X n c2, .int .i64 (F.fin : Int)]
set_option maxHeartbeats 2000000 in
set_option maxRecDepth 100000 in
theorem open_any (S : Nat → Prop) (g : Nat) (d : DS) (w : World) (h : Dsk w S g d) (hT : Tab w) (B : Nat) (hB : B ≤ w.heap.size) (hS : ∀ k, S k → B ≤ k) (hgB : 0 < B) :
    Calls Tryd.prog 14 #[.pointer (some ⟨g, 0, none⟩)] w (OpenG S g w d) := by
  have hD0 := kept h
  have CR0 := kept (read_any S g d 0 w h (by omega))
  rw [readM_b (.inl rfl)] at CR0
  have CR1 := kept (fun (W : World) (hb : Below w.heap.size w W) => read_any S g d 1 W (dsk_next h hb) (by omega))
  rw [readM_b (.inr rfl)] at CR1
  have HL := kept (fun (b : List Nat) (hb : AllB b ∧ b.length ≤ 1048576) (W1 W : World) (hb1 : Below w.heap.size w W1) (A : Option Addr) (c : Nat) (ho : Own W w.heap.size 5 (.slice A b.length c) (BB b)) (hc : b.length ≤ c) (hW : Below w.heap.size w W) => look_any A b.length c b W rfl (hT.next hW) hb.1 hc (own_max ho) ho.rd hb.2)
  have B0 : Kept (AllB (d.b 0) ∧ (d.b 0).length ≤ 1048576) := ⟨b_all h.1 0, b_len h.1 0⟩
  have B1 : Kept (AllB (d.b 1) ∧ (d.b 1).length ≤ 1048576) := ⟨b_all h.1 1, b_len h.1 1⟩
  have HP : Kept (pick d = if (look (d.b 0)).gen < (look (d.b 1)).gen then (1, look (d.b 1)) else (0, look (d.b 0))) := ⟨rfl⟩
  have hgl : g < w.heap.size := h.2.2.1 g h.2.1
  clear h
  generalize d.b 0 = b0 at *
  generalize d.b 1 = b1 at *
  go_enter Tryd.func14, Tryd.ntmps14
  go_wp2_with fail
  refine CR0.out.mono ?_
  rintro e w1 ⟨A1, c1, rfl, ho1, hc1, hb1⟩
  have C1 := kept (HL.out b0 B0.out w1 w1 hb1 A1 c1 ho1 hc1 hb1)
  clear ho1 CR0
  go_wp2_with fail
  refine C1.out.mono ?_
  rintro e w2 ⟨A2, c2, X2, c22, ps2, rfl, hbo2, hr2, hx2, hle2, hgn2, hfi2, hal2, hsn2, hrc2, hfr2, hb2⟩
  have hb2 := below_c hb1 hb2
  have C2 := kept (CR1.out w2 hb2)
  clear C1 CR1
  go_wp2_with fail
  refine C2.out.mono ?_
  rintro e w3 ⟨A3, c3, rfl, ho3, hc3, hb3⟩
  have hz2 := hb2.size
  have hb23 := hb3
  have hb3 := below_c hb2 hb3
  have C3 := kept (HL.out b1 B1.out w3 w3 hb3 A3 c3 (ho3.mono hz2) hc3 hb3)
  clear ho3 C2 HL
  go_wp2_with fail
  refine C3.out.mono ?_
  rintro e w4 ⟨A4, c4, X4, c24, ps4, rfl, hbo4, hr4, hx4, hle4, hgn4, hfi4, hal4, hsn4, hrc4, hfr4, hb4⟩
  have hb24 := hb23.trans (hb4.mono hb23.size)
  have hb34 := hb4
  have hb4 := below_c hb3 hb4
  have HR2 := kept (And.intro (hr2.next hb24) (And.intro (hx2.next hb24) hbo2))
  have HR4 := kept (And.intro hr4 (And.intro hx4 hbo4))
  clear hr2 hx2 hr4 hx4 C3
  generalize look b0 = F0 at *
  generalize look b1 = F1 at *
  clear hb23 hb34 hal2 hal4 hbo2 hbo4
  go_upto_region 4 with fail
  have HZ4 : Kept (w.heap.size ≤ w4.heap.size) := ⟨hb4.size⟩
  have k6 : Blk ((w4.alloc (.cells (FC F0 A2 c2 X2 ps2.length c22).toArray 78)).alloc (.cells (FC F1 A4 c4 X4 ps4.length c24).toArray 78)) w4.heap.size (FC F0 A2 c2 X2 ps2.length c22) 78 := (Blk.new w4 _ _).alloc _
  have k7 : Blk ((w4.alloc (.cells (FC F0 A2 c2 X2 ps2.length c22).toArray 78)).alloc (.cells (FC F1 A4 c4 X4 ps4.length c24).toArray 78)) (w4.heap.size + 1) (FC F1 A4 c4 X4 ps4.length c24) 78 := Blk.newAt _ _ _ (by simp)
  have k6j := k6.alloc (.cells (JC g 0 F0.gen).toArray 33)
  have k7j := k7.alloc (.cells (JC g 0 F0.gen).toArray 33)
  have kj : Blk (((w4.alloc (.cells (FC F0 A2 c2 X2 ps2.length c22).toArray 78)).alloc (.cells (FC F1 A4 c4 X4 ps4.length c24).toArray 78)).alloc (.cells (JC g 0 F0.gen).toArray 33)) (w4.heap.size + 1 + 1) (JC g 0 F0.gen) 33 := Blk.newAt _ _ _ (by simp)
  have hb5 : Below w.heap.size w (((w4.alloc (.cells (FC F0 A2 c2 X2 ps2.length c22).toArray 78)).alloc (.cells (FC F1 A4 c4 X4 ps4.length c24).toArray 78)).alloc (.cells (JC g 0 F0.gen).toArray 33)) := ((hb4.alloc hb4.size _).alloc (by simp; have := hb4.size; omega) _).alloc (by simp; have := hb4.size; omega) _
  have hb45 : Below w4.heap.size w4 (((w4.alloc (.cells (FC F0 A2 c2 X2 ps2.length c22).toArray 78)).alloc (.cells (FC F1 A4 c4 X4 ps4.length c24).toArray 78)).alloc (.cells (JC g 0 F0.gen).toArray 33)) := (((Below.refl _ w4).alloc (Nat.le_refl _) _).alloc (by simp) _).alloc (by simp; omega) _
  have z0 := k6.cell (j := 0) rfl
  have z0j := k6j.cell (j := 0) rfl
  have z1j := k7j.cell (j := 0) rfl
  dsimp only [FC, JC] at z0 z0j z1j
  have HW := kept (And.intro k6j (And.intro k7j (And.intro kj (And.intro hb5 hb45))))
  clear k6 k7 k6j k7j kj hb5 hb45
  dsimp only [FC, JC] at HW
  go_upto_if 27 with fail
  obtain ⟨f, F, hpk⟩ : ∃ f F, pick d = (f, F) := ⟨_, _, rfl⟩
  have HPK := kept hpk
  rw [hpk] at HP
  clear hpk
  go_cut [] (fun wr => ∃ A c X c2 ps, Blk wr (w4.heap.size + 1 + 1) (JC g f F.gen) 33 ∧ Blk wr w4.heap.size (FC F A c X ps.length c2) 78 ∧ Below w.heap.size w wr ∧ w4.heap.size + 3 ≤ wr.heap.size ∧ (f = 0 ∨ f = 1) ∧ F.gen < 18446744073709551616 ∧ F.snap.length ≤ c ∧ bodies ps = F.recs ∧ Rd wr w4.heap.size A (BB F.snap) ∧ RdParts wr w4.heap.size X ps ∧ Fresh w.heap.size A X ps)
  case first =>
    clear z0 z0j z1j
    generalize (((w4.alloc (.cells #[.int .u64 (F0.gen : Int), .slice A2 F0.snap.length c2, .slice X2 ps2.length c22, .int .i64 (F0.fin : Int)] 78)).alloc (.cells #[.int .u64 (F1.gen : Int), .slice A4 F1.snap.length c4, .slice X4 ps4.length c24, .int .i64 (F1.fin : Int)] 78)).alloc (.cells #[.pointer (some ⟨g, 0, none⟩), .int .i64 0, .int .u64 (F0.gen : Int)] 33)) = w6 at *
    obtain ⟨k6, k7, kj, hb6, hb46⟩ := HW.out
    have HB := kept (And.intro hb6 (And.intro hb46 (And.intro kj.lt (And.intro (hb1.size) hb3.size))))
    have HK := kept (And.intro k6 (And.intro k7 kj))
    have y0 := k7.cell (j := 0) rfl
    have y1 := k7.cell (j := 1) rfl
    have y2 := k7.cell (j := 2) rfl
    have y3 := k7.cell (j := 3) rfl
    have j0 := kj.cell (j := 0) rfl
    have j1 := kj.cell (j := 1) rfl
    have j2 := kj.cell (j := 2) rfl
    have x0 := k6.cell (j := 0) rfl
    have x1 := k6.cell (j := 1) rfl
    have x2 := k6.cell (j := 2) rfl
    have x3 := k6.cell (j := 3) rfl
    have fj1 := kj.frozen 1
    have fj2 := kj.frozen 2
    have fx0 := k6.frozen 0
    have fx1 := k6.frozen 1
    have fx2 := k6.frozen 2
    have fx3 := k6.frozen 3
    clear HW k6 k7 kj hb46 hb6
    by_cases h01 : F0.gen < F1.gen
    · go_wp2_with fail
      go_region_law (fail)
      all_goals have k6' := Blk.drew (((HK.out.1.other (p := ⟨w4.heap.size + 1 + 1, 1, none⟩) (by simp; omega) (.int .i64 1)).other (p := ⟨w4.heap.size + 1 + 1, 2, none⟩) (by simp; omega) (.int .u64 (F1.gen : Int))))
      all_goals have k7' := Blk.drew (((HK.out.2.1.other (p := ⟨w4.heap.size + 1 + 1, 1, none⟩) (by simp) (.int .i64 1)).other (p := ⟨w4.heap.size + 1 + 1, 2, none⟩) (by simp) (.int .u64 (F1.gen : Int))))
      all_goals have y0' := k7'.cell (j := 0) rfl
      all_goals have y1' := k7'.cell (j := 1) rfl
      all_goals have y2' := k7'.cell (j := 2) rfl
      all_goals have y3' := k7'.cell (j := 3) rfl
      all_goals have x0' := k6'.cell (j := 0) rfl
      all_goals have x1' := k6'.cell (j := 1) rfl
      all_goals have x2' := k6'.cell (j := 2) rfl
      all_goals have x3' := k6'.cell (j := 3) rfl
      all_goals have fx0' := k6'.frozen 0
      all_goals have fx1' := k6'.frozen 1
      all_goals have fx2' := k6'.frozen 2
      all_goals have fx3' := k6'.frozen 3
      all_goals go_wp2_with fail
      all_goals
        go_meet
        obtain ⟨hb6, hb46, hjl, hz2', hz3'⟩ := HB.out
        have hz4 := HZ4.out
        have hbf := below_set4' ((hb6.setCell (p := ⟨w4.heap.size + 1 + 1, 1, none⟩) (by simp; omega) (.int .i64 1)).setCell (p := ⟨w4.heap.size + 1 + 1, 2, none⟩) (by simp; omega) (.int .u64 (F1.gen : Int))) (g := w4.heap.size) hz4 (.int .u64 (F1.gen : Int)) (.slice A4 F1.snap.length c4) (.slice X4 ps4.length c24) (.int .i64 (F1.fin : Int))
        have hb4f := below_set4' ((hb46.setCell (p := ⟨w4.heap.size + 1 + 1, 1, none⟩) (by simp; omega) (.int .i64 1)).setCell (p := ⟨w4.heap.size + 1 + 1, 2, none⟩) (by simp; omega) (.int .u64 (F1.gen : Int))) (g := w4.heap.size) (Nat.le_refl _) (.int .u64 (F1.gen : Int)) (.slice A4 F1.snap.length c4) (.slice X4 ps4.length c24) (.int .i64 (F1.fin : Int))
        have hHP := HP.out
        rw [if_pos h01] at hHP
        obtain ⟨rfl, rfl⟩ := Prod.mk.inj hHP
        refine ⟨A4, c4, X4, c24, ps4, Blk.drew (Blk.other4 ((HK.out.2.2.set 1 _).set 2 _) (by omega) _ _ _ _), Blk.drew (Blk.set4 ((HK.out.1.other (by simp; omega) _).other (by simp; omega) _)), hbf.drew, ?_, .inr rfl, hgn4, hle4, HR4.out.2.2, (HR4.out.1.below hb4f.drew), (HR4.out.2.1.below hb4f.drew), hfr4.low hz3'⟩
        simp
        omega
    · go_wp2_with fail
      go_meet
      obtain ⟨hb6, hb46, hjl, hz2', hz3'⟩ := HB.out
      have hHP := HP.out
      rw [if_neg h01] at hHP
      obtain ⟨rfl, rfl⟩ := Prod.mk.inj hHP
      exact ⟨A2, c2, X2, c22, ps2, HK.out.2.2, HK.out.1, hb6, by omega, .inl rfl, hgn2, hle2, HR2.out.2.2, HR2.out.1.below hb46, HR2.out.2.1.below hb46, hfr2.low (by omega)⟩
  case rest =>
    obtain ⟨A, c, X, cX, ps, kj, k6, hb6, hz6, hf, hgn, hle, hbo, hrA, hrX, hfr⟩ := hcut
    obtain ⟨w6, rfl⟩ : ∃ w6 : World, w6 = wc := ⟨_, rfl⟩
    have hz4 := HZ4.out
    have hD6 := dsk_next hD0.out hb6
    have hjn : ¬ S (w4.heap.size + 1 + 1) := fun hs => by have := hD0.out.2.2.1 _ hs; omega
    have hn6 : ¬ S w4.heap.size := fun hs => by have := hD0.out.2.2.1 _ hs; omega
    have CC := kept (clean_any S g d (w4.heap.size + 1 + 1) f F.gen F.fin w6 hD6 kj hjn hf)
    have x3 := k6.cell (j := 3) rfl
    have HFA := kept (FAt.of_fresh (S := S) (gj := w4.heap.size + 1 + 1) (by omega) (by omega) hrA hrX hfr (fun k hs => hD0.out.2.2.1 k hs))
    have HLE := kept hle
    have HBO := kept hbo
    have HOM : Kept (openM d = open2 (cleanM d f F.fin) (f, F)) := ⟨by unfold openM; rw [HPK.out]⟩
    have HO2 : Kept (∀ r, open2 r (f, F) = if r.2 = 0 ∧ F.gen = 0 then (⟨(writeM r.1 0 (headN 1 [])).1, f, 1⟩, (writeM r.1 0 (headN 1 [])).2) else (⟨r.1, f, F.gen⟩, r.2)) := ⟨fun _ => rfl⟩
    clear HP HR2 HR4 HW z0 z0j z1j hfr2 hfr4 hle2 hgn2 hfi2 hsn2 hrc2 hle4 hgn4 hfi4 hsn4 hrc4 B0 B1 hrA hrX hfr hle hbo hb1 hb2 hb3 hb4 hb24 hc1 hc3 hz2
    generalize cleanM d f F.fin = r at *
    obtain ⟨d7, e7⟩ := r
    dsimp only at CC
    go_wp2_with fail
    refine CC.out.mono ?_
    rintro e w7 ⟨rfl, S7, hD7, hG7⟩
    have k7 := k6.upd hG7.1 hn6
    have kj7 := kj.upd hG7.1 hjn
    have hjn7 := goes_not hG7 hjn (by omega)
    have hG07 : Goes S w S7 w7 := (goes_below hb6).trans hG7
    have hz7 := hG7.1.size
    have HF7 := kept (HFA.out.goes (goesJ hG7 (w4.heap.size + 1 + 1)))
    clear CC HFA x3
    have x1 := k7.cell (j := 1) rfl
    have x2 := k7.cell (j := 2) rfl
    have j2 := kj7.cell (j := 2) rfl
    have fj2 := kj7.frozen 2
    by_cases he7 : e7 = 0
    · subst he7
      by_cases hg0 : F.gen = 0
      · have HR : Kept (openM d = (⟨(writeM d7 0 (headN 1 [])).1, f, 1⟩, (writeM d7 0 (headN 1 [])).2)) := ⟨by rw [HOM.out, HO2.out, if_pos ⟨rfl, hg0⟩]⟩
        have kj8 : Blk (w7.setCell ⟨w4.heap.size + 1 + 1, 2, none⟩ (.int .u64 1)) (w4.heap.size + 1 + 1) (JC g f 1) 33 := kj7.set 2 _
        have u8 : Upd (fun k => k = w4.heap.size + 1 + 1) w7 (w7.setCell ⟨w4.heap.size + 1 + 1, 2, none⟩ (.int .u64 1)) := Upd.setCell (S := fun k => k = w4.heap.size + 1 + 1) (Upd.refl _ w7) (p := ⟨w4.heap.size + 1 + 1, 2, none⟩) (.inl rfl) _
        have hD8 := dsk_upd hD7 u8 (fun i hi e => hjn7 (e ▸ hi))
        have hG8 : Goes (JG S7 (w4.heap.size + 1 + 1)) w7 (JG S7 (w4.heap.size + 1 + 1)) (w7.setCell ⟨w4.heap.size + 1 + 1, 2, none⟩ (.int .u64 1)) := ⟨u8.mono fun _ _ h => .inr h, fun _ hk => .inl hk⟩
        have hT8 : Tab (w7.setCell ⟨w4.heap.size + 1 + 1, 2, none⟩ (.int .u64 1)) := tab_below hT hgB (((hb6.mono hB).trans (hG7.below (by omega) hS)).setCell (by simp; omega) _)
        have hG7' := hG7
        have hz8 : (w7.setCell ⟨w4.heap.size + 1 + 1, 2, none⟩ (.int .u64 1)).heap.size = w7.heap.size := by simp [World.setCell]
        have HK8 := kept (And.intro kj8 hG8)
        have k8 := (k7.other (p := ⟨w4.heap.size + 1 + 1, 2, none⟩) (by simp; omega) (.int .u64 1))
        have CH := kept (head_any 1 none 0 0 [] (w7.setCell ⟨w4.heap.size + 1 + 1, 2, none⟩ (.int .u64 1)) rfl hT8 (by decide) (fun x hx => by cases hx) Rd.nil (by simp))
        have hhl := headN_len 1 []
        have CW := kept (fun (W : World) (hb : Below w7.heap.size (w7.setCell ⟨w4.heap.size + 1 + 1, 2, none⟩ (.int .u64 1)) W) (A : Option Addr) (c2 : Nat) (hr2 : Rd W W.heap.size A (BB (headN 1 []))) (hx : ∀ x, A = some x → BB (headN 1 []) ≠ [] → x.block ≠ g) => write_any S7 g d7 0 A (headN 1 []).length c2 (headN 1 []) W (dsk_next hD8 (by rw [hz8]; exact hb)) (.inl rfl) (headN_all _ (fun x hx => by cases hx)) rfl hr2 hx (by simp only [List.length_nil] at hhl; omega))
        have HG7 := kept hG07
        have hgl7 : g < w7.heap.size := by omega
        clear hG8 kj8 hD8 hT8 hG07 hhl hT hG7 hD7 u8 hD6
        generalize writeM d7 0 (headN 1 []) = r9 at *
        generalize headN 1 [] = hb9 at *
        obtain ⟨d9, e9⟩ := r9
        dsimp only at CW HR
        go_wp2_with fail
        refine CH.out.mono ?_
        rintro e w8 ⟨A8, c8, rfl, hown, hc8, hb8⟩
        have hr8 := hown.rd
        have HU8 := kept ((HG7.out.1.setCell (p := ⟨w4.heap.size + 1 + 1, 2, none⟩) (.inr (by simp; omega)) (.int .u64 1)).next hb8)
        rw [hz8] at hb8
        have hx8 : ∀ x, A8 = some x → BB hb9 ≠ [] → x.block ≠ g := by
          intro x hx _ hxg
          subst hx
          have h9 := (Own.lt hown x.block rfl).1
          omega
        have CW2 := kept (CW.out w8 hb8 A8 c8 hr8 hx8)
        clear CH CW hown hx8 hr8
        go_wp2_with fail
        refine CW2.out.mono ?_
        rintro e w9 ⟨rfl, S9, hD9, hG9⟩
        have hjn8 : ¬ S9 (w4.heap.size + 1 + 1) := goes_not hG9 hjn7 (by have := hb8.size; omega)
        have kj9 := (HK8.out.1.below (B := w7.heap.size) hb8 (by omega)).upd hG9.1 hjn7
        have k9 := (k8.below (B := w7.heap.size) hb8 (by omega)).upd hG9.1 (fun hs => hn6 ((hG7'.2 _ hs).elim id (fun h2 => by omega)))
        have HF9 := kept ((HF7.out.goes HK8.out.2).next (by rw [hz8]; exact hb8) |>.goes (goesJ hG9 (w4.heap.size + 1 + 1)))
        have hG09 : Goes S w S9 w9 := Goes.trans ⟨HU8.out, HG7.out.2⟩ hG9
        have hz9 := hG9.1.size
        have hz78 := hb8.size
        clear CW2 HK8 HG7 HU8 hG9 hb8 HOM HO2 hG7' x1 x2 j2 fj2 kj7 kj k6 k7 k8
        have x1 := k9.cell (j := 1) rfl
        have x2 := k9.cell (j := 2) rfl
        by_cases he9 : e9 = 0
        · subst he9
          have hbq : ∀ q, Below w9.heap.size w9 (w9.drewN q) := fun q => ⟨rfl, rfl, rfl, Nat.le_refl _, fun _ _ => rfl⟩
          go_wp2_with fail
          go_quiet (fail)
          go_wp2_with fail
          exact bodyPost_ret (v := .tuple #[.pointer (some ⟨w4.heap.size + 1 + 1, 0, none⟩), .slice A F.snap.length c, .slice X ps.length cX, .int .i64 0]) (by simp [results, Tryd.results14, go_sem]) rfl (by unfold OpenG; rw [HR.out, HPK.out]; exact ⟨S9, hG09.trans (goes_below (hbq _)), dsk_next hD9 (hbq _), .inl ⟨rfl, w4.heap.size + 1 + 1, A, c, X, cX, ps, rfl, by omega, ⟨dsk_next hD9 (hbq _), kj9.next (hbq _), hjn8, hf, (by show (1:Nat) < _; omega)⟩, HBO.out, HF9.out.next (hbq _), HLE.out⟩⟩)
        · have heb : ((e9 : Int) == 0) = false := by simpa using he9
          have heb2 : ((e9 : Int) != 0) = true := by simpa using he9
          go_wp2_with fail
          exact bodyPost_ret (v := .tuple #[.pointer none, .slice none 0 0, .slice none 0 0, .int .i64 (e9 : Int)]) (by simp [results, Tryd.results14, go_sem]) rfl (by unfold OpenG; rw [HR.out, HPK.out]; exact ⟨S9, hG09, hD9, .inr ⟨he9, rfl⟩⟩)
      · have HR : Kept (openM d = (⟨d7, f, F.gen⟩, 0)) := ⟨by rw [HOM.out, HO2.out, if_neg (fun h => hg0 h.2)]⟩
        have hbq : ∀ q, Below w7.heap.size w7 (w7.drewN q) := fun q => ⟨rfl, rfl, rfl, Nat.le_refl _, fun _ _ => rfl⟩
        have hg0b : ((F.gen : Int) == 0) = false := by simpa using hg0
        clear HOM HO2
        go_wp2_with fail
        go_quiet (fail)
        go_wp2_with fail
        exact bodyPost_ret (v := .tuple #[.pointer (some ⟨w4.heap.size + 1 + 1, 0, none⟩), .slice A F.snap.length c, .slice X ps.length cX, .int .i64 0]) (by simp [results, Tryd.results14, go_sem]) rfl (by unfold OpenG; rw [HR.out, HPK.out]; exact ⟨S7, hG07.trans (goes_below (hbq _)), dsk_next hD7 (hbq _), .inl ⟨rfl, w4.heap.size + 1 + 1, A, c, X, cX, ps, rfl, by omega, ⟨dsk_next hD7 (hbq _), kj7.next (hbq _), hjn7, hf, hgn⟩, HBO.out, HF7.out.next (hbq _), HLE.out⟩⟩)
    · have HR : Kept (openM d = (⟨d7, f, F.gen⟩, e7)) := ⟨by rw [HOM.out, HO2.out, if_neg (fun h => he7 h.1)]⟩
      have heb : ((e7 : Int) == 0) = false := by simpa using he7
      have heb2 : ((e7 : Int) != 0) = true := by simpa using he7
      clear HOM HO2
      go_wp2_with fail
      exact bodyPost_ret (v := .tuple #[.pointer none, .slice none 0 0, .slice none 0 0, .int .i64 (e7 : Int)]) (by simp [results, Tryd.results14, go_sem]) rfl (by unfold OpenG; rw [HR.out, HPK.out]; exact ⟨S7, hG07, hD7, .inr ⟨he7, rfl⟩⟩)
end Go.Proofs.YtdlghabpnpbebaaDoor.Jrn
