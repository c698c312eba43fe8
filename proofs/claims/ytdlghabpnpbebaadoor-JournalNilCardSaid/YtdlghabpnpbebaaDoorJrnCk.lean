/- The walks of layer 24, continued: Checkpoint. -/
import Derived.Test.YtdlghabpnpbebaaDoorJrnAdd
namespace Go.Proofs.YtdlghabpnpbebaaDoor.Jrn
open Go.RowKit Go.Proofs.YtdlghabpnpbebaaDoor.Mem Go.Proofs.YtdlghabpnpbebaaDoor.Num Go.Proofs.YtdlghabpnpbebaaDoor.Wal Go.Proofs.YtdlghabpnpbebaaDoor.Disk Go.Proofs.YtdlghabpnpbebaaDoor.Crc

theorem headN_all (gen : Nat) {l : List Nat} (h : AllB l) : AllB (headN gen l) := recB_all fun x hx => (List.mem_append.1 hx).elim (numB_all gen x) (h x)
theorem headN_len (gen : Nat) (l : List Nat) : (headN gen l).length ≤ l.length + 22 := by
  unfold headN
  have := recB_le (numB gen ++ l)
  have h2 := numB_length gen
  have h3 := Shift.lenB_le gen
  rw [List.length_append] at this
  omega
set_option maxHeartbeats 2000000 in
theorem ck_any (S : Nat → Prop) (g gj : Nat) (j : JS) (X : Option Addr) (m c : Nat) (l : List Nat) (w : World) (hm : m = l.length) (hT : Tab w) (h : JrnAt w S g gj j) (hl : AllB l) (B : Nat) (hB : B ≤ w.heap.size) (hS : ∀ k, S k → B ≤ k) (hgB : 0 < B) (hr : Rd w w.heap.size X (BB l)) (hxS : ∀ x, X = some x → BB l ≠ [] → ¬ S x.block) (hsz : l.length ≤ 140737488350000) :
    Calls Tryd.prog 12 #[.pointer (some ⟨gj, 0, none⟩), .slice X m c] w (JDoes S g gj w (ckM j l).1 (.int .i64 ((ckM j l).2 : Int))) := by
  subst hm
  obtain ⟨hD, hk, hgj, hf, hgen⟩ := h
  obtain ⟨d, f, gen⟩ := j
  dsimp only at hD hk hf hgen
  have hgl : g < w.heap.size := hD.2.2.1 g hD.2.1
  have hkl := hk.lt
  have hfe : 1 - f = 0 ∨ 1 - f = 1 := by omega
  have hfb : -9223372036854775808 ≤ f ∧ f ≤ 9223372036854775807 := by omega
  have hw1 : IntKind.i64.wrap (1 - f) = 1 - f := IntWalk.i64_in _ (by omega)
  have hhl := headN_len (nextG gen) l
  have CE := kept (empty_any S g d (1 - f) w hD hfe)
  have HM : Kept (ckM ⟨d, f, gen⟩ l = ck3 (ck2 (emptyM d (1 - f)) ⟨d, f, gen⟩ l) ⟨d, f, gen⟩) := ⟨rfl⟩
  have H2 : Kept (∀ r, ck2 r ⟨d, f, gen⟩ l = if r.2 = 0 then writeM r.1 (1 - f) (headN (nextG gen) l) else r) := ⟨fun _ => rfl⟩
  have H3 : Kept (∀ r, ck3 r ⟨d, f, gen⟩ = if r.2 ≠ 0 then (⟨r.1, f, gen⟩, r.2) else (⟨(r.1.cutM f 0).1, 1 - f, nextG gen⟩, (r.1.cutM f 0).2)) := ⟨fun _ => rfl⟩
  have HK := kept hk
  have c0 := hk.cell (j := 0) rfl
  have c1 := hk.cell (j := 1) rfl
  obtain ⟨⟨d1, e1⟩, hr1⟩ : ∃ r, emptyM d (1 - f) = r := ⟨_, rfl⟩
  rw [hr1] at CE HM
  dsimp only at CE
  clear hr1
  go_enter Tryd.func12, Tryd.ntmps12
  go_wp2_with fail
  refine CE.out.mono ?_
  rintro e w1 ⟨rfl, S1, hD1, hG1⟩
  have k1 := HK.out.upd hG1.1 hgj
  have hgj1 := goes_not hG1 hgj hkl
  have hz1 := hG1.1.size
  by_cases he : e1 = 0
  · subst he
    have hd1 : (0 : Int) ≤ 0 := by omega
    have c0 := k1.cell (j := 0) rfl
    have c1 := k1.cell (j := 1) rfl
    have c2 := k1.cell (j := 2) rfl
    have hgn : ((nextG gen : Nat) : Int) = ((gen : Int) + 1) % 18446744073709551616 := by unfold nextG; omega
    have hbB := hG1.below hB hS
    have CH := kept (head_any (nextG gen) X l.length c l w1.drew rfl ((tab_below hT hgB hbB).next (Below.refl w1.heap.size w1).drew) (nextG_lt gen) hl (((hr.updN hG1.1 (Nat.le_refl _) hxS).more hz1).next (Below.refl w1.heap.size w1).drew) (by omega))
    have hgl1 : g < w1.heap.size := by omega
    have CW := kept (fun (W : World) (hb : Below w1.heap.size w1 W) (A : Option Addr) (c2 : Nat) (hr2 : Rd W W.heap.size A (BB (headN (nextG gen) l))) (hx : ∀ x, A = some x → BB (headN (nextG gen) l) ≠ [] → x.block ≠ g) => write_any S1 g d1 (1 - f) A (headN (nextG gen) l).length c2 (headN (nextG gen) l) W (dsk_next hD1 hb) hfe (headN_all _ hl) rfl hr2 hx (by omega))
    have HSB : Kept (∀ W, Below w1.heap.size w1 W → W.cell? ⟨gj, 0, none⟩ = some (.pointer (some ⟨g, 0, none⟩)) ∧ W.cell? ⟨gj, 2, none⟩ = some (.int .u64 (gen : Int))) := ⟨fun W hb => ⟨(k1.next hb).cell (j := 0) rfl, (k1.next hb).cell (j := 2) rfl⟩⟩
    have HSG : Kept (∀ S2 W, Goes S1 w1 S2 W → W.cell? ⟨gj, 0, none⟩ = some (.pointer (some ⟨g, 0, none⟩)) ∧ W.cell? ⟨gj, 2, none⟩ = some (.int .u64 (gen : Int))) := ⟨fun S2 W hG => ⟨(k1.upd hG.1 hgj1).cell (j := 0) rfl, (k1.upd hG.1 hgj1).cell (j := 2) rfl⟩⟩
    have hgw : IntKind.u64.wrap ((gen : Int) + 1) = ((nextG gen : Nat) : Int) := by rw [hgn]; simp [IntKind.wrap, IntKind.bits, IntKind.signed]
    have HM2 : Kept (ckM ⟨d, f, gen⟩ l = ck3 (writeM d1 (1 - f) (headN (nextG gen) l)) ⟨d, f, gen⟩) := ⟨by rw [HM.out, H2.out]; rfl⟩
    generalize writeM d1 (1 - f) (headN (nextG gen) l) = r2 at *
    generalize headN (nextG gen) l = hb9 at *
    clear hD1 hT hr HM H2 hgn hbB CE
    obtain ⟨d2, e2⟩ := r2
    dsimp only at CW
    have hbd : Below w1.heap.size w1 w1.drew := (Below.refl _ _).drew
    go_wp2_with fail
    go_cut [6] (fun p wr => p = .int .i64 (e2 : Int) ∧ ∃ S2, Dsk wr S2 g d2 ∧ Goes S1 w1 S2 wr)
    case first =>
      go_region_held3 (fun W => W.cell? ⟨gj, 0, none⟩ = some (.pointer (some ⟨g, 0, none⟩)) ∧ W.cell? ⟨gj, 2, none⟩ = some (.int .u64 (gen : Int))) (first | exact HSB.out _ (by assumption) | exact HSG.out _ _ (by assumption)) (first
        | (go_at_call 36; ((with_reducible refine CH.out.mono ?_); rintro e w2 ⟨A1, c2, rfl, hown, hc2, hb⟩; have hb1 : Below w1.heap.size w1 w2 := hbd.trans hb; have hr1 := hown.rd; have hx1 : ∀ x, A1 = some x → BB hb9 ≠ [] → x.block ≠ g := (by intro x hx _ hxg; subst hx; have h9 := (Own.lt hown x.block rfl).1; have h8 : w1.drew.heap.size = w1.heap.size := rfl; omega)))
        | (go_at_call 33; ((with_reducible refine (CW.out _ (by assumption) _ _ (by assumption) (by assumption)).mono ?_); rintro e w3 ⟨rfl, S2, hD2, hG2⟩; have hG3 : Goes S1 w1 S2 w3 := (goes_below (by assumption)).trans hG2)))
      all_goals go_wp2_with fail
      all_goals go_meet
      all_goals exact ⟨rfl, S2, hD2, hG3⟩
    case rest =>
      obtain ⟨rfl, S2, hD2, hG2⟩ := hcut
      obtain ⟨w2, rfl⟩ : ∃ w2 : World, w2 = wc := ⟨_, rfl⟩
      have k2 := k1.upd hG2.1 hgj1
      have hgj2 := goes_not hG2 hgj1 (by omega)
      have hG02 := hG1.trans hG2
      have hz2 := hG2.1.size
      clear CH CW HSB HSG k1 c0 c1 c2
      have c0 := k2.cell (j := 0) rfl
      have c1 := k2.cell (j := 1) rfl
      have c2 := k2.cell (j := 2) rfl
      by_cases he2 : e2 = 0
      · subst he2
        have f0 := k2.frozen 0
        have f1 := k2.frozen 1
        have f2 := k2.frozen 2
        have k3 : Blk ((w2.setCell ⟨gj, 1, none⟩ (.int .i64 (1 - f))).setCell ⟨gj, 2, none⟩ (.int .u64 ((nextG gen : Nat) : Int))) gj (JC g (1 - f) (nextG gen)) 33 := (k2.set 1 _).set 2 _
        have u3 : Upd (fun k => k = gj) w2 ((w2.setCell ⟨gj, 1, none⟩ (.int .i64 (1 - f))).setCell ⟨gj, 2, none⟩ (.int .u64 ((nextG gen : Nat) : Int))) := Upd.setCell (S := fun k => k = gj) (Upd.setCell (S := fun k => k = gj) (Upd.refl _ w2) (p := ⟨gj, 1, none⟩) (.inl rfl) _) (p := ⟨gj, 2, none⟩) (.inl rfl) _
        have hD3 := dsk_upd hD2 u3 (fun i hi e => hgj2 (e ▸ hi))
        have hz3 : (((w2.setCell ⟨gj, 1, none⟩ (.int .i64 (1 - f))).setCell ⟨gj, 2, none⟩ (.int .u64 ((nextG gen : Nat) : Int))) : World).heap.size = w2.heap.size := by simp [World.setCell]
        have CC := kept (cut_any S2 g d2 f 0 _ hD3 hfb)
        have hw2 : IntKind.i64.wrap (1 - (1 - f)) = f := by rw [show 1 - (1 - f) = f by omega]; exact IntWalk.i64_in _ hfb
        have hw3 : 1 - (1 - f) = f := by omega
        have HR : Kept (ckM ⟨d, f, gen⟩ l = (⟨(d2.cutM f 0).1, 1 - f, nextG gen⟩, (d2.cutM f 0).2)) := ⟨by rw [HM2.out, H3.out]; rfl⟩
        have HK3 := kept (And.intro k3 (And.intro u3 hz3))
        clear k3 u3 hz3 hD3 HM2 H3
        generalize d2.cutM f 0 = r3 at *
        go_wp2_with fail
        refine CC.out.mono ?_
        rintro e w4 ⟨rfl, S4, hD4, hG4⟩
        go_wp2_with fail
        go_ret
        rw [HR.out]
        obtain ⟨k3, u3, hz3⟩ := HK3.out
        have hg3 : Goes (JG S2 gj) w2 (JG S2 gj) ((w2.setCell ⟨gj, 1, none⟩ (.int .i64 (1 - f))).setCell ⟨gj, 2, none⟩ (.int .u64 ((nextG gen : Nat) : Int))) := ⟨u3.mono fun _ _ h => .inr h, fun _ hk => .inl hk⟩
        exact ⟨rfl, S4, ⟨hD4, k3.upd hG4.1 hgj2, goes_not hG4 hgj2 (by rw [hz3]; omega), hfe, nextG_lt gen⟩, (goesJ hG02 gj).trans (hg3.trans (goesJ hG4 gj))⟩
      · have HR : Kept (ckM ⟨d, f, gen⟩ l = (⟨d2, f, gen⟩, e2)) := ⟨by rw [HM2.out, H3.out, if_pos he2]⟩
        have heb2 : ((e2 : Int) != 0) = true := by simpa using he2
        clear H3 HM2
        go_wp2_with fail
        go_ret
        rw [HR.out]
        exact ⟨rfl, S2, ⟨hD2, k2, hgj2, hf, hgen⟩, goesJ hG02 gj⟩
  · have HR : Kept (ckM ⟨d, f, gen⟩ l = (⟨d1, f, gen⟩, e1)) := ⟨by rw [HM.out, H2.out, if_neg he, H3.out, if_pos he]⟩
    have heb : ((e1 : Int) == 0) = false := by simpa using he
    have heb2 : ((e1 : Int) != 0) = true := by simpa using he
    clear CE HM H2 H3
    go_wp2_with fail
    go_ret
    rw [HR.out]
    exact ⟨rfl, S1, ⟨hD1, k1, hgj1, hf, hgen⟩, goesJ hG1 gj⟩
end Go.Proofs.YtdlghabpnpbebaaDoor.Jrn
