/- Layer 50 (change): the law ChangeApplies. -/
import Derived.Test.YtnmcclkpgbdenaaChgLaws
import Derived.Deep.RegionLaw
namespace Go.Proofs.Ytnmcclkpgbdenaa.Chg
open Go.RowKit Go.Proofs.Ytnmcclkpgbdenaa.Mem Go.Proofs.Ytnmcclkpgbdenaa.Card

/-- cards whose lines' texts may be written: what is known of their memory while that is done, behind N writes -/
def WkSt (w W : World) (base : Nat) (A : Option Addr) (ys : List CardM) (N : Nat) : Prop :=
  Below base w W ∧ ∀ (i : Nat) (y : CardM), ys[i]? = some y → y.ls.length ≤ 60 ∧ ∃ r, A = some ⟨r, 0, none⟩ ∧ W.cell? ⟨r, i * 2 + 1, none⟩ = some (.slice y.X y.ls.length y.c) ∧
    ∀ k, k < y.ls.length → ∃ g, y.X = some ⟨g, 0, none⟩ ∧ g ≠ r ∧ base ≤ g ∧ (∃ t : ByteArray, W.cell? ⟨g, k * 3 + 1, none⟩ = some (.string t) ∧ t.size ≤ 1000 + N) ∧ W.frozen? ⟨g, k * 3 + 1, none⟩ = false
theorem WkSt.start {w : World} {base : Nat} {A : Option Addr} {c n : Nat} {ys : List CardM} (h : CsOwn w base A c ys) (hb : BdC n ys) (hn : n ≤ 40) : WkSt w w base A ys 0 := by
  refine ⟨Below.refl _ _, fun i y hy => ?_⟩
  have hk := hb.2 y (List.mem_of_getElem? hy)
  have hf := h.2 y (List.mem_of_getElem? hy)
  refine ⟨by have := hk.1; omega, ?_⟩
  obtain ⟨r, rfl, hbr, hrw, hc, -, -⟩ := h.1.spot (i := i) (j := 1) hy rfl
  refine ⟨r, rfl, hc, fun k hkl => ?_⟩
  have hz := List.getElem?_eq_getElem hkl
  obtain ⟨g, hX, hbg, hgw, hcg, hfg, -⟩ := hf.2.1.spot (i := k) (j := 1) hz rfl
  refine ⟨g, hX, fun e => ?_, hbg, ⟨_, hcg, ?_⟩, hfg⟩
  · have := OwnK.apart hf.2.1 h.1 (by decide)
    rw [hX, e] at this
    rcases this with h1 | h1
    · cases h1
    · exact h1 rfl
  · have := (hk.2 _ (List.getElem_mem hkl)).1
    omega
theorem WkSt.drew {w W : World} {base N : Nat} {A : Option Addr} {ys : List CardM} (h : WkSt w W base A ys N) : WkSt w W.drew base A ys N := ⟨h.1.drew, h.2⟩
theorem WkSt.more {w W : World} {base N M : Nat} {A : Option Addr} {ys : List CardM} (h : WkSt w W base A ys N) (hm : N ≤ M) : WkSt w W base A ys M := ⟨h.1, fun i y hy => by
  obtain ⟨h1, r, h2, h3, h4⟩ := h.2 i y hy
  refine ⟨h1, r, h2, h3, fun k hk => ?_⟩
  obtain ⟨g, e1, e2, e3, ⟨t, e4, e5⟩, e6⟩ := h4 k hk
  exact ⟨g, e1, e2, e3, ⟨t, e4, by omega⟩, e6⟩⟩
theorem WkSt.set {w W : World} {base N : Nat} {r : Nat} {ys : List CardM} (h : WkSt w W base (some ⟨r, 0, none⟩) ys N) {g k : Nat} (hg : base ≤ g) (hne : g ≠ r) {t0 : ByteArray} (hc : W.cell? ⟨g, k * 3 + 1, none⟩ = some (.string t0)) {t : ByteArray} (ht : t.size ≤ 1000 + (N + 1)) : WkSt w (W.setCell ⟨g, k * 3 + 1, none⟩ (.string t)) base (some ⟨r, 0, none⟩) ys (N + 1) := by
  refine ⟨h.1.setCell (p := ⟨g, k * 3 + 1, none⟩) hg _, fun i y hy => ?_⟩
  obtain ⟨h1, r1, h2, h3, h4⟩ := h.2 i y hy
  obtain rfl : r = r1 := congrArg Addr.block (Option.some.inj h2)
  refine ⟨h1, r, rfl, ?_, fun j hj => ?_⟩
  · rw [World.cell?_setCell_other W _ _ _ (fun e => hne (congrArg Addr.block e))]; exact h3
  · obtain ⟨g1, e1, e2, e3, ⟨t1, e4, e5⟩, e6⟩ := h4 j hj
    refine ⟨g1, e1, e2, e3, ?_, by rw [World.frozen?_setCell]; exact e6⟩
    by_cases he : (⟨g, k * 3 + 1, none⟩ : Addr) = ⟨g1, j * 3 + 1, none⟩
    · rw [← he]
      exact ⟨t, World.cell?_setCell_same W _ _ hc, by omega⟩
    · exact ⟨t1, by rw [World.cell?_setCell_other W _ _ _ he]; exact e4, by omega⟩
set_option maxRecDepth 100000 in
set_option maxHeartbeats 4000000 in
theorem applies_law (X Y : Option Addr) (l : List CardM) (cs : List ChM) (c cc : Nat) (w : World) (h1 : RdCards w w.heap.size X l) (h2 : RdChs w w.heap.size Y cs) (hc1 : l.length ≤ c) (hb1 : c ≤ 4398046511104) (hc2 : cs.length ≤ 2000000000000)
    (t1 : ∀ y ∈ l, ∀ u ∈ y.ls, u.t.size ≤ 140737488355328 ∧ ∀ q ∈ u.m, q.size ≤ 9223372036854775807) (t2 : ∀ x ∈ cs, (∀ u ∈ x.card.ls, u.t.size ≤ 140737488355328 ∧ ∀ q ∈ u.m, q.size ≤ 9223372036854775807) ∧ x.line.t.size ≤ 140737488355328 ∧ ∀ q ∈ x.line.m, q.size ≤ 9223372036854775807) :
    Calls Try.prog 4 #[.slice X l.length c, .slice Y cs.length cc] w fun e w' => e = .returned (.bool true) ∧ Below w.heap.size w w' := by
  have CF1 := kept (few_any X l c w h1 (by omega))
  have CF2 := kept (fews_any Y cs cc w h2 hc2)
  have H1 := kept h1
  have H2 := kept h2
  have HC1 := kept hc1
  have HF1 : Kept (decide (fewC l) = true → BdC 0 l) := ⟨fun h => by
    have hf := of_decide_eq_true h
    exact ⟨hf.1, fun y hy => ⟨(hf.2 y hy).1, fun u hu => ⟨((hf.2 y hy).2 u hu).1, ((hf.2 y hy).2 u hu).2, (t1 y hy u hu).2⟩⟩⟩⟩
  have HF2 : Kept (decide (fewS cs) = true → cs.length ≤ 30 ∧ ∀ x ∈ cs, BdX x) := ⟨fun h => by
    have hf := of_decide_eq_true h
    exact ⟨hf.1, fun x hx => ⟨⟨(hf.2 x hx).1.1, fun u hu => ⟨((hf.2 x hx).1.2 u hu).1, ((hf.2 x hx).1.2 u hu).2, ((t2 x hx).1 u hu).2⟩⟩, (hf.2 x hx).2.1, (hf.2 x hx).2.2, (t2 x hx).2.2⟩⟩⟩
  have CW := kept (fun W : World => chworks_any W)
  clear h1 h2 t1 t2 hc1 hc2 hb1
  generalize decide (fewC l) = f1 at *
  generalize decide (fewS cs) = f2 at *
  cases f1 with
  | false =>
    go_enter Try.func4, Try.ntmps4
    go_wp2_with fail
    refine CF1.out.mono ?_
    rintro e w1 ⟨rfl, rfl⟩
    go_wp2_with fail
    refine (CW.out _).mono ?_
    rintro e w2 ⟨rfl, hb⟩
    go_wp2_with fail
    go_ret
    exact ⟨rfl, hb⟩
  | true =>
    cases f2 with
    | false =>
      go_enter Try.func4, Try.ntmps4
      go_wp2_with fail
      refine CF1.out.mono ?_
      rintro e w1 ⟨rfl, rfl⟩
      go_wp2_with fail
      refine CF2.out.mono ?_
      rintro e w1 ⟨rfl, hb1⟩
      go_wp2_with fail
      refine (CW.out _).mono ?_
      rintro e w2 ⟨rfl, hb⟩
      go_wp2_with fail
      go_ret
      exact ⟨rfl, hb1.trans (hb.mono hb1.size)⟩
    | true =>
      have HBD := kept (HF1.out rfl)
      have HN := kept (HF2.out rfl).1
      have HBX := kept (HF2.out rfl).2
      have CA := kept (fun (W : World) (hb : Below w.heap.size w W) => apply_any X Y l cs c cc W (H1.out.next hb) (H2.out.next hb) HBD.out HN.out HBX.out)
      have CR := kept (fun (W : World) (hb : Below w.heap.size w W) => rapply_any X Y l cs c cc W (H1.out.next hb) HC1.out (H2.out.next hb) HBD.out HN.out HBX.out)
      have HBO : Kept (∀ ys : List CardM, ys.map CardM.p = (applyM l cs).1.map CardM.p → BdC 40 ys) := ⟨fun ys h => bdC_p h.symm (by
        have hall : ∀ (cs : List ChM) (l : List CardM) (n : Nat), BdC n l → (∀ x ∈ cs, BdX x) → BdC (n + cs.length) (allM l cs).1 := by
          intro cs
          induction cs with
          | nil => intro l n h _; exact h
          | cons x cs ih =>
            intro l n h hx
            unfold allM
            split
            · have := ih (oneM l x).1 (n + 1) (oneM_bd h (hx x (List.mem_cons_self ..))) (fun z hz => hx z (List.mem_cons_of_mem _ hz))
              rw [List.length_cons, show n + (cs.length + 1) = n + 1 + cs.length from by omega]
              exact this
            · exact ⟨by simp, fun y hy => by cases hy⟩
        unfold applyM
        split
        · exact (hall cs l 0 HBD.out HBX.out).mono (by have := HN.out; omega)
        · exact ⟨by simp, fun y hy => by cases hy⟩)⟩
      generalize applyM l cs = o at *
      obtain ⟨ol, oe⟩ := o
      dsimp only at HBO
      go_enter Try.func4, Try.ntmps4
      go_wp2_with fail
      refine CF1.out.mono ?_
      rintro e w1 ⟨rfl, rfl⟩
      go_wp2_with fail
      refine CF2.out.mono ?_
      rintro e w1 ⟨rfl, hb1⟩
      have HB1 := kept hb1
      clear CF1 CF2 hb1 HF1 HF2
      go_wp2_with fail
      refine (CR.out _ HB1.out).mono ?_
      rintro e w2 ⟨A2, c2, want, rfl, hw2, hrw, hpw, hb2⟩
      have HB2 := kept (HB1.out.trans (hb2.mono HB1.out.size))
      have HRW := kept hrw
      have HPW := kept hpw
      clear hb2 hrw hpw hw2 CR
      go_wp2_with fail
      refine (CA.out _ HB2.out).mono ?_
      rintro e w3 ⟨A3, c3, zs, rfl, hown, hpa, hb3⟩
      have HBW := kept hb3
      have HOW := kept hown
      have HBD3 := kept (HBO.out zs hpa)
      have CL := kept (rall_any A3 A2 zs.length want.length c3 c2 zs want w3 rfl rfl hown.rd (HRW.out.next hb3) (by have := HBD3.out.1; omega))
      rw [decide_eq_true (hpa.trans HPW.out.symm)] at CL
      have HNA : Kept (zs.length ≤ 65) := ⟨HBD3.out.1⟩
      clear hown hpa hb3
      go_wp2_with fail
      refine CL.out.mono ?_
      rintro e w4 ⟨rfl, hb4⟩
      have HST := kept (WkSt.start (HOW.out.next hb4) HBD3.out (Nat.le_refl _))
      have HB4 : Kept (Below w2.heap.size w2 w4) := ⟨HBW.out.trans (hb4.mono HBW.out.size)⟩
      clear hb4 CL HOW HBD3 HBW
      go_wp2_with fail
      go_loopw [45] (fun i wr => ∃ j : Nat, j ≤ zs.length ∧ i = .int .i64 (j : Int) ∧ Kept (WkSt w4 wr w2.heap.size A3 zs (60 * j))) (fun i _ => zs.length - (intOf i).toNat)
      case atStart => exact ⟨0, Nat.zero_le _, rfl, ⟨HST.out⟩⟩
      case round =>
        clear HST
        obtain ⟨j, hj, rfl, hin⟩ := hrel
        by_cases hlt : j < zs.length
        · obtain ⟨⟨ycid, yX, yls, yc⟩, hy⟩ : ∃ y, zs[j]? = some y := ⟨_, List.getElem?_eq_getElem hlt⟩
          obtain ⟨hyl, r, rfl, hcr, -⟩ := hin.out.2 j _ hy
          have HIN := kept hin.out
          have HY := kept hy
          have hjn : (j : Int) < (zs.length : Int) := by omega
          have hn65 := HNA.out
          dsimp only at hcr hyl
          clear hin hy
          go_wp2_with fail
          go_loopw [54] (fun i wr2 => ∃ k : Nat, k ≤ yls.length ∧ i = .int .i64 (k : Int) ∧ Kept (WkSt w4 wr2 w2.heap.size (some ⟨r, 0, none⟩) zs (60 * j + k))) (fun i _ => yls.length - (intOf i).toNat)
          case atStart => exact ⟨0, Nat.zero_le _, rfl, ⟨HIN.out⟩⟩
          case round =>
            clear HIN hcr
            obtain ⟨k, hk, rfl, hin⟩ := hrel
            by_cases hkl : k < yls.length
            · obtain ⟨-, r1, hr1, hcr, hr2⟩ := hin.out.2 j _ HY.out
              obtain rfl : r = r1 := congrArg Addr.block (Option.some.inj hr1)
              obtain ⟨g, hX, hne, hbg, ⟨t, hct, hts⟩, hfz⟩ := hr2 k hkl
              dsimp only at hcr hX
              subst hX
              have hkn : (k : Int) < (yls.length : Int) := by omega
              have hsz : ¬ 9223372036854775807 < t.size + (⟨#[120]⟩ : ByteArray).size := by
                have : (⟨#[120]⟩ : ByteArray).size = 1 := rfl
                omega
              have HS : Kept (WkSt w4 (wr.drew.setCell ⟨g, k * 3 + 1, none⟩ (.string (t ++ ⟨#[120]⟩))) w2.heap.size (some ⟨r, 0, none⟩) zs (60 * j + (k + 1))) := ⟨WkSt.set (hin.out.drew) hbg hne hct (by
                rw [ByteArray.size_append]
                have : (⟨#[120]⟩ : ByteArray).size = 1 := rfl
                omega)⟩
              clear hin hr1 hr2 hts
              go_wp2_with fail
              go_region
              all_goals
                go_wp2_with fail
              all_goals go_roundw
              all_goals first | exact ⟨k + 1, by omega, by go_num, HS⟩ | (simp [intOf]; omega)
            · obtain rfl : k = yls.length := by omega
              have HN2 : Kept (WkSt w4 wr w2.heap.size (some ⟨r, 0, none⟩) zs (60 * (j + 1))) := ⟨hin.out.more (by omega)⟩
              clear hin
              go_wp2_with fail
              go_roundw
              case rel => exact ⟨j + 1, by omega, by go_num, HN2⟩
              case measure => simp [intOf]; omega
        · obtain rfl : j = zs.length := by omega
          have HB5 : Kept (Below w2.heap.size w2 wr) := ⟨HB4.out.trans hin.out.1⟩
          have HB6 := kept (HB2.out.trans (HB5.out.mono HB2.out.size))
          clear hin
          go_wp2_with fail
          refine (CA.out _ HB6.out).mono ?_
          rintro e w7 ⟨A7, c7, bs, rfl, hown7, hpb, hb7⟩
          have hw7 : Below w2.heap.size w2 w7 := HB5.out.trans (hb7.mono HB5.out.size)
          have CL2 := kept (rall_any A7 A2 bs.length want.length c7 c2 bs want w7 rfl rfl hown7.rd ((HRW.out.below hw7).more hw7.size) (by have := (HBO.out bs hpb).1; omega))
          rw [decide_eq_true (hpb.trans HPW.out.symm)] at CL2
          have HB7 := kept (HB2.out.trans (hw7.mono HB2.out.size))
          clear hown7 hpb hb7 hw7
          go_wp2_with fail
          refine CL2.out.mono ?_
          rintro e w8 ⟨rfl, hb8⟩
          have HB8 := kept (HB7.out.trans (hb8.mono HB7.out.size))
          clear hb8 CL2
          go_wp2_with fail
          refine (CW.out _).mono ?_
          rintro e w9 ⟨rfl, hb9⟩
          go_wp2_with fail
          go_ret
          exact ⟨rfl, HB8.out.trans (hb9.mono HB8.out.size)⟩
end Go.Proofs.Ytnmcclkpgbdenaa.Chg
