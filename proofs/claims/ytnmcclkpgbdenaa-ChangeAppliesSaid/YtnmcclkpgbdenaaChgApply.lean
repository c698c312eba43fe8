/- Layer 50 (change): change.Apply. -/
import Derived.Test.YtnmcclkpgbdenaaChgOneL
namespace Go.Proofs.Ytnmcclkpgbdenaa.Chg
open Go.RowKit Go.Proofs.Ytnmcclkpgbdenaa.Mem Go.Proofs.Ytnmcclkpgbdenaa.Card

theorem one_any (base : Nat) (A : Option Addr) (c : Nat) (l : List CardM) (x : ChM) (w : World) (hl : CsOwn w base A c l) (hx : x.Ok w base) (hbs : base ≤ w.heap.size) (hg : goodL l = true) (hbd : BdC 40 l) :
    Calls Try.prog 46 #[.slice A l.length c, x.val] w (GivesO w base (oneM l x)) := by
  by_cases h : x.k < 1 ∨ 4 < x.k
  · exact one_bad base A c l x w hl hx hbs hg hbd h
  · rcases (show x.k = 1 ∨ x.k = 2 ∨ x.k = 3 ∨ x.k = 4 by omega) with h | h | h | h
    · exact one_new base A c l x w hl hx hbs hg hbd h
    · exact one_gone base A c l x w hl hx hbs hg hbd h
    · exact one_set base A c l x w hl hx hbs hg hbd h
    · exact one_drop base A c l x w hl hx hbs hg hbd h
/-- all changes done, if the list is in order -/
def applyM (l : List CardM) (cs : List ChM) : List CardM × Nat := if goodL l = true then allM l cs else ([], 1)
theorem BdC.mono {n m : Nat} {l : List CardM} (h : BdC n l) (hm : n ≤ m) : BdC m l := ⟨by have := h.1; omega, fun y hy => (h.2 y hy).mono (by omega)⟩
theorem CsOwn.app {w w' : World} {base : Nat} {A A2 : Option Addr} {c c2 : Nat} {l r : List CardM} {y : CardM} (h : CsOwn w base A c l) (hy : y.Fresh w base) (hr : r = l ++ [y]) (ho : cardE.Own w' base 38 (.slice A2 r.length c2) r)
    (hu : ∀ S : Nat → Prop, (∀ k, (Value.slice A l.length c).ownBlock = some k → S k) → Upd S w w') : CsOwn w' base A2 c2 r := by
  refine h.turn (hu _ fun _ e => e) ho fun z hz => ?_
  rw [hr] at hz
  rcases List.mem_append.1 hz with h1 | h1
  · exact h.2 z h1
  · rw [List.mem_singleton.1 h1]; exact hy
/-- what is left to be done makes of the list what all makes of the given one -/
def Left (l : List CardM) (cs : List ChM) (k : Nat) (ys : List CardM) : Prop := goodL ys = true ∧ BdC k ys ∧ (allM ys (cs.drop k)).2 = (allM l cs).2 ∧ (allM ys (cs.drop k)).1.map CardM.p = (allM l cs).1.map CardM.p
theorem left_start {l ys : List CardM} {cs : List ChM} (hg : goodL l = true) (hb : BdC 0 l) (h : ys.map CardM.p = l.map CardM.p) : Left l cs 0 ys := by
  rw [Left, List.drop_zero]
  exact ⟨by rw [goodL_p h]; exact hg, bdC_p h.symm hb, allM_p cs h⟩
theorem left_step {l ys zs : List CardM} {cs : List ChM} {k : Nat} {x : ChM} (h : Left l cs k ys) (hx : cs[k]? = some x) (hb : BdX x) (h0 : (oneM ys x).2 = 0) (hz : zs.map CardM.p = (oneM ys x).1.map CardM.p) : Left l cs (k + 1) zs := by
  obtain ⟨h1, h2, h3, h4⟩ := h
  have hd : cs.drop k = x :: cs.drop (k + 1) := by
    obtain ⟨e1, e2⟩ := List.getElem?_eq_some_iff.1 hx
    rw [List.drop_eq_getElem_cons e1, e2]
  rw [hd, allM, if_pos h0] at h3 h4
  obtain ⟨e1, e2⟩ := allM_p (cs.drop (k + 1)) hz
  exact ⟨by rw [goodL_p hz]; exact oneM_good h1, bdC_p hz.symm (oneM_bd h2 hb), e1.trans h3, e2.trans h4⟩
theorem left_err {l ys : List CardM} {cs : List ChM} {k : Nat} {x : ChM} (h : Left l cs k ys) (hx : cs[k]? = some x) (h0 : ¬ (oneM ys x).2 = 0) : (allM l cs).1 = [] ∧ (allM l cs).2 = (oneM ys x).2 := by
  obtain ⟨h1, h2, h3, h4⟩ := h
  have hd : cs.drop k = x :: cs.drop (k + 1) := by
    obtain ⟨e1, e2⟩ := List.getElem?_eq_some_iff.1 hx
    rw [List.drop_eq_getElem_cons e1, e2]
  rw [hd, allM, if_neg h0] at h3 h4
  exact ⟨by simpa using h4.symm, h3.symm⟩
theorem left_done {l ys : List CardM} {cs : List ChM} (h : Left l cs cs.length ys) : (allM l cs).2 = 0 ∧ ys.map CardM.p = (allM l cs).1.map CardM.p := by
  obtain ⟨h1, h2, h3, h4⟩ := h
  rw [List.drop_length, allM] at h3 h4
  exact ⟨h3.symm, h4⟩
theorem ch_cells {w : World} {B : Nat} {Y : Option Addr} {cs : List ChM} (h : RdChs w B Y cs) {k : Nat} {x : ChM} (hx : cs[k]? = some x) :
    ∃ b o, Y = some ⟨b, o, none⟩ ∧ b < B ∧ w.cell? ⟨b, o + k * 6, none⟩ = some (.int .u8 (x.k : Int)) ∧ w.cell? ⟨b, o + k * 6 + 1, none⟩ = some (.int .u64 (x.card.cid : Int)) ∧ w.cell? ⟨b, o + k * 6 + 2, none⟩ = some (.slice x.card.X x.card.ls.length x.card.c) ∧
      w.cell? ⟨b, o + k * 6 + 3, none⟩ = some (.int .u8 (x.line.f : Int)) ∧ w.cell? ⟨b, o + k * 6 + 4, none⟩ = some (.string x.line.t) ∧ w.cell? ⟨b, o + k * 6 + 5, none⟩ = some (.slice x.line.A x.line.m.length x.line.c) := by
  obtain ⟨b, o, e, hb, hc⟩ := h.1.at_ hx
  exact ⟨b, o, e, hb, hc 0 _ rfl, hc 1 _ rfl, hc 2 _ rfl, hc 3 _ rfl, hc 4 _ rfl, hc 5 _ rfl⟩
set_option maxRecDepth 100000 in
set_option maxHeartbeats 4000000 in
theorem apply_any (X Y : Option Addr) (l : List CardM) (cs : List ChM) (c cc : Nat) (w : World) (hr : RdCards w w.heap.size X l) (hc : RdChs w w.heap.size Y cs) (hb : BdC 0 l) (hn : cs.length ≤ 30) (hx : ∀ x ∈ cs, BdX x) :
    Calls Try.prog 17 #[.slice X l.length c, .slice Y cs.length cc] w (GivesO w w.heap.size (applyM l cs)) := by
  have hll : l.length ≤ 25 := hb.1
  have CG := kept (good_any X l c w hr (by omega))
  have HR := kept hr
  have HC := kept hc
  have HBD := kept hb
  have HBX := kept hx
  clear hr hc hb hx
  cases hg : goodL l with
  | false =>
    have HO : Kept (applyM l cs = ([], 1)) := ⟨by unfold applyM; rw [hg]; rfl⟩
    rw [hg] at CG
    clear hg
    go_enter Try.func17, Try.ntmps17
    go_wp2_with fail
    refine CG.out.mono ?_
    rintro e w1 ⟨rfl, hb1⟩
    go_wp2_with fail
    first | go_ret | go_ret2
    rw [HO.out]
    exact givesO_err hb1
  | true =>
    have HO : Kept (applyM l cs = allM l cs) := ⟨by unfold applyM; rw [hg]; rfl⟩
    have HST : Kept (∀ ys : List CardM, ys.map CardM.p = l.map CardM.p → Left l cs 0 ys) := ⟨fun ys h => left_start hg HBD.out h⟩
    rw [hg] at CG
    clear hg
    go_enter Try.func17, Try.ntmps17
    go_wp2_with fail
    refine CG.out.mono ?_
    rintro e w1 ⟨rfl, hb1⟩
    have HB1 := kept hb1
    clear hb1 CG
    go_wp2_with fail
    go_loopw [6, 17] (fun s i wr => ∃ (k : Nat) (A : Option Addr) (ca : Nat) (ys : List CardM), k ≤ l.length ∧ i = .int .i64 (k : Int) ∧ s = .slice A ys.length ca ∧ ys.length = k ∧ Kept (ys.map CardM.p = (l.take k).map CardM.p ∧ CsOwn wr w.heap.size A ca ys ∧ Below w.heap.size w wr)) (fun _ i _ => l.length - (intOf i).toNat)
    case atStart => exact ⟨0, none, 0, [], Nat.zero_le _, rfl, rfl, rfl, ⟨rfl, CsOwn.nil _ _, HB1.out⟩⟩
    case round =>
      clear HB1
      obtain ⟨k, A, ca, ys, hk, rfl, rfl, hyk, hin⟩ := hrel
      have HYK := kept hyk
      clear hyk
      by_cases hlt : k < l.length
      · obtain ⟨⟨ycid, yX, yls, yc⟩, hy⟩ : ∃ y, l[k]? = some y := ⟨_, List.getElem?_eq_getElem hlt⟩
        obtain ⟨b1, o1, rfl, hbB, x0, x1, hyo⟩ := HR.out.at_ hy
        have hkn : (k : Int) < (l.length : Int) := by omega
        have x0 : wr.cell? ⟨b1, o1 + k * 2, none⟩ = some (.int .u64 (ycid : Int)) := (hin.out.2.2.cell (p := ⟨b1, o1 + k * 2, none⟩) hbB).trans x0
        have x1 : wr.cell? ⟨b1, o1 + k * 2 + 1, none⟩ = some (.slice yX yls.length yc) := (hin.out.2.2.cell (p := ⟨b1, o1 + k * 2 + 1, none⟩) hbB).trans x1
        have hbA : Below wr.heap.size wr (wr.alloc (.cells #[.int .u64 (ycid : Int), .slice yX yls.length yc] 38)) := (Below.refl _ _).alloc (Nat.le_refl _) _
        have hbw := hin.out.2.2.size
        have HB2 := kept (hin.out.2.2.trans (hbA.mono hbw))
        have HI2 := kept (hin.out.2.1.next hbA)
        have HYP := kept hin.out.1
        have CC := kept (copy_any ⟨ycid, yX, yls, yc⟩ (wr.alloc (.cells #[.int .u64 (ycid : Int), .slice yX yls.length yc] 38)) ((hyo.below HB2.out).more HB2.out.size))
        have HT : Kept ((l.take (k + 1)).map CardM.p = (l.take k).map CardM.p ++ [CardM.p ⟨ycid, yX, yls, yc⟩]) := ⟨by
          obtain ⟨e1, e2⟩ := List.getElem?_eq_some_iff.1 hy
          rw [List.take_succ_eq_append_getElem e1, e2, List.map_append]; rfl⟩
        clear hin hbA hyo hy
        unfold CardM.val at CC
        dsimp only at CC
        go_wp2_with fail
        refine CC.out.mono ?_
        rintro e w2 ⟨⟨zcid, zX, zls, zc⟩, rfl, hzp, hzf, hb2⟩
        have HB3 := kept (HB2.out.trans (hb2.mono HB2.out.size))
        have hbA : Below w2.heap.size w2 (w2.alloc (.cells #[.int .u64 (zcid : Int), .slice zX zls.length zc] 38)) := (Below.refl _ _).alloc (Nat.le_refl _) _
        have HI4 := kept ((HI2.out.next hb2).next hbA)
        have HB4 := kept (HB3.out.trans (hbA.mono HB3.out.size))
        have HZF := kept (CardM.Fresh.below (hzf.mono HB2.out.size) hbA (Nat.le_refl _))
        have HZP := kept hzp
        clear hb2 hbA hzf hzp CC HB2 HI2 x0 x1 HB3
        have hrn : cardE.Rd (w2.alloc (.cells #[.int .u64 (zcid : Int), .slice zX zls.length zc] 38)) (w2.heap.size + 1) (some ⟨w2.heap.size, 0, none⟩) [⟨zcid, zX, zls, zc⟩] := Rd.new w2 [.int .u64 (zcid : Int), .slice zX zls.length zc] 38
        have hz : (ys.length + [(⟨zcid, zX, zls, zc⟩ : CardM)].length) * 32 ≤ 140737488355328 := by have := HYK.out; simp; omega
        have hbase := HB4.out.size
        have hoB := HI4.out.1
        unfold CardM.val
        dsimp only
        go_wp2_with (at_builtin; refine wpl_appEU _ cardE rfl (.tmp 21) (.tmp 24) 22 rfl w.heap.size 38 Try.underlying22 card_info rfl _ ys rfl hoB _ _ _ _ [⟨zcid, zX, zls, zc⟩] rfl rfl hrn hz (by decide) hbase ?_; intro A9 c9 w9 r9 hr9 hown9 hu9 hx9)
        have HI9 := kept (HI4.out.app HZF.out hr9.out hown9 hu9)
        have HB9 := kept (HB4.out.trans (HI4.out.under (hu9 _ fun _ e => e) hbase))
        have HP9 : Kept (r9.map CardM.p = (l.take (k + 1)).map CardM.p) := ⟨by rw [hr9.out, List.map_append, HYP.out, HT.out, ← HZP.out]; rfl⟩
        have HL9 : Kept (r9.length = k + 1) := ⟨by have := HYK.out; rw [hr9.out, List.length_append, List.length_singleton]; omega⟩
        clear hr9 hown9 hu9 hx9 hrn hz hbase hoB HI4 HB4 HYP HT
        go_wp2_with fail
        go_roundw
        case rel => exact ⟨k + 1, A9, c9, r9, by omega, by go_num, rfl, HL9.out, ⟨HP9.out, HI9.out, HB9.out⟩⟩
        case measure => simp [intOf]; omega
      · obtain rfl : k = l.length := by omega
        have HLS := kept (HST.out ys (by rw [hin.out.1, List.take_length]))
        have HI := kept hin.out.2
        clear hin HST
        go_wp2_with fail
        go_loopw [6, 29] (fun s i wr => ∃ (j : Nat) (A : Option Addr) (ca : Nat) (ys : List CardM), j ≤ cs.length ∧ i = .int .i64 (j : Int) ∧ s = .slice A ys.length ca ∧ Kept (Left l cs j ys ∧ CsOwn wr w.heap.size A ca ys ∧ Below w.heap.size w wr)) (fun _ i _ => cs.length - (intOf i).toNat)
        case atStart => exact ⟨0, A, ca, ys, Nat.zero_le _, rfl, rfl, ⟨HLS.out, HI.out⟩⟩
        case round =>
          clear HI HLS HYK hk
          obtain ⟨j, A, ca, ys, hj, rfl, rfl, hin⟩ := hrel
          by_cases hlj : j < cs.length
          · obtain ⟨⟨xk, ⟨xcid, xX, xls, xc⟩, ⟨xf, xt, xA, xm, xmc⟩⟩, hxj⟩ : ∃ x, cs[j]? = some x := ⟨_, List.getElem?_eq_getElem hlj⟩
            obtain ⟨b1, o1, rfl, hbB, x0, x1, x2, x3, x4, x5⟩ := ch_cells HC.out hxj
            have hxo := HC.out.2 _ (List.mem_of_getElem? hxj)
            have hxb := HBX.out _ (List.mem_of_getElem? hxj)
            have hjn : (j : Int) < (cs.length : Int) := by omega
            have hB := hin.out.2.2
            have x0 := (hB.cell (p := ⟨b1, o1 + j * 6, none⟩) hbB).trans x0
            have x1 := (hB.cell (p := ⟨b1, o1 + j * 6 + 1, none⟩) hbB).trans x1
            have x2 := (hB.cell (p := ⟨b1, o1 + j * 6 + 2, none⟩) hbB).trans x2
            have x3 := (hB.cell (p := ⟨b1, o1 + j * 6 + 3, none⟩) hbB).trans x3
            have x4 := (hB.cell (p := ⟨b1, o1 + j * 6 + 4, none⟩) hbB).trans x4
            have x5 := (hB.cell (p := ⟨b1, o1 + j * 6 + 5, none⟩) hbB).trans x5
            have hbA : Below wr.heap.size wr (wr.alloc (.cells #[.int .u8 (xk : Int), .int .u64 (xcid : Int), .slice xX xls.length xc, .int .u8 (xf : Int), .string xt, .slice xA xm.length xmc] 79)) := (Below.refl _ _).alloc (Nat.le_refl _) _
            have HB2 := kept (hB.trans (hbA.mono hB.size))
            have CO := kept (one_any w.heap.size A ca ys ⟨xk, ⟨xcid, xX, xls, xc⟩, ⟨xf, xt, xA, xm, xmc⟩⟩ (wr.alloc (.cells #[.int .u8 (xk : Int), .int .u64 (xcid : Int), .slice xX xls.length xc, .int .u8 (xf : Int), .string xt, .slice xA xm.length xmc] 79)) (hin.out.2.1.next hbA) (hxo.below HB2.out) HB2.out.size hin.out.1.1 (hin.out.1.2.1.mono (by omega)))
            have HLE := kept hin.out.1
            have HXB := kept hxb
            have HXJ := kept hxj
            clear hin hbA hB hxo hxb hxj
            unfold ChM.val at CO
            dsimp only at CO x0 x1 x2 x3 x4 x5
            generalize hone : oneM ys ⟨xk, ⟨xcid, xX, xls, xc⟩, ⟨xf, xt, xA, xm, xmc⟩⟩ = o at *
            have HON := kept hone
            clear hone
            obtain ⟨ol, oe⟩ := o
            go_wp2_with fail
            refine CO.out.mono ?_
            rintro e w2 ⟨A2, c2, zs, rfl, hzs, hzp, hb2⟩
            dsimp only at hzp
            have HB3 := kept (HB2.out.trans hb2)
            have HZS := kept hzs
            have HZP := kept hzp
            clear hb2 hzs hzp CO HB2 x0 x1 x2 x3 x4 x5
            by_cases h0 : oe = 0
            · subst h0
              have HLN := kept (left_step HLE.out HXJ.out HXB.out (by rw [HON.out]) (zs := zs) (by rw [HON.out]; exact HZP.out))
              clear HLE HZP
              go_wp2_with fail
              go_roundw
              case rel => exact ⟨j + 1, A2, c2, zs, by omega, by go_num, rfl, ⟨HLN.out, HZS.out, HB3.out⟩⟩
              case measure => simp [intOf]; omega
            · have HER := kept (left_err HLE.out HXJ.out (by rw [HON.out]; exact h0))
              have hne : ¬ (oe : Int) = 0 := by omega
              clear HLE HZP
              go_wp2_with fail
              first | go_ret | go_ret2
              rw [HO.out]
              have e2 := HER.out.2
              rw [HON.out] at e2
              exact ⟨none, 0, [], by rw [e2]; rfl, CsOwn.nil _ _, by rw [HER.out.1], HB3.out⟩
          · obtain rfl : j = cs.length := by omega
            have HD := kept (left_done hin.out.1)
            have HI := kept hin.out.2
            clear hin
            go_wp2_with fail
            first | go_ret | go_ret2
            rw [HO.out]
            exact ⟨A, ca, ys, by rw [HD.out.1]; rfl, HI.out.1, HD.out.2, HI.out.2⟩
end Go.Proofs.Ytnmcclkpgbdenaa.Chg
