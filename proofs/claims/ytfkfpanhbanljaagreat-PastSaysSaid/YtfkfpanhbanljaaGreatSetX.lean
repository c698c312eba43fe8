import Derived.Test.YtfkfpanhbanljaaGreatViewCard
import Derived.Deep.RegionHeld3
import Derived.Test.YtfkfpanhbanljaaGreatSetW
import Derived.BigQuiet
import Derived.Deep.QuietTactic
/- Layer 19 (view): what edits wrote, and which contacts there are: the document's. -/
namespace Go.Proofs.YtfkfpanhbanljaaGreat.View
open Go.RowKit Go.Proofs.YtfkfpanhbanljaaGreat.Mem Go.Proofs.YtfkfpanhbanljaaGreat.Card Go.Proofs.YtfkfpanhbanljaaGreat.Past Go.Proofs.YtfkfpanhbanljaaGreat.Reg

set_option maxRecDepth 100000 in
set_option maxHeartbeats 4000000 in
theorem rvals_any (A : Option Addr) (es : List EvM) (c cid f : Nat) (w : World) (hr : evE.Rd w w.heap.size A es) (hn : es.length ≤ 25) :
    Calls Tryz.prog 58 #[.slice A es.length c, .int .u64 (cid : Int), .int .u8 (f : Int)] w fun e w' => ∃ (A' : Option Addr) (c' : Nat), e = .returned (.slice A' (valsV es cid f).length c') ∧ valE.Own w' w.heap.size 99 (.slice A' (valsV es cid f).length c') (valsV es cid f) ∧ Below w.heap.size w w' := by
  have HR := kept hr
  have H0 : Kept (valE.Own w w.heap.size 99 (.slice none 0 0) [] ∧ Below w.heap.size w w) := ⟨Elem.Own.nilv _ _ _ _, Below.refl _ _⟩
  clear hr
  go_enter Tryz.func58, Tryz.ntmps58
  go_wp2_with fail
  go_loopw [7, 8] (fun v i wr => ∃ (k : Nat) (D : Option Addr) (cc : Nat) (r : List ValM), k ≤ es.length ∧ i = .int .i64 (k : Int) ∧ v = .slice D r.length cc ∧ Kept (r = valsV (es.take k) cid f) ∧ Kept (valE.Own wr w.heap.size 99 (.slice D r.length cc) r ∧ Below w.heap.size w wr)) (fun _ i _ => es.length - (intOf i).toNat)
  case atStart => exact ⟨0, none, 0, [], Nat.zero_le _, rfl, rfl, ⟨rfl⟩, H0⟩
  case round =>
    clear H0
    obtain ⟨k, D, cc, r, hk, rfl, rfl, HRE, HO⟩ := hrel
    rename World => wr
    by_cases hlt : k < es.length
    · obtain ⟨⟨dev, ne, kind, ecid, field, text, kA, kn, kc⟩, he⟩ : ∃ e, es[k]? = some e := ⟨_, List.getElem?_eq_getElem hlt⟩
      obtain ⟨b1, o1, rfl, hbB, hcs⟩ := (HR.out.next HO.out.2).at_ he
      have c0 : wr.cell? ⟨b1, o1 + k * 7, none⟩ = some (.int .u16 (dev : Int)) := hcs 0 _ rfl
      have c1 : wr.cell? ⟨b1, o1 + k * 7 + 1, none⟩ = some (.int .u64 (ne : Int)) := hcs 1 _ rfl
      have c2 : wr.cell? ⟨b1, o1 + k * 7 + 2, none⟩ = some (.int .u8 (kind : Int)) := hcs 2 _ rfl
      have c3 : wr.cell? ⟨b1, o1 + k * 7 + 3, none⟩ = some (.int .u64 (ecid : Int)) := hcs 3 _ rfl
      have c4 : wr.cell? ⟨b1, o1 + k * 7 + 4, none⟩ = some (.int .u8 (field : Int)) := hcs 4 _ rfl
      have c5 : wr.cell? ⟨b1, o1 + k * 7 + 5, none⟩ = some (.string text) := hcs 5 _ rfl
      have hkn : (k : Int) < (es.length : Int) := by omega
      have HNX := kept (vals_next he cid f)
      rw [← HRE.out] at HNX
      have hrl : r.length ≤ 25 := by
        rw [HRE.out]
        have h1 := vals_length (es.take k) cid f
        rw [List.length_take] at h1
        omega
      clear he hcs
      by_cases hkd : kind = 1
      · subst hkd
        by_cases hcd : ecid = cid
        · subst hcd
          by_cases hfd : field = f
          · subst hfd
            have HE9 : Kept (r ++ [(⟨dev, ne, text⟩ : ValM)] = valsV (es.take (k + 1)) ecid field) := ⟨by
              have : isV ecid field ⟨dev, ne, 1, ecid, field, text, kA, kn, kc⟩ = true := by simp [isV]
              rw [HNX.out, this, if_pos rfl]; rfl⟩
            have hbA : Below wr.heap.size wr (wr.alloc (.cells #[.int .u16 (dev : Int), .int .u64 (ne : Int), .string text] 99)) := (Below.refl _ _).alloc (Nat.le_refl _) _
            have HO3 := kept (HO.out.1.next hbA.drew)
            have HB3 := kept (bnx HO.out.2 hbA.drew)
            have HRN := kept (show valE.Rd (wr.alloc (.cells #[.int .u16 (dev : Int), .int .u64 (ne : Int), .string text] 99)).drew (wr.heap.size + 1) (some ⟨wr.heap.size, 0, none⟩) [⟨dev, ne, text⟩] from Mem.Rd.new wr [.int .u16 (dev : Int), .int .u64 (ne : Int), .string text] 99)
            have HZ : Kept ((r.length + [(⟨dev, ne, text⟩ : ValM)].length) * 32 ≤ 140737488355328) := ⟨by rw [List.length_singleton]; omega⟩
            have HBS := kept HB3.out.size
            have hrf : Below wr.heap.size wr wr := Below.refl _ _
            have b0 := (hbA.cell (p := ⟨b1, o1 + k * 7, none⟩) hbB).trans c0
            have b1' := (hbA.cell (p := ⟨b1, o1 + k * 7 + 1, none⟩) hbB).trans c1
            have b5 := (hbA.cell (p := ⟨b1, o1 + k * 7 + 5, none⟩) hbB).trans c5
            go_upto_region 6 with fail
            clear HNX HRE HO hbA hrf
            go_region_law ((refine step_appEU _ valE (by rfl) (.tmp 39) (.tmp 51) 97 (by rfl) w.heap.size 99 Tryz.underlying97 val_infoV (by rfl) _ r (by rfl) HO3.out _ _ _ _ [⟨dev, ne, text⟩] (by rfl) rfl HRN.out HZ.out (by decide) HBS.out ?_; intro A9 c9 w9 r9 hr9 hown9 hu9 hx9))
            all_goals
              have HO9 : Kept (valE.Own w9 w.heap.size 99 (.slice A9 r9.length c9) r9 ∧ Below w.heap.size w w9) := ⟨hown9, HB3.out.trans ((hu9 _ fun _ e => e).below HBS.out fun q _ e => (OwnK.under HO3.out q e).1)⟩
              have HR9 : Kept (r9 = valsV (es.take (k + 1)) ecid field) := ⟨by rw [hr9.out, HE9.out]⟩
              clear hr9 hown9 hu9 hx9 HO3 HB3 HRN HZ HBS HE9 b0 b1' b5
              go_wp2_with fail
            all_goals go_roundw
            all_goals first | exact ⟨k + 1, A9, c9, r9, by omega, by go_num, rfl, HR9, HO9⟩ | (simp [intOf]; omega)
          · have hfb : ((field : Int) == (f : Int)) = false := by simp; omega
            have HR9 : Kept (r = valsV (es.take (k + 1)) ecid f) := ⟨by
              have : isV ecid f ⟨dev, ne, 1, ecid, field, text, kA, kn, kc⟩ = false := by simp [isV, hfd]
              rw [HNX.out, this, if_neg Bool.false_ne_true, List.append_nil]⟩
            clear HNX HRE
            go_wp2_with fail
            go_roundw
            case rel => exact ⟨k + 1, D, cc, r, by omega, by go_num, rfl, HR9, HO⟩
            case measure => simp [intOf]; omega
        · have hcb : ((ecid : Int) == (cid : Int)) = false := by simp; omega
          have HR9 : Kept (r = valsV (es.take (k + 1)) cid f) := ⟨by
            have : isV cid f ⟨dev, ne, 1, ecid, field, text, kA, kn, kc⟩ = false := by simp [isV, hcd]
            rw [HNX.out, this, if_neg Bool.false_ne_true, List.append_nil]⟩
          clear HNX HRE
          go_wp2_with fail
          go_roundw
          case rel => exact ⟨k + 1, D, cc, r, by omega, by go_num, rfl, HR9, HO⟩
          case measure => simp [intOf]; omega
      · have hkb : ((kind : Int) == 1) = false := by simp; omega
        have HR9 : Kept (r = valsV (es.take (k + 1)) cid f) := ⟨by
          have : isV cid f ⟨dev, ne, kind, ecid, field, text, kA, kn, kc⟩ = false := by simp [isV, hkd]
          rw [HNX.out, this, if_neg Bool.false_ne_true, List.append_nil]⟩
        clear HNX HRE
        go_wp2_with fail
        go_roundw
        case rel => exact ⟨k + 1, D, cc, r, by omega, by go_num, rfl, HR9, HO⟩
        case measure => simp [intOf]; omega
    · obtain rfl : k = es.length := by omega
      rw [List.take_length] at HRE
      obtain rfl := HRE.out
      go_wp2_with fail
      go_ret
      exact ⟨D, cc, rfl, HO.out⟩
end Go.Proofs.YtfkfpanhbanljaaGreat.View

/- Layer 19 (view): the card of a contact, the document's. -/
namespace Go.Proofs.YtfkfpanhbanljaaGreat.View
open Go.RowKit Go.Proofs.YtfkfpanhbanljaaGreat.Mem Go.Proofs.YtfkfpanhbanljaaGreat.Card Go.Proofs.YtfkfpanhbanljaaGreat.Past Go.Proofs.YtfkfpanhbanljaaGreat.Reg

def fldTo (es : List EvM) (cid n : Nat) : List Nat := (List.range n).filter fun f => !(valsV es cid f).isEmpty
theorem fld_yes {es : List EvM} {cid n : Nat} (h : valsV es cid n ≠ []) : fldTo es cid (n + 1) = fldTo es cid n ++ [n] := by
  unfold fldTo
  rw [List.range_succ, List.filter_append, List.filter_cons, if_pos (by rw [Bool.not_eq_true', List.isEmpty_eq_false_iff]; exact h), List.filter_nil]
theorem fld_no {es : List EvM} {cid n : Nat} (h : valsV es cid n = []) : fldTo es cid (n + 1) = fldTo es cid n := by
  unfold fldTo
  rw [List.range_succ, List.filter_append, List.filter_cons, if_neg (by rw [h]; simp), List.filter_nil, List.append_nil]
theorem LS.app2 {wa wi w4 : World} {cid c c4 : Nat} {A A4 : Option Addr} {ms r4 : List LineM} {z : LineM} (h : LS wa wi cid A c ms) (hb : Below wi.heap.size wi w4) (hr : r4 = ms ++ [z])
    (hz : z.f < 256 ∧ z.m.length ≤ 8796093022208 ∧ strE.Own w4 (wa.heap.size + 1) 9 (.slice z.A z.m.length z.c) z.m)
    (ho : lineE.Own w4 (wa.heap.size + 1) 92 (.slice A4 r4.length c4) r4) : LS wa (w4.setCell ⟨wa.heap.size, 1, none⟩ (.slice A4 r4.length c4)) cid A4 c4 r4 := by
  have h4 := h.next hb
  refine ⟨h4.below.setCell (p := ⟨wa.heap.size, 1, none⟩) (Nat.le_refl _) _, h4.box.set 1 _, OwnK.low ho (p := ⟨wa.heap.size, 1, none⟩) (Nat.lt_succ_self _) _, fun y hy => ?_⟩
  have h2 : y.f < 256 ∧ y.m.length ≤ 8796093022208 ∧ strE.Own w4 (wa.heap.size + 1) 9 (.slice y.A y.m.length y.c) y.m := by
    rw [hr] at hy
    rcases List.mem_append.1 hy with h3 | h3
    · exact h4.more y h3
    · rw [List.mem_singleton.1 h3]; exact hz
  exact ⟨h2.1, h2.2.1, OwnK.low h2.2.2 (p := ⟨wa.heap.size, 1, none⟩) (Nat.lt_succ_self _) _⟩
set_option maxRecDepth 100000 in
set_option maxHeartbeats 8000000 in
theorem rcard_any (A : Option Addr) (es : List EvM) (c cid : Nat) (w : World) (hr : evE.Rd w w.heap.size A es) (hn : es.length ≤ 25) (hc : cid < 18446744073709551616) (hne : fldsV es cid ≠ []) :
    Calls Tryz.prog 48 #[.slice A es.length c, .int .u64 (cid : Int)] w (CardG w cid (linesV es cid)) := by
  have HR := kept hr
  have HNE := kept hne
  have HCI := kept hc
  have hb0 : Below w.heap.size w (w.alloc (.cells #[.int .u64 0, .slice none 0 0] 77)) := (Below.refl _ _).alloc (Nat.le_refl _) _
  have HBA := kept hb0
  have HRB := kept (Blk.new w [.int .u64 0, .slice none 0 0] 77)
  have HL0 := kept (LS.start (w.alloc (.cells #[.int .u64 0, .slice none 0 0] 77)) cid)
  clear hr hne hc hb0
  go_enter Tryz.func48, Tryz.ntmps48
  go_upto_region 1 with fail
  generalize w.alloc (.cells #[.int .u64 0, .slice none 0 0] 77) = wa at *
  go_upto_region 2 with fail
  generalize wa.alloc (.cells #[.int .u64 (cid : Int), .slice none 0 0] 77) = wi0 at *
  go_wp2_with fail
  go_loopw [7] (fun i wr => ∃ (f : Nat) (X : Option Addr) (cX : Nat) (ms : List LineM), f ≤ 256 ∧ i = .int .i64 (f : Int) ∧ Kept (ms.length ≤ f) ∧ Kept (ms.map LineM.p = (fldTo es cid f).map fun f => showM f (valsV es cid f)) ∧ Kept (LS wa wr cid X cX ms)) (fun i _ => 256 - (intOf i).toNat)
  case atStart => exact ⟨0, none, 0, [], Nat.zero_le _, rfl, ⟨Nat.le_refl _⟩, ⟨rfl⟩, HL0⟩
  case round =>
    clear HL0
    obtain ⟨f, X, cX, ms, hf, rfl, HML, HMP, HL⟩ := hrel
    rename World => wr
    by_cases hlt : f < 256
    · have hfi : (f : Int) < 256 := by omega
      have CV := kept (rvals_any A es c cid f wr (HR.out.next (HBA.out.trans (HL.out.below.mono HBA.out.size))) hn)
      have HVL : Kept ((valsV es cid f).length ≤ 25) := ⟨Nat.le_trans (vals_length es cid f) hn⟩
      go_wp2_with fail
      refine CV.out.mono ?_
      rintro e w1 ⟨A1, c1, rfl, hown1, hb1⟩
      have HL1 := kept (HL.out.next hb1)
      by_cases hv : valsV es cid f = []
      · have HF := kept (fld_no hv)
        have hv0 : (valsV es cid f).length = 0 := by rw [hv]; rfl
        have HMP1 : Kept (ms.map LineM.p = (fldTo es cid (f + 1)).map fun f => showM f (valsV es cid f)) := ⟨by rw [HF.out]; exact HMP.out⟩
        have HML1 : Kept (ms.length ≤ f + 1) := ⟨Nat.le_succ_of_le HML.out⟩
        clear hown1 hb1 CV HMP HF HL HML hv
        generalize (valsV es cid f).length = vl at *
        subst hv0
        go_wp2_with fail
        go_roundw
        case rel => exact ⟨f + 1, X, cX, ms, by omega, by go_num, HML1, HMP1, HL1⟩
        case measure => simp [intOf]; omega
      · have HF := kept (fld_yes hv)
        have hpos : 0 < (valsV es cid f).length := by
          rcases Nat.eq_zero_or_pos (valsV es cid f).length with h0 | h0
          · exact absurd (List.eq_nil_of_length_eq_zero h0) hv
          · exact h0
        have hposi : (0 : Int) < ((valsV es cid f).length : Int) := by omega
        have CS := kept (fun (W : World) (hb : Below w1.heap.size w1 W) => vrshow_any f A1 (valsV es cid f) c1 W hlt (hown1.rd.next hb) (by have := HVL.out; omega))
        have HMP1 : Kept (∀ r : List LineM, ∀ y : LineM, r = ms ++ [y] → y.p = showM f (valsV es cid f) → r.length ≤ f + 1 ∧ r.map LineM.p = (fldTo es cid (f + 1)).map fun f => showM f (valsV es cid f)) := ⟨fun r y e1 e2 => by
          subst e1
          refine ⟨by have := HML.out; rw [List.length_append, List.length_singleton]; omega, ?_⟩
          rw [HF.out, List.map_append, List.map_append, HMP.out, List.map_singleton, List.map_singleton, e2]⟩
        have O1 := kept (two_o1 lineE 92 w1)
        have hbE : Below w1.heap.size w1 (w1.alloc (.cells #[] 92)) := (Below.refl _ _).alloc (Nat.le_refl _) _
        have R1 : lineE.Rd (w1.alloc (.cells #[] 92)) (w1.alloc (.cells #[] 92)).heap.size X ms := (HL1.out.own.rd).next hbE
        have RR1 := kept R1
        have HBE := kept hbE
        have x0 := HL1.out.box.cell (j := 1) rfl
        have x1 := (HL1.out.next hbE).box.cell (j := 1) rfl
        have hz1 : (([] : List LineM).length + ms.length) * 48 ≤ 140737488355328 := by have := HML.out; simp only [List.length_nil]; omega
        have hzz : Kept (ms.length ≤ 256) := ⟨by have := HML.out; omega⟩
        have hbs1 : w1.heap.size ≤ (w1.alloc (.cells #[] 92)).heap.size := HBE.out.size
        clear hown1 CV HMP HF HML hv hbE R1 HL hb1
        generalize showM f (valsV es cid f) = sh at *
        generalize (valsV es cid f).length = vl at *
        go_wp2_with (at_builtin; refine wpl_appE _ lineE rfl (.tmp 23) (.tmp 25) 75 rfl w1.heap.size 92 Tryz.underlying75 line_infoV rfl _ [] rfl O1.out _ X _ cX ms rfl rfl RR1.out hz1 (by decide) hbs1 ?_; intro A2 c2 w2 r2 hr2 hown2 hb2)
        have HB2 := kept (HBE.out.trans hb2)
        have HO2 := kept hown2
        have HR2 : Kept (r2 = ms) := ⟨by rw [hr2.out, List.nil_append]⟩
        clear hr2 hown2 hb2 O1 RR1 HBE x1
        refine (CS.out _ HB2.out).mono ?_
        rintro e w3 ⟨⟨yf, yt, yA, ym, yc⟩, rfl, hyp, hy, hb3⟩
        obtain rfl := HR2.out
        have hbF : Below w3.heap.size w3 (w3.alloc (.cells #[.int .u8 (yf : Int), .string yt, .slice yA ym.length yc] 92)) := (Below.refl _ _).alloc (Nat.le_refl _) _
        have HO3 := kept ((HO2.out.next hb3).next hbF)
        have HB3 := kept ((HB2.out.trans (hb3.mono HB2.out.size)).trans (hbF.mono (Nat.le_trans HB2.out.size hb3.size)))
        have HY3 := kept (And.intro hy.1 (And.intro hy.2.1 (hy.2.2.next hbF)))
        have HYP := kept hyp
        have HW2 := kept HB2.out.size
        have hrn : lineE.Rd (w3.alloc (.cells #[.int .u8 (yf : Int), .string yt, .slice yA ym.length yc] 92)) (w3.heap.size + 1) (some ⟨w3.heap.size, 0, none⟩) [⟨yf, yt, yA, ym, yc⟩] := Mem.Rd.new w3 [.int .u8 (yf : Int), .string yt, .slice yA ym.length yc] 92
        have hz2 : (r2.length + [(⟨yf, yt, yA, ym, yc⟩ : LineM)].length) * 48 ≤ 140737488355328 := by have := hzz.out; rw [List.length_singleton]; omega
        have hbs3 := HB3.out.size
        clear hyp hy hb3 hbF CS HR2 HO2 HB2 x0
        try simp only [LineM.val]
        go_wp2_with (at_builtin; refine wpl_appEU _ lineE rfl (.tmp 26) (.tmp 31) 75 rfl w1.heap.size 92 Tryz.underlying75 line_infoV rfl _ r2 rfl HO3.out _ _ _ _ [⟨yf, yt, yA, ym, yc⟩] rfl rfl hrn hz2 (by decide) hbs3 ?_; intro A4 c4 w4 r4 hr4 hown4 hu4 hx4; have hb4 := (hu4 _ fun _ e => e).below hbs3 (fun k _ e => (OwnK.under HO3.out k e).1); have HB4 := kept (HB3.out.trans hb4); have HL4 := kept (HL1.out.next HB4.out); have x4 := HL4.out.box.cell (j := 1) rfl; have x5 := HL4.out.box.frozen 1)
        have hbz : wa.heap.size + 1 ≤ w1.heap.size := HL1.out.box.lt
        have hy4 : strE.Own w4 (wa.heap.size + 1) 9 (.slice yA ym.length yc) ym := (HY3.out.2.2.upd (hu4 _ fun _ e => e) fun k hk e => own_apart HY3.out.2.2 HO3.out (by decide) k hk e).mono (by have := HW2.out; omega)
        have HLN : Kept (LS wa (w4.setCell ⟨wa.heap.size, 1, none⟩ (.slice A4 r4.length c4)) cid A4 c4 r4) := ⟨HL1.out.app2 HB4.out hr4.out (z := ⟨yf, yt, yA, ym, yc⟩) ⟨HY3.out.1, HY3.out.2.1, hy4⟩ (hown4.mono hbz)⟩
        obtain ⟨hl9, hp9⟩ := HMP1.out r4 _ hr4.out HYP.out
        clear hr4 hown4 hb4 hu4 hx4 HB4 HL4 x4 x5 HY3 HYP HO3 HB3 HW2 HL1 HMP1 hy4
        go_roundw
        case rel => exact ⟨f + 1, A4, c4, r4, by omega, by go_num, ⟨hl9⟩, ⟨hp9⟩, HLN⟩
        case measure => simp [intOf]; omega
    · obtain rfl : f = 256 := by omega
      have HLE : Kept (ms.map LineM.p = linesV es cid) := HMP
      have hm0 : ms.length ≠ 0 := fun h0 => by
        have h1 := congrArg List.length HMP.out
        rw [List.length_map, List.length_map, h0] at h1
        exact HNE.out (List.eq_nil_of_length_eq_zero h1.symm)
      have hm1 : ((ms.length : Nat) : Int) ≠ 0 := by omega
      have hm2 : (((ms.length : Nat) : Int) == 0) = false := by simpa using hm0
      have hml := HML.out
      have HFR := kept (HL.out.fresh HCI.out (by omega))
      have HBX := kept HL.out.box
      have x0 := HL.out.box.cell (j := 1) rfl
      have hkb := HRB.out.next HL.out.below
      have HBW := kept (HBA.out.trans (HL.out.below.mono HBA.out.size))
      have HWZ := kept HRB.out.lt
      clear HL HMP HML HNE HBA HRB hml
      go_wp2_with (first | (refine wpl_loadB rfl _ _ rfl wa.heap.size rfl _ _ HBX.out _ rfl rfl rfl ?_) | (refine wpl_storeB rfl _ _ _ rfl w.heap.size [.int .u64 (cid : Int), .slice X ms.length cX] rfl rfl _ _ hkb rfl rfl rfl ?_; intro w7 hk7 hu7; have HK7 := kept hk7; have HU7 := kept hu7; clear hk7 hu7))
      refine bodyPost_ret (res_cell_tmp rfl _ w.heap.size _ [.int .u64 (cid : Int), .slice X ms.length cX] _ rfl HK7.out rfl rfl rfl) rfl ⟨X, cX, ms, rfl, HLE.out, ?_, HBW.out.trans (HU7.out.below HBW.out.size fun i _ e => by omega)⟩
      exact fresh_updV HFR.out HU7.out HWZ.out
end Go.Proofs.YtfkfpanhbanljaaGreat.View

/- Layer 19 (view): the contacts, all cards: the document's. -/
namespace Go.Proofs.YtfkfpanhbanljaaGreat.View
open Go.RowKit Go.Proofs.YtfkfpanhbanljaaGreat.Mem Go.Proofs.YtfkfpanhbanljaaGreat.Card Go.Proofs.YtfkfpanhbanljaaGreat.Past Go.Proofs.YtfkfpanhbanljaaGreat.Reg

theorem ftakeV (p : Nat → Bool) {l : List Nat} {k x : Nat} (h : l[k]? = some x) : (l.take (k + 1)).filter p = (l.take k).filter p ++ if p x then [x] else [] := by
  obtain ⟨h1, h2⟩ := List.getElem?_eq_some_iff.1 h
  rw [List.take_succ_eq_append_getElem h1, h2, List.filter_append, List.filter_cons, List.filter_nil]
set_option maxRecDepth 100000 in
set_option maxHeartbeats 8000000 in
theorem rcids_any (A : Option Addr) (es : List EvM) (c : Nat) (w : World) (hr : evE.Rd w w.heap.size A es) (hn : es.length ≤ 25) :
    Calls Tryz.prog 47 #[.slice A es.length c] w fun e w' => ∃ (A' : Option Addr) (c' : Nat), e = .returned (.slice A' (cidsV es).length c') ∧ Rd w' w'.heap.size A' (WB (cidsV es)) ∧ Below w.heap.size w w' := by
  have HR := kept hr
  have H0 : Kept (Rd w w.heap.size none (WB []) ∧ Below w.heap.size w w) := ⟨Rd.nil, Below.refl _ _⟩
  clear hr
  go_enter Tryz.func47, Tryz.ntmps47
  go_wp2_with fail
  go_loopw [3, 4] (fun v iv wr => ∃ (i : Nat) (D : Option Addr) (cc : Nat) (out : List Nat), i ≤ es.length ∧ iv = .int .i64 (i : Int) ∧ v = .slice D out.length cc ∧ Kept (out = cidsV (es.take i)) ∧ Kept (Rd wr wr.heap.size D (WB out) ∧ Below w.heap.size w wr)) (fun _ iv _ => es.length - (intOf iv).toNat)
  case atStart => exact ⟨0, none, 0, [], Nat.zero_le _, rfl, rfl, ⟨rfl⟩, H0⟩
  case round =>
    clear H0
    obtain ⟨i, D, cc, out, hi, rfl, rfl, HOE, HO⟩ := hrel
    rename World => wr
    by_cases hlt : i < es.length
    · obtain ⟨⟨dev, ne, kind, ecid, field, text, kA, kn, kc⟩, he⟩ : ∃ e, es[i]? = some e := ⟨_, List.getElem?_eq_getElem hlt⟩
      obtain ⟨b1, o1, rfl, hbB, hcs⟩ := (HR.out.next HO.out.2).at_ he
      have c2 : wr.cell? ⟨b1, o1 + i * 7 + 1 + 1, none⟩ = some (.int .u8 (kind : Int)) := hcs 2 _ rfl
      have c3 : wr.cell? ⟨b1, o1 + i * 7 + 3, none⟩ = some (.int .u64 (ecid : Int)) := hcs 3 _ rfl
      have c2' : wr.cell? ⟨b1, o1 + i * 7 + 2, none⟩ = some (.int .u8 (kind : Int)) := hcs 2 _ rfl
      have hin : (i : Int) < (es.length : Int) := by omega
      have HNX := kept (cids_next he)
      rw [← HOE.out] at HNX
      have hol : out.length ≤ 25 := by
        rw [HOE.out]
        have h1 := cids_length (es.take i)
        rw [List.length_take] at h1
        omega
      clear he hcs
      by_cases hkd : kind = 1
      · subst hkd
        have HPU : Kept (putU out ecid = cidsV (es.take (i + 1))) := ⟨by rw [HNX.out]; unfold cidStep; rw [if_pos rfl]⟩
        have HC3 := kept c3
        have HBb : Kept (b1 < wr.heap.size) := ⟨hbB⟩
        have H1 : Kept (Mem.Own wr wr.heap.size 33 (.slice none 0 0) (WB []) ∧ Below wr.heap.size wr wr) := ⟨Mem.Own.nilv _ _ _, Below.refl _ _⟩
        clear HNX HOE
        go_upto_region 6 with fail
        clear c2 c2' c3 hbB
        go_wp2_with fail
        go_loopw [5, 6] (fun v kv wq => ∃ (k : Nat) (A' : Option Addr) (c' : Nat) (nx : List Nat), k ≤ out.length ∧ kv = .int .i64 (k : Int) ∧ v = .slice A' nx.length c' ∧ Kept (nx = (out.take k).filter fun x => decide (x < ecid)) ∧ Kept (Mem.Own wq wr.heap.size 33 (.slice A' nx.length c') (WB nx) ∧ Below wr.heap.size wr wq)) (fun _ kv _ => out.length - (intOf kv).toNat)
        case atStart => exact ⟨0, none, 0, [], Nat.zero_le _, rfl, rfl, ⟨rfl⟩, H1⟩
        case round =>
          clear H1
          obtain ⟨k, A', c', nx, hk, rfl, rfl, HN, HQ⟩ := hrel
          rename World => wq
          by_cases hkl : k < out.length
          · obtain ⟨x, hx⟩ : ∃ x, out[k]? = some x := ⟨_, List.getElem?_eq_getElem hkl⟩
            obtain ⟨bb, oo, rfl, hbb, hcell⟩ := HO.out.1.at_ (k := k) (u := .int .u64 (x : Int)) (by simp [WB, hx])
            have y0 := (HQ.out.2.cell (p := ⟨bb, oo + k, none⟩) hbb).trans hcell
            have y1 := (HQ.out.2.cell (p := ⟨b1, o1 + i * 7 + 3, none⟩) HBb.out).trans HC3.out
            have hkn : (k : Int) < (out.length : Int) := by omega
            have hkn2 : decide (k < out.length) = true := decide_eq_true hkl
            have hin2 : decide (i < es.length) = true := decide_eq_true hlt
            have hnl : nx.length ≤ 25 := by
              rw [HN.out]
              have h1 := List.length_filter_le (fun x => decide (x < ecid)) (out.take k)
              rw [List.length_take] at h1
              omega
            have HFT := kept (ftakeV (fun x => decide (x < ecid)) hx)
            rw [← HN.out] at HFT
            clear hx hcell
            by_cases hxc : x < ecid
            · have hxi : (x : Int) < (ecid : Int) := by omega
              have hxd : decide ((x : Int) < (ecid : Int)) = true := decide_eq_true hxi
              have HN2 : Kept (nx ++ [x] = (out.take (k + 1)).filter fun x => decide (x < ecid)) := ⟨by rw [HFT.out, if_pos (decide_eq_true hxc)]⟩
              clear HFT HN
              go_wp2_with fail
              go_quiet (fail)
              have z0 : (wq.drewN nq).cell? ⟨bb, oo + k, none⟩ = some (.int .u64 (x : Int)) := y0
              have hbA : Below (wq.drewN nq).heap.size (wq.drewN nq) ((wq.drewN nq).alloc (.cells #[.int .u64 (x : Int)] 33)) := (Below.refl _ _).alloc (Nat.le_refl _) _
              have HQ1 : Kept (Mem.Own (wq.drewN nq) wr.heap.size 33 (.slice A' nx.length c') (WB nx) ∧ Below wr.heap.size wr (wq.drewN nq)) := ⟨HQ.out.1.next (below_draw _ wq nq), bnx HQ.out.2 (below_draw _ wq nq)⟩
              generalize wq.drewN nq = wz at *
              have HO3 := kept (HQ1.out.1.next hbA)
              have HB3 := kept (bnx HQ1.out.2 hbA)
              have hrn : Rd (wz.alloc (.cells #[.int .u64 (x : Int)] 33)) (wz.heap.size + 1) (some ⟨wz.heap.size, 0, none⟩) (WB [x]) := Mem.Rd.new wz [.int .u64 (x : Int)] 33
              have hz : nx.length + [x].length ≤ 17592186044416 := by rw [List.length_singleton]; omega
              have hbase := HB3.out.size
              clear hbA HQ HQ1 y0 y1
              go_wp2_with (at_builtin; refine wpl_appW rfl (.tmp 36) (.tmp 41) rfl wr.heap.size _ nx rfl HO3.out _ _ _ _ [x] rfl rfl hrn hz hbase ?_; intro A9 c9 w9 r9 hr9 hown9 hg9 hb9)
              have HR9 : Kept (r9 = (out.take (k + 1)).filter fun x => decide (x < ecid)) := ⟨by rw [← HN2.out]; exact hr9⟩
              have HO9 := kept (And.intro hown9 (HB3.out.trans hb9))
              clear hr9 hown9 hg9 hb9 HO3 HB3 HN2
              go_roundw
              case rel => exact ⟨k + 1, A9, c9, r9, by omega, by go_num, rfl, HR9, HO9⟩
              case measure => simp [intOf]; omega
            · have hxi : ¬ (x : Int) < (ecid : Int) := by omega
              have hxd : decide ((x : Int) < (ecid : Int)) = false := decide_eq_false hxi
              have HN2 : Kept (nx = (out.take (k + 1)).filter fun x => decide (x < ecid)) := ⟨by rw [HFT.out, if_neg (by rw [decide_eq_false hxc]; exact Bool.false_ne_true), List.append_nil]⟩
              clear HFT HN
              go_wp2_with fail
              go_quiet (fail)
              have HQ1 : Kept (Mem.Own (wq.drewN nq) wr.heap.size 33 (.slice A' nx.length c') (WB nx) ∧ Below wr.heap.size wr (wq.drewN nq)) := ⟨HQ.out.1.next (below_draw _ wq nq), bnx HQ.out.2 (below_draw _ wq nq)⟩
              go_wp2_with fail
              go_roundw
              case rel => exact ⟨k + 1, A', c', nx, by omega, by go_num, rfl, HN2, HQ1⟩
              case measure => simp [intOf]; omega
          · obtain rfl : k = out.length := by omega
            rw [List.take_length] at HN
            have hnl : nx.length ≤ 25 := by
              rw [HN.out]
              exact Nat.le_trans (List.length_filter_le _ _) hol
            have z3 := (HQ.out.2.cell (p := ⟨b1, o1 + i * 7 + 3, none⟩) HBb.out).trans HC3.out
            have hbA : Below wq.heap.size wq (wq.alloc (.cells #[.int .u64 (ecid : Int)] 33)) := (Below.refl _ _).alloc (Nat.le_refl _) _
            have HO3 := kept (HQ.out.1.next hbA)
            have HB3 := kept (bnx HQ.out.2 hbA)
            have hrn : Rd (wq.alloc (.cells #[.int .u64 (ecid : Int)] 33)) (wq.heap.size + 1) (some ⟨wq.heap.size, 0, none⟩) (WB [ecid]) := Mem.Rd.new wq [.int .u64 (ecid : Int)] 33
            have hz : nx.length + [ecid].length ≤ 17592186044416 := by rw [List.length_singleton]; omega
            have hbase := HB3.out.size
            clear hbA HQ
            go_wp2_with (at_builtin; refine wpl_appW rfl (.tmp 43) (.tmp 49) rfl wr.heap.size _ nx rfl HO3.out _ _ _ _ [ecid] rfl rfl hrn hz hbase ?_; intro A9 c9 w9 r9 hr9 hown9 hg9 hb9)
            have HL1 : Kept (out.filter (fun x => decide (x < ecid)) ++ [ecid] = r9) := ⟨by rw [← HN.out]; exact hr9.symm⟩
            have H2 : Kept (Mem.Own w9 wr.heap.size 33 (.slice A9 r9.length c9) (WB r9) ∧ Below wr.heap.size wr w9) := ⟨hown9, HB3.out.trans hb9⟩
            have hl9 : r9.length ≤ 26 := by rw [show r9 = nx ++ [ecid] from hr9, List.length_append, List.length_singleton]; omega
            have HS9 : Kept (r9 = r9 ++ (out.take 0).filter fun x => decide (ecid < x)) := ⟨by simp⟩
            clear hr9 hown9 hg9 hb9 HO3 HB3 HN z3
            go_loopw [5, 7] (fun v kv wq => ∃ (k : Nat) (A' : Option Addr) (c' : Nat) (nx : List Nat), k ≤ out.length ∧ kv = .int .i64 (k : Int) ∧ v = .slice A' nx.length c' ∧ Kept (nx = r9 ++ (out.take k).filter fun x => decide (ecid < x)) ∧ Kept (Mem.Own wq wr.heap.size 33 (.slice A' nx.length c') (WB nx) ∧ Below wr.heap.size wr wq)) (fun _ kv _ => out.length - (intOf kv).toNat)
            case atStart => exact ⟨0, A9, c9, r9, Nat.zero_le _, rfl, rfl, HS9, H2⟩
            case round =>
              clear H2 HS9
              obtain ⟨k, A', c', nx, hk, rfl, rfl, HN, HQ⟩ := hrel
              rename World => wq
              by_cases hkl : k < out.length
              · obtain ⟨x, hx⟩ : ∃ x, out[k]? = some x := ⟨_, List.getElem?_eq_getElem hkl⟩
                obtain ⟨bb, oo, rfl, hbb, hcell⟩ := HO.out.1.at_ (k := k) (u := .int .u64 (x : Int)) (by simp [WB, hx])
                have y0 := (HQ.out.2.cell (p := ⟨bb, oo + k, none⟩) hbb).trans hcell
                have y1 := (HQ.out.2.cell (p := ⟨b1, o1 + i * 7 + 3, none⟩) HBb.out).trans HC3.out
                have hkn : (k : Int) < (out.length : Int) := by omega
                have hkn2 : decide (k < out.length) = true := decide_eq_true hkl
                have hin2 : decide (i < es.length) = true := decide_eq_true hlt
                have hnl2 : nx.length ≤ 51 := by
                  rw [HN.out, List.length_append]
                  have h1 := List.length_filter_le (fun x => decide (ecid < x)) (out.take k)
                  rw [List.length_take] at h1
                  omega
                have HFT := kept (ftakeV (fun x => decide (ecid < x)) hx)
                clear hx hcell
                by_cases hxc : ecid < x
                · have hxi : (ecid : Int) < (x : Int) := by omega
                  have hxd : decide ((ecid : Int) < (x : Int)) = true := decide_eq_true hxi
                  have HN2 : Kept (nx ++ [x] = r9 ++ (out.take (k + 1)).filter fun x => decide (ecid < x)) := ⟨by rw [HFT.out, if_pos (decide_eq_true hxc), ← List.append_assoc, ← HN.out]⟩
                  clear HFT HN
                  go_wp2_with fail
                  go_quiet (fail)
                  have z0 : (wq.drewN nq).cell? ⟨bb, oo + k, none⟩ = some (.int .u64 (x : Int)) := y0
                  have hbA : Below (wq.drewN nq).heap.size (wq.drewN nq) ((wq.drewN nq).alloc (.cells #[.int .u64 (x : Int)] 33)) := (Below.refl _ _).alloc (Nat.le_refl _) _
                  have HQ1 : Kept (Mem.Own (wq.drewN nq) wr.heap.size 33 (.slice A' nx.length c') (WB nx) ∧ Below wr.heap.size wr (wq.drewN nq)) := ⟨HQ.out.1.next (below_draw _ wq nq), bnx HQ.out.2 (below_draw _ wq nq)⟩
                  generalize wq.drewN nq = wz at *
                  have HO3 := kept (HQ1.out.1.next hbA)
                  have HB3 := kept (bnx HQ1.out.2 hbA)
                  have hrn : Rd (wz.alloc (.cells #[.int .u64 (x : Int)] 33)) (wz.heap.size + 1) (some ⟨wz.heap.size, 0, none⟩) (WB [x]) := Mem.Rd.new wz [.int .u64 (x : Int)] 33
                  have hz : nx.length + [x].length ≤ 17592186044416 := by rw [List.length_singleton]; omega
                  have hbase := HB3.out.size
                  clear hbA HQ HQ1 y0 y1
                  go_wp2_with (at_builtin; refine wpl_appW rfl (.tmp 67) (.tmp 72) rfl wr.heap.size _ nx rfl HO3.out _ _ _ _ [x] rfl rfl hrn hz hbase ?_; intro A8 c8 w8 r8 hr8 hown8 hg8 hb8)
                  have HR8 : Kept (r8 = r9 ++ (out.take (k + 1)).filter fun x => decide (ecid < x)) := ⟨by rw [← HN2.out]; exact hr8⟩
                  have HO8 := kept (And.intro hown8 (HB3.out.trans hb8))
                  clear hr8 hown8 hg8 hb8 HO3 HB3 HN2
                  go_roundw
                  case rel => exact ⟨k + 1, A8, c8, r8, by omega, by go_num, rfl, HR8, HO8⟩
                  case measure => simp [intOf]; omega
                · have hxi : ¬ (ecid : Int) < (x : Int) := by omega
                  have hxd : decide ((ecid : Int) < (x : Int)) = false := decide_eq_false hxi
                  have HN2 : Kept (nx = r9 ++ (out.take (k + 1)).filter fun x => decide (ecid < x)) := ⟨by rw [HFT.out, if_neg (by rw [decide_eq_false hxc]; exact Bool.false_ne_true), List.append_nil]; exact HN.out⟩
                  clear HFT HN
                  go_wp2_with fail
                  go_quiet (fail)
                  have HQ1 : Kept (Mem.Own (wq.drewN nq) wr.heap.size 33 (.slice A' nx.length c') (WB nx) ∧ Below wr.heap.size wr (wq.drewN nq)) := ⟨HQ.out.1.next (below_draw _ wq nq), bnx HQ.out.2 (below_draw _ wq nq)⟩
                  go_wp2_with fail
                  go_roundw
                  case rel => exact ⟨k + 1, A', c', nx, by omega, by go_num, rfl, HN2, HQ1⟩
                  case measure => simp [intOf]; omega
              · obtain rfl : k = out.length := by omega
                rw [List.take_length] at HN
                have HE : Kept (nx = cidsV (es.take (i + 1))) := ⟨by
                  rw [← HPU.out, HN.out, ← HL1.out]
                  unfold putU
                  rw [List.append_assoc]
                  rfl⟩
                have HO9 : Kept (Rd wq wq.heap.size A' (WB nx) ∧ Below w.heap.size w wq) := ⟨HQ.out.1.rd, bnx HO.out.2 HQ.out.2⟩
                clear HN HQ HL1 HPU
                go_wp2_with fail
                go_roundw
                case rel => exact ⟨i + 1, A', c', nx, by omega, by go_num, rfl, HE, HO9⟩
                case measure => simp [intOf]; omega
      · have hkb : ((kind : Int) != 1) = true := by simp; omega
        have HE : Kept (out = cidsV (es.take (i + 1))) := ⟨by rw [HNX.out]; unfold cidStep; rw [if_neg hkd]⟩
        clear HNX HOE
        go_wp2_with fail
        go_roundw
        case rel => exact ⟨i + 1, D, cc, out, by omega, by go_num, rfl, HE, HO⟩
        case measure => simp [intOf]; omega
    · obtain rfl : i = es.length := by omega
      rw [List.take_length] at HOE
      obtain rfl := HOE.out
      go_wp2_with fail
      go_ret
      exact ⟨D, ⟨cc, rfl⟩, HO.out⟩
end Go.Proofs.YtfkfpanhbanljaaGreat.View

/- Layer 19 (view): all cards, the document's. -/
namespace Go.Proofs.YtfkfpanhbanljaaGreat.View
open Go.RowKit Go.Proofs.YtfkfpanhbanljaaGreat.Mem Go.Proofs.YtfkfpanhbanljaaGreat.Card Go.Proofs.YtfkfpanhbanljaaGreat.Past Go.Proofs.YtfkfpanhbanljaaGreat.Reg

set_option maxRecDepth 100000 in
set_option maxHeartbeats 8000000 in
theorem rvlist_any (A : Option Addr) (es : List EvM) (c : Nat) (w : World) (hr : evE.Rd w w.heap.size A es) (hn : es.length ≤ 25) (hev : ∀ e ∈ es, e.field < 256) (hec : ∀ e ∈ es, e.cid < 18446744073709551616) :
    Calls Tryz.prog 35 #[.slice A es.length c] w (GivesV w (viewV es)) := by
  have CD := kept (rcids_any A es c w hr hn)
  have HR := kept hr
  have CC : Kept (∀ (W : World) (cid : Nat), Below w.heap.size w W → cid ∈ idsV es → Calls Tryz.prog 48 #[.slice A es.length c, .int .u64 (cid : Int)] W (CardG W cid (linesV es cid))) := ⟨fun W cid hb hi => rcard_any A es c cid W (HR.out.next hb) hn (cid_lt hec hi) (cid_flds hev hi)⟩
  have hid : (cidsV es).length ≤ 25 := Nat.le_trans (cids_length es) hn
  have HIM : Kept (∀ x ∈ cidsV es, x ∈ idsV es) := ⟨fun x hx => cids_mem.1 hx⟩
  have HVE : Kept (viewV es = (cidsV es).map (cardV es)) := ⟨rfl⟩
  clear hr hev hec HR
  generalize cidsV es = ids at *
  go_enter Tryz.func35, Tryz.ntmps35
  go_wp2_with fail
  refine CD.out.mono ?_
  rintro e w3 ⟨D, cc, rfl, hrd, hb3⟩
  have H3 : Kept (True ∧ RowV w3 w3.heap.size none 0 [] ∧ Below w3.heap.size w3 w3) := ⟨trivial, RowV.nil _ _, Below.refl _ _⟩
  have HRD := kept hrd
  have HB3 := kept hb3
  clear hrd hb3 CD
  go_wp2_with fail
  go_loopw [3, 5] (fun s i wr => ∃ (j : Nat) (A' : Option Addr) (c' : Nat) (ys : List CardM), j ≤ ids.length ∧ i = .int .i64 (j : Int) ∧ s = .slice A' ys.length c' ∧ Kept (ys.length = j) ∧ Kept (ys.map CardM.p = (ids.take j).map (cardV es)) ∧ Kept (True ∧ RowV wr w3.heap.size A' c' ys ∧ Below w3.heap.size w3 wr)) (fun _ i _ => ids.length - (intOf i).toNat)
  case atStart => exact ⟨0, none, 0, [], Nat.zero_le _, rfl, rfl, ⟨rfl⟩, ⟨rfl⟩, H3⟩
  case round =>
    clear H3
    obtain ⟨j, A', c', ys, hj, rfl, rfl, HYL, HYP, HW⟩ := hrel
    rename World => wr
    by_cases hjl : j < ids.length
    · obtain ⟨id, hidj⟩ : ∃ x, ids[j]? = some x := ⟨_, List.getElem?_eq_getElem hjl⟩
      obtain ⟨bb, oo, rfl, hbb, hcell⟩ := (HRD.out.next HW.out.2.2).at_ (k := j) (u := .int .u64 (id : Int)) (by simp [WB, hidj])
      have hjn : (j : Int) < (ids.length : Int) := by omega
      have CK := kept (CC.out wr id (HB3.out.trans (HW.out.2.2.mono HB3.out.size)) (HIM.out id (List.mem_of_getElem? hidj)))
      have HTK : Kept ((ids.take (j + 1)).map (cardV es) = (ids.take j).map (cardV es) ++ [(id, linesV es id)]) := ⟨by
        obtain ⟨e1, e2⟩ := List.getElem?_eq_some_iff.1 hidj
        rw [List.take_succ_eq_append_getElem e1, e2, List.map_append]; rfl⟩
      clear hidj
      go_wp2_with fail
      refine CK.out.mono ?_
      rintro e w4 ⟨X, cX, ms, rfl, hms, hfr, hb4⟩
      have HW4 : Kept (True ∧ RowV w4 w3.heap.size A' c' ys ∧ Below w3.heap.size w3 w4) := ⟨trivial, HW.out.2.1.next hb4, bnx HW.out.2.2 hb4⟩
      have HMS := kept hms
      have HFR := kept (hfr.mono HW.out.2.2.size)
      clear hms hfr hb4 CK HW hcell
      have hbA : Below w4.heap.size w4 (w4.alloc (.cells #[.int .u64 (id : Int), .slice X ms.length cX] 77)) := (Below.refl _ _).alloc (Nat.le_refl _) _
      have HW5 : Kept (True ∧ RowV (w4.alloc (.cells #[.int .u64 (id : Int), .slice X ms.length cX] 77)) w3.heap.size A' c' ys ∧ Below w3.heap.size w3 (w4.alloc (.cells #[.int .u64 (id : Int), .slice X ms.length cX] 77))) := ⟨trivial, HW4.out.2.1.next hbA, bnx HW4.out.2.2 hbA⟩
      have HF5 := kept (HFR.out.below hbA (Nat.le_refl _))
      have HKB := kept (Blk.new w4 [.int .u64 (id : Int), .slice X ms.length cX] 77)
      clear hbA HW4 HFR
      go_upto_region 7 with fail
      generalize w4.alloc (.cells #[.int .u64 (id : Int), .slice X ms.length cX] 77) = w5 at *
      generalize w4.heap.size = gx at *
      have p0 := HKB.out.cell (j := 0) rfl
      have p1 := HKB.out.cell (j := 1) rfl
      have hbB : Below w5.heap.size w5 (w5.alloc (.cells #[.int .u64 (id : Int), .slice X ms.length cX] 77)) := (Below.refl _ _).alloc (Nat.le_refl _) _
      have HW6 : Kept (True ∧ RowV (w5.alloc (.cells #[.int .u64 (id : Int), .slice X ms.length cX] 77)) w3.heap.size A' c' ys ∧ Below w3.heap.size w3 (w5.alloc (.cells #[.int .u64 (id : Int), .slice X ms.length cX] 77))) := ⟨trivial, HW5.out.2.1.next hbB, bnx HW5.out.2.2 hbB⟩
      have HF6 := kept (HF5.out.below hbB (Nat.le_refl _))
      have hrn : cardE.Rd (w5.alloc (.cells #[.int .u64 (id : Int), .slice X ms.length cX] 77)) (w5.heap.size + 1) (some ⟨w5.heap.size, 0, none⟩) [⟨id, X, ms, cX⟩] := Mem.Rd.new w5 [.int .u64 (id : Int), .slice X ms.length cX] 77
      have hz : (ys.length + [(⟨id, X, ms, cX⟩ : CardM)].length) * 32 ≤ 140737488355328 := by have := HYL.out; rw [List.length_singleton]; omega
      have hbase := HW6.out.2.2.size
      have HPN : Kept (∀ r : List CardM, r = ys ++ [⟨id, X, ms, cX⟩] → r.length = j + 1 ∧ r.map CardM.p = (ids.take (j + 1)).map (cardV es)) := ⟨fun r h => by
        subst h
        refine ⟨by rw [List.length_append, HYL.out]; rfl, ?_⟩
        rw [List.map_append, HYP.out, HTK.out]
        show _ ++ [(id, ms.map LineM.p)] = _
        rw [HMS.out]⟩
      clear hbB HW5 HF5 HMS HTK HYP HYL
      go_wp2_with (at_builtin; refine wpl_appEU _ cardE rfl (.tmp 25) (.tmp 27) 55 rfl w3.heap.size 77 Tryz.underlying55 card_infoV rfl _ ys rfl HW6.out.2.1.1 _ _ _ _ [⟨id, X, ms, cX⟩] rfl rfl hrn hz (by decide) hbase ?_; intro A9 c9 w9 r9 hr9 hown9 hu9 hx9)
      obtain ⟨hl9, hp9⟩ := HPN.out r9 hr9.out
      have HW9 : Kept (True ∧ RowV w9 w3.heap.size A9 c9 r9 ∧ Below w3.heap.size w3 w9) := ⟨trivial, HW6.out.2.1.app HF6.out hr9.out hown9 hu9, HW6.out.2.2.trans (HW6.out.2.1.under (hu9 _ fun _ e => e) hbase)⟩
      clear hr9 hown9 hu9 hx9 HW6 HF6
      go_roundw
      case rel => exact ⟨j + 1, A9, c9, r9, by omega, by go_num, rfl, ⟨hl9⟩, ⟨hp9⟩, HW9⟩
      case measure => simp [intOf]; omega
    · obtain rfl : j = ids.length := by omega
      have HE : Kept (ys.map CardM.p = viewV es) := ⟨by rw [HYP.out, List.take_length, HVE.out]⟩
      have HRW : Kept (RowV wr w.heap.size A' c' ys) := ⟨HW.out.2.1.1.mono HB3.out.size, fun y hy => (HW.out.2.1.2 y hy).mono HB3.out.size⟩
      have HBW := kept (HB3.out.trans (HW.out.2.2.mono HB3.out.size))
      clear HW HYP HYL
      go_wp2_with fail
      go_ret
      exact ⟨A', c', ys, rfl, HE.out, HRW.out, HBW.out⟩
end Go.Proofs.YtfkfpanhbanljaaGreat.View
