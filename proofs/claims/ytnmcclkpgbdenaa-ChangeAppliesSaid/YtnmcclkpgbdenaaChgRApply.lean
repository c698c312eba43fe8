/- Layer 50 (change): the document's Apply. -/
import Derived.Test.YtnmcclkpgbdenaaChgROneL
import Derived.Test.YtnmcclkpgbdenaaChgApply
namespace Go.Proofs.Ytnmcclkpgbdenaa.Chg
open Go.RowKit Go.Proofs.Ytnmcclkpgbdenaa.Mem Go.Proofs.Ytnmcclkpgbdenaa.Card

theorem rone_any (A : Option Addr) (c : Nat) (l : List CardM) (x : ChM) (w : World) (hl : RdCards w w.heap.size A l) (hx : x.Ok w w.heap.size) (hc : l.length ≤ c) (hbd : BdC 40 l) (hbx : BdX x) :
    Calls Try.prog 45 #[.slice A l.length c, x.val] w (GivesRO w (oneM l x)) := by
  by_cases h : x.k < 1 ∨ 4 < x.k
  · exact rone_bad A c l x w hl hx hc hbd hbx h
  · rcases (show x.k = 1 ∨ x.k = 2 ∨ x.k = 3 ∨ x.k = 4 by omega) with h | h | h | h
    · exact rone_new A c l x w hl hx hc hbd hbx h
    · exact rone_gone A c l x w hl hx hc hbd hbx h
    · exact rone_set A c l x w hl hx hc hbd hbx h
    · exact rone_drop A c l x w hl hx hc hbd hbx h
/-- a list, and an error's number -/
def GivesRA (w : World) (r : List CardM × Nat) (en : Ending) (w' : World) : Prop :=
  ∃ A c l, en = .returned (.tuple #[.slice A (List.length l) c, .int .i64 (r.2 : Int)]) ∧ l.length ≤ c ∧ RdCards w' w'.heap.size A l ∧ l.map CardM.p = r.1.map CardM.p ∧ Below w.heap.size w w'
theorem rdCards_nil (w : World) (B : Nat) : RdCards w B none [] := ⟨Rd.nil, fun y hy => by cases hy⟩
set_option maxRecDepth 100000 in
set_option maxHeartbeats 4000000 in
theorem rapply_any (X Y : Option Addr) (l : List CardM) (cs : List ChM) (c cc : Nat) (w : World) (hr : RdCards w w.heap.size X l) (hcl : l.length ≤ c) (hc : RdChs w w.heap.size Y cs) (hb : BdC 0 l) (hn : cs.length ≤ 30) (hx : ∀ x ∈ cs, BdX x) :
    Calls Try.prog 16 #[.slice X l.length c, .slice Y cs.length cc] w (GivesRA w (applyM l cs)) := by
  have hll : l.length ≤ 25 := hb.1
  have CG := kept (rgoodl_any X l c w hr (by omega) (fun y hy => (hb.2 y hy).texts))
  have HR := kept hr
  have HC := kept hc
  have HCL := kept hcl
  have HBD := kept hb
  have HBX := kept hx
  clear hr hc hb hx hcl
  cases hg : goodL l with
  | false =>
    have HO : Kept (applyM l cs = ([], 1)) := ⟨by unfold applyM; rw [hg]; rfl⟩
    rw [hg] at CG
    clear hg
    go_enter Try.func16, Try.ntmps16
    go_wp2_with fail
    refine CG.out.mono ?_
    rintro e w1 ⟨rfl, hb1⟩
    go_wp2_with fail
    first | go_ret | go_ret2
    rw [HO.out]
    exact ⟨none, 0, [], rfl, Nat.le_refl _, rdCards_nil _ _, rfl, hb1⟩
  | true =>
    have HO : Kept (applyM l cs = allM l cs) := ⟨by unfold applyM; rw [hg]; rfl⟩
    have HST : Kept (Left l cs 0 l) := ⟨left_start hg HBD.out rfl⟩
    rw [hg] at CG
    clear hg
    go_enter Try.func16, Try.ntmps16
    go_wp2_with fail
    refine CG.out.mono ?_
    rintro e w1 ⟨rfl, hb1⟩
    have HB1 := kept hb1
    have HR1 := kept (HR.out.next hb1)
    clear hb1 CG
    go_wp2_with fail
    go_loopw [0, 6] (fun s i wr => ∃ (j : Nat) (A : Option Addr) (ca : Nat) (ys : List CardM), j ≤ cs.length ∧ i = .int .i64 (j : Int) ∧ s = .slice A ys.length ca ∧ Kept (Left l cs j ys ∧ RdCards wr wr.heap.size A ys ∧ ys.length ≤ ca ∧ Below w.heap.size w wr)) (fun _ i _ => cs.length - (intOf i).toNat)
    case atStart => exact ⟨0, X, c, l, Nat.zero_le _, rfl, rfl, ⟨HST.out, HR1.out, HCL.out, HB1.out⟩⟩
    case round =>
      clear HB1 HR1 HST
      obtain ⟨j, A, ca, ys, hj, rfl, rfl, hin⟩ := hrel
      by_cases hlj : j < cs.length
      · obtain ⟨⟨xk, ⟨xcid, xX, xls, xc⟩, ⟨xf, xt, xA, xm, xmc⟩⟩, hxj⟩ : ∃ x, cs[j]? = some x := ⟨_, List.getElem?_eq_getElem hlj⟩
        obtain ⟨b1, o1, rfl, hbB, x0, x1, x2, x3, x4, x5⟩ := ch_cells HC.out hxj
        have hxo := HC.out.2 _ (List.mem_of_getElem? hxj)
        have hxb := HBX.out _ (List.mem_of_getElem? hxj)
        have hjn : (j : Int) < (cs.length : Int) := by omega
        have hB := hin.out.2.2.2
        have x0 := (hB.cell (p := ⟨b1, o1 + j * 6, none⟩) hbB).trans x0
        have x1 := (hB.cell (p := ⟨b1, o1 + j * 6 + 1, none⟩) hbB).trans x1
        have x2 := (hB.cell (p := ⟨b1, o1 + j * 6 + 2, none⟩) hbB).trans x2
        have x3 := (hB.cell (p := ⟨b1, o1 + j * 6 + 3, none⟩) hbB).trans x3
        have x4 := (hB.cell (p := ⟨b1, o1 + j * 6 + 4, none⟩) hbB).trans x4
        have x5 := (hB.cell (p := ⟨b1, o1 + j * 6 + 5, none⟩) hbB).trans x5
        have HB2 := kept hB
        have CO := kept (rone_any A ca ys ⟨xk, ⟨xcid, xX, xls, xc⟩, ⟨xf, xt, xA, xm, xmc⟩⟩ wr hin.out.2.1 ((hxo.below hB).more hB.size) hin.out.2.2.1 (hin.out.1.2.1.mono (by omega)) hxb)
        have HLE := kept hin.out.1
        have HXB := kept hxb
        have HXJ := kept hxj
        clear hin hB hxo hxb hxj
        unfold ChM.val at CO
        dsimp only at CO x0 x1 x2 x3 x4 x5
        generalize hone : oneM ys ⟨xk, ⟨xcid, xX, xls, xc⟩, ⟨xf, xt, xA, xm, xmc⟩⟩ = o at *
        have HON := kept hone
        clear hone
        obtain ⟨ol, oe⟩ := o
        go_wp2_with fail
        refine CO.out.mono ?_
        rintro e w2 ⟨A2, c2, zs, rfl, hzc, hzs, hzp, hb2⟩
        dsimp only at hzp
        have HB3 := kept (HB2.out.trans (hb2.mono HB2.out.size))
        have HZS := kept (And.intro hzs hzc)
        have HZP := kept hzp
        clear hb2 hzs hzp hzc CO HB2 x0 x1 x2 x3 x4 x5
        by_cases h0 : oe = 0
        · subst h0
          have HLN := kept (left_step HLE.out HXJ.out HXB.out (by rw [HON.out]) (zs := zs) (by rw [HON.out]; exact HZP.out rfl))
          clear HLE HZP
          go_wp2_with fail
          go_roundw
          case rel => exact ⟨j + 1, A2, c2, zs, by omega, by go_num, rfl, ⟨HLN.out, HZS.out.1, HZS.out.2, HB3.out⟩⟩
          case measure => simp [intOf]; omega
        · have HER := kept (left_err HLE.out HXJ.out (by rw [HON.out]; exact h0))
          have hne : ¬ (oe : Int) = 0 := by omega
          clear HLE HZP
          go_wp2_with fail
          first | go_ret | go_ret2
          rw [HO.out]
          have e2 := HER.out.2
          rw [HON.out] at e2
          exact ⟨none, 0, [], by rw [e2]; rfl, Nat.le_refl _, rdCards_nil _ _, by rw [HER.out.1], HB3.out⟩
      · obtain rfl : j = cs.length := by omega
        have HD := kept (left_done hin.out.1)
        have HI := kept hin.out.2
        clear hin
        go_wp2_with fail
        first | go_ret | go_ret2
        rw [HO.out]
        exact ⟨A, ca, ys, by rw [HD.out.1]; rfl, HI.out.2.1, HI.out.1, HD.out.2, HI.out.2.2⟩
end Go.Proofs.Ytnmcclkpgbdenaa.Chg
