/- Layer 50 (change): change.one where it sets or drops a line. (printed by tools/genoc.py) -/
import Derived.Test.YtnmcclkpgbdenaaChgOne
namespace Go.Proofs.Ytnmcclkpgbdenaa.Chg
open Go.RowKit Go.Proofs.Ytnmcclkpgbdenaa.Mem Go.Proofs.Ytnmcclkpgbdenaa.Card

set_option maxRecDepth 100000 in
set_option maxHeartbeats 4000000 in
theorem one_set (base : Nat) (A : Option Addr) (c : Nat) (l : List CardM) (x : ChM) (w : World) (hl : CsOwn w base A c l) (hx : x.Ok w base) (hbs : base ≤ w.heap.size) (hg : goodL l = true) (hbd : BdC 40 l) (hk : x.k = 3) :
    Calls Try.prog 46 #[.slice A l.length c, x.val] w (GivesO w base (oneM l x)) := by
  obtain ⟨xk, ⟨xcid, xX, xls, xc⟩, ⟨xf, xt, xA, xm, xmc⟩⟩ := x
  have HKK := kept hk
  clear hk
  have hs := good_sorted hg
  have hln : l.length ≤ 65 := hbd.1
  have HX := kept hx
  have HL0 := kept hl
  have HG := kept hg
  have HBD := kept hbd
  have CA := kept (fun (W : World) (hb : Below w.heap.size w W) => at_any A l c xcid W (hl.rd.next hb) hs (by omega))
  have hb0 : Below w.heap.size w (w.alloc (.cells #[.int .u8 (xk : Int), .int .u64 (xcid : Int), .slice xX xls.length xc, .int .u8 (xf : Int), .string xt, .slice xA xm.length xmc] 79)) := (Below.refl _ _).alloc (Nat.le_refl _) _
  have HK0 := kept (Blk.new w [.int .u8 (xk : Int), .int .u64 (xcid : Int), .slice xX xls.length xc, .int .u8 (xf : Int), .string xt, .slice xA xm.length xmc] 79)
  clear hx hl hg hbd
  unfold ChM.val
  dsimp only
  dsimp only at HKK
  go_enter Try.func46, Try.ntmps46
  go_wp2_with fail
  refine (CA.out _ hb0).mono ?_
  rintro e w1 ⟨⟨i, rfl, hpos⟩, hb1⟩
  have HL := kept (HL0.out.next (hb0.trans (hb1.mono hb0.size)))
  have HK := kept (HK0.out.next hb1)
  have hbb : Below w.heap.size w w1 := hb0.trans (hb1.mono hb0.size)
  have HB := kept (hbb.mono hbs)
  have HF := kept (find_pos hs hpos)
  have HPS := kept hpos
  have HS := kept hs
  have hbw : base ≤ w1.heap.size := Nat.le_trans hbs hbb.size
  have q0 := HK.out.cell (j := 0) rfl
  have q1 := HK.out.cell (j := 1) rfl
  have q2 := HK.out.cell (j := 2) rfl
  have q3 := HK.out.cell (j := 3) rfl
  clear hb1 hb0 hbb HK0 HL0 CA hpos hs
  obtain rfl := HKK.out
  clear HKK
  have q0 : w1.cell? ⟨w.heap.size, 0, none⟩ = some (.int .u8 3) := q0
  cases hat : isAt l xcid i with
  | false =>
    have hO : oneM l ⟨3, ⟨xcid, xX, xls, xc⟩, ⟨xf, xt, xA, xm, xmc⟩⟩ = ([], 6) := by
      have h1 := HF.out
      rw [hat] at h1
      simp [oneM, h1]
    have HO := kept hO
    clear hO HF
    go_wp2_with fail
    first | go_ret | go_ret2
    rw [HO.out]
    exact givesO_err HB.out
  | true =>
    obtain ⟨⟨ycid, yX, yls, yc⟩, hy, hyc⟩ : ∃ y, l[i]? = some y ∧ y.cid = xcid := by
      unfold isAt at hat
      cases hi : l[i]? with
      | none => rw [hi] at hat; cases hat
      | some y => rw [hi] at hat; exact ⟨y, rfl, by simpa using hat⟩
    have hlt : i < l.length := (List.getElem?_eq_some_iff.1 hy).1
    have hii : (i : Int) < (l.length : Int) := by omega
    obtain ⟨r, rfl, hbr, hrw, u0, v0, -⟩ := HL.out.1.spot (i := i) (j := 0) hy rfl
    obtain ⟨r', hr', -, -, u1, v1, -⟩ := HL.out.1.spot (i := i) (j := 1) hy rfl
    obtain rfl : r = r' := congrArg Addr.block (Option.some.inj hr')
    clear hr'
    have u0 : w1.cell? ⟨r, i * 2, none⟩ = some (.int .u64 (ycid : Int)) := u0
    have u1 : w1.cell? ⟨r, i * 2 + 1, none⟩ = some (.slice yX yls.length yc) := u1
    have hyk : (⟨ycid, yX, yls, yc⟩ : CardM).Ok w1 w1.heap.size := HL.out.rd.2 _ (List.mem_of_getElem? hy)
    have hyg : cardGood ⟨ycid, yX, yls, yc⟩ = true := good_mem HG.out (List.mem_of_getElem? hy)
    have hyb := HBD.out.2 _ (List.mem_of_getElem? hy)
    have HYS := kept (lines_sorted hyg)
    have HYL : Kept (yls.length ≤ 52) := ⟨hyb.1⟩
    have HYK := kept hyk
    have HY := kept hy
    have HYC : Kept (ycid = xcid) := ⟨hyc⟩
    have HAT := kept hat
    have HS14 : Kept (∀ W, Below w1.heap.size w1 W → W.cell? ⟨r, i * 2, none⟩ = some (.int .u64 (ycid : Int)) ∧ W.cell? ⟨r, i * 2 + 1, none⟩ = some (.slice yX yls.length yc) ∧ W.cell? ⟨w.heap.size, 3, none⟩ = some (.int .u8 (xf : Int))) := ⟨fun W hb => ⟨(hb.cell (p := ⟨r, i * 2, none⟩) hrw).trans u0, (hb.cell (p := ⟨r, i * 2 + 1, none⟩) hrw).trans u1, (HK.out.next hb).cell (j := 3) rfl⟩⟩
    have CL := kept (fun (W : World) (hb : Below w1.heap.size w1 W) => line_any ⟨ycid, yX, yls, yc⟩ xf W (HYK.out.next hb))
    have HZB : Kept (∀ W, Below (w1.drew.alloc (.cells #[.int .u8 0, .string ⟨#[]⟩, .slice none 0 0] 41)).heap.size (w1.drew.alloc (.cells #[.int .u8 0, .string ⟨#[]⟩, .slice none 0 0] 41)) W → Blk W w1.heap.size [.int .u8 0, .string ⟨#[]⟩, .slice none 0 0] 41) := ⟨fun W hb => (Blk.new w1.drew [.int .u8 0, .string ⟨#[]⟩, .slice none 0 0] 41).next hb⟩
    have hrk : r < w1.heap.size := hrw
    have hO : oneM l ⟨3, ⟨xcid, xX, xls, xc⟩, ⟨xf, xt, xA, xm, xmc⟩⟩ = if 3 = 4 ∧ (lineOf xf yls).isSome = false then ([], 6) else if cardGood (withK ⟨ycid, yX, yls, yc⟩ ⟨xf, xt, xA, xm, xmc⟩ false) = true then (putM l (withK ⟨ycid, yX, yls, yc⟩ ⟨xf, xt, xA, xm, xmc⟩ false), 0) else ([], 4) := by
      have h1 := HF.out
      rw [hat] at h1
      simp [oneM, h1, hy]
    have HO := kept hO
    clear hO HF hyk hyg hyb hy hyc hat v0 v1
    generalize hlo : lineOf xf yls = lo at *
    clear hlo
    unfold CardM.val at CL
    dsimp only at CL
    go_upto_region 14 with fail
    go_cut [9] (fun p wr => p = .bool lo.isSome ∧ Kept (Below w1.heap.size w1 wr))
    case first =>
      have hd0 : Below w1.heap.size w1 w1 := Below.refl _ _
      go_region_held3 (fun W => W.cell? ⟨r, i * 2, none⟩ = some (.int .u64 (ycid : Int)) ∧ W.cell? ⟨r, i * 2 + 1, none⟩ = some (.slice yX yls.length yc) ∧ W.cell? ⟨w.heap.size, 3, none⟩ = some (.int .u8 (xf : Int))) (exact HS14.out _ (by (repeat (first | with_reducible assumption | with_reducible refine below_new ?_ _ | with_reducible refine Below.drew ?_ | with_reducible exact Below.refl _ _ | ((with_reducible refine below_set ?_ ?_ _); rotate_left; (first | exact Nat.le_refl _ | (dsimp only; omega))))))) (first
        | (go_at_call 73; ((with_reducible refine (CL.out _ (by (repeat (first | with_reducible assumption | with_reducible refine below_new ?_ _ | with_reducible refine Below.drew ?_ | with_reducible exact Below.refl _ _ | ((with_reducible refine below_set ?_ ?_ _); rotate_left; (first | exact Nat.le_refl _ | (dsimp only; omega))))))).mono ?_); rintro e w2 ⟨⟨gf, gt, gA, gm, gc⟩, rfl, hgp, hgf, hgm, hgo, hb2⟩; have hk2 : Below w1.heap.size w1 w2 := below_next (by (repeat (first | with_reducible assumption | with_reducible refine below_new ?_ _ | with_reducible refine Below.drew ?_ | with_reducible exact Below.refl _ _ | ((with_reducible refine below_set ?_ ?_ _); rotate_left; (first | exact Nat.le_refl _ | (dsimp only; omega)))))) hb2; have hs2 := hk2.size; (first | (have hz2 := HZB.out _ hb2; have z0 := hz2.cell (j := 0) rfl; have z1 := hz2.cell (j := 1) rfl; have z2 := hz2.cell (j := 2) rfl; have f0 := hz2.frozen 0; have f1 := hz2.frozen 1; have f2 := hz2.frozen 2; clear hz2) | skip); unfold LineM.val; dsimp only)))
      all_goals
        go_wp2_with fail
        go_meet
        exact ⟨rfl, ⟨(by (repeat (first | with_reducible assumption | with_reducible refine below_new ?_ _ | with_reducible refine Below.drew ?_ | with_reducible exact Below.refl _ _ | ((with_reducible refine below_set ?_ ?_ _); rotate_left; (first | exact Nat.le_refl _ | (dsimp only; omega))))))⟩⟩
    case rest =>
      obtain ⟨rfl, hcut⟩ := hcut
      obtain ⟨w4, rfl⟩ : ∃ w4 : World, w4 = wc := ⟨_, rfl⟩
      have hbb := hcut.out
      have HL4 := kept (HL.out.next hbb)
      have HK4 := kept (HK.out.next hbb)
      have HB4 := kept (HB.out.trans (hbb.mono hbw))
      have HYK4 := kept (HYK.out.next hbb)
      have hbw4 : base ≤ w4.heap.size := Nat.le_trans hbw hbb.size
      have hrw4 : r < w4.heap.size := Nat.lt_of_lt_of_le hrk hbb.size
      obtain ⟨u0, u1, n3⟩ := HS14.out w4 hbb
      have q0 : w4.cell? ⟨w.heap.size, 0, none⟩ = some (.int .u8 3) := HK4.out.cell (j := 0) rfl
      have n4 := HK4.out.cell (j := 4) rfl
      have n5 := HK4.out.cell (j := 5) rfl
      clear hcut hbb CL HZB HS14 HL HK HB HYK hrk hrw hbw q1 q2 q3
      have HO2 : Kept (oneM l ⟨3, ⟨xcid, xX, xls, xc⟩, ⟨xf, xt, xA, xm, xmc⟩⟩ = if cardGood (withK ⟨ycid, yX, yls, yc⟩ ⟨xf, xt, xA, xm, xmc⟩ false) = true then (putM l (withK ⟨ycid, yX, yls, yc⟩ ⟨xf, xt, xA, xm, xmc⟩ false), 0) else ([], 4)) := ⟨by rw [HO.out, if_neg (by simp)]⟩
      have HS17 : Kept (∀ W, Below w4.heap.size w4 W → W.cell? ⟨r, i * 2, none⟩ = some (.int .u64 (ycid : Int)) ∧ W.cell? ⟨r, i * 2 + 1, none⟩ = some (.slice yX yls.length yc) ∧ W.cell? ⟨w.heap.size, 3, none⟩ = some (.int .u8 (xf : Int)) ∧ W.cell? ⟨w.heap.size, 0, none⟩ = some (.int .u8 3) ∧ W.cell? ⟨w.heap.size, 4, none⟩ = some (.string xt) ∧ W.cell? ⟨w.heap.size, 5, none⟩ = some (.slice xA xm.length xmc)) := ⟨fun W hb => ⟨(hb.cell (p := ⟨r, i * 2, none⟩) hrw4).trans u0, (hb.cell (p := ⟨r, i * 2 + 1, none⟩) hrw4).trans u1, (HK4.out.next hb).cell (j := 3) rfl, (HK4.out.next hb).cell (j := 0) rfl, (HK4.out.next hb).cell (j := 4) rfl, (HK4.out.next hb).cell (j := 5) rfl⟩⟩
      have CW := kept (fun (W : World) (hb : Below w4.heap.size w4 W) => with_any ⟨ycid, yX, yls, yc⟩ ⟨xf, xt, xA, xm, xmc⟩ false W (HYK4.out.next hb) ((HX.out.2.2.keep fun _ hp => (HB4.out.trans (hb.mono hbw4)).cell hp).more (Nat.le_trans hbw4 hb.size)) HYS.out (by have := HYL.out; dsimp only; omega))
      have HZC : Kept (∀ W, Below (w4.drew.alloc (.cells #[.int .u64 0, .slice none 0 0] 38)).heap.size (w4.drew.alloc (.cells #[.int .u64 0, .slice none 0 0] 38)) W → Blk W w4.heap.size [.int .u64 0, .slice none 0 0] 38) := ⟨fun W hb => (Blk.new w4.drew [.int .u64 0, .slice none 0 0] 38).next hb⟩
      unfold CardM.val LineM.val at CW
      dsimp only at CW
      go_upto_region 17 with fail
      go_cut [10] (fun p wr => ∃ (g : Nat) (z : CardM), p = .pointer (some ⟨g, 0, none⟩) ∧ Kept (Blk wr g z.cells 38 ∧ z.p = (withK ⟨ycid, yX, yls, yc⟩ ⟨xf, xt, xA, xm, xmc⟩ false).p ∧ z.Fresh wr w4.heap.size ∧ Below w4.heap.size w4 wr))
      case first =>
        have hd0 : Below w4.heap.size w4 w4 := Below.refl _ _
        go_region_held3 (fun W => W.cell? ⟨r, i * 2, none⟩ = some (.int .u64 (ycid : Int)) ∧ W.cell? ⟨r, i * 2 + 1, none⟩ = some (.slice yX yls.length yc) ∧ W.cell? ⟨w.heap.size, 3, none⟩ = some (.int .u8 (xf : Int)) ∧ W.cell? ⟨w.heap.size, 0, none⟩ = some (.int .u8 3) ∧ W.cell? ⟨w.heap.size, 4, none⟩ = some (.string xt) ∧ W.cell? ⟨w.heap.size, 5, none⟩ = some (.slice xA xm.length xmc)) (exact HS17.out _ (by (repeat (first | with_reducible assumption | with_reducible refine below_new ?_ _ | with_reducible refine Below.drew ?_ | with_reducible exact Below.refl _ _ | ((with_reducible refine below_set ?_ ?_ _); rotate_left; (first | exact Nat.le_refl _ | (dsimp only; omega))))))) (first
          | (go_at_call 84; ((with_reducible refine (CW.out _ (by (repeat (first | with_reducible assumption | with_reducible refine below_new ?_ _ | with_reducible refine Below.drew ?_ | with_reducible exact Below.refl _ _ | ((with_reducible refine below_set ?_ ?_ _); rotate_left; (first | exact Nat.le_refl _ | (dsimp only; omega))))))).mono ?_); rintro e w5 ⟨⟨zcid, zX, zls, zc⟩, rfl, hzp, hzf, hb5⟩; have hk5 : Below w4.heap.size w4 w5 := below_next (by (repeat (first | with_reducible assumption | with_reducible refine below_new ?_ _ | with_reducible refine Below.drew ?_ | with_reducible exact Below.refl _ _ | ((with_reducible refine below_set ?_ ?_ _); rotate_left; (first | exact Nat.le_refl _ | (dsimp only; omega)))))) hb5; have hs5 := hk5.size; have hzf5 := CardM.Fresh.mono hzf (b' := w4.heap.size) (by first | exact Nat.le_refl _ | (simp; done) | (simp; omega)); (first | (have hz5 := HZC.out _ hb5; have z0 := hz5.cell (j := 0) rfl; have z1 := hz5.cell (j := 1) rfl; have f0 := hz5.frozen 0; have f1 := hz5.frozen 1) | skip); unfold CardM.val; dsimp only)))
        all_goals
          go_wp2_with fail
          go_meet
          first
            | exact ⟨_, ⟨zcid, zX, zls, zc⟩, rfl, ⟨Blk.set2 hz5, hzp, (hzf5.box hz5 0 _).box (hz5.set 0 _) 1 _, (by (repeat (first | with_reducible assumption | with_reducible refine below_new ?_ _ | with_reducible refine Below.drew ?_ | with_reducible exact Below.refl _ _ | ((with_reducible refine below_set ?_ ?_ _); rotate_left; (first | exact Nat.le_refl _ | (dsimp only; omega))))))⟩⟩
            | exact ⟨_, ⟨zcid, zX, zls, zc⟩, rfl, ⟨Blk.new w5 [.int .u64 (zcid : Int), .slice zX zls.length zc] _, hzp, hzf5.below ((Below.refl _ _).alloc (Nat.le_refl _) _) (Nat.le_refl _), (by (repeat (first | with_reducible assumption | with_reducible refine below_new ?_ _ | with_reducible refine Below.drew ?_ | with_reducible exact Below.refl _ _ | ((with_reducible refine below_set ?_ ?_ _); rotate_left; (first | exact Nat.le_refl _ | (dsimp only; omega))))))⟩⟩
      case rest =>
        obtain ⟨g, ⟨zcid, zX, zls, zc⟩, rfl, hcut⟩ := hcut
        obtain ⟨w6, rfl⟩ : ∃ w6 : World, w6 = wc := ⟨_, rfl⟩
        have hb6 := hcut.out.2.2.2
        have HL6 := kept (HL4.out.next hb6)
        have HB6 := kept (HB4.out.trans (hb6.mono hbw4))
        have HZK := kept hcut.out.1
        have HZP := kept hcut.out.2.1
        have HZF := kept (hcut.out.2.2.1.mono hbw4)
        have hbw6 : base ≤ w6.heap.size := Nat.le_trans hbw4 hb6.size
        clear hcut hb6 CW HZC HS17 HL4 HK4 HB4 HYK4 hrw4 hbw4 u0 u1 q0 n3 n4 n5
        have z0 := HZK.out.cell (j := 0) rfl
        have z1 := HZK.out.cell (j := 1) rfl
        have CG := kept (cgood_any ⟨zcid, zX, zls, zc⟩ w6 HZF.out.ok)
        have hgz := cardGood_p HZP.out
        unfold CardM.val at CG
        dsimp only at CG
        cases hgd : cardGood ⟨zcid, zX, zls, zc⟩ with
        | false =>
          rw [hgd] at CG hgz
          have HO3 : Kept (oneM l ⟨3, ⟨xcid, xX, xls, xc⟩, ⟨xf, xt, xA, xm, xmc⟩⟩ = ([], 4)) := ⟨by rw [HO2.out, ← hgz]; rfl⟩
          clear hgd hgz HO HO2
          go_wp2_with fail
          refine CG.out.mono ?_
          rintro e w7 ⟨rfl, hb7⟩
          go_wp2_with fail
          first | go_ret | go_ret2
          rw [HO3.out]
          exact givesO_err (HB6.out.trans (hb7.mono hbw6))
        | true =>
          rw [hgd] at CG hgz
          have HO3 : Kept (oneM l ⟨3, ⟨xcid, xX, xls, xc⟩, ⟨xf, xt, xA, xm, xmc⟩⟩ = (l.set i (withK ⟨ycid, yX, yls, yc⟩ ⟨xf, xt, xA, xm, xmc⟩ false), 0)) := ⟨by
            rw [HO2.out, ← hgz, if_pos rfl, put_old (i := i) HS.out (by rw [show (withK ⟨ycid, yX, yls, yc⟩ ⟨xf, xt, xA, xm, xmc⟩ false).cid = xcid from HYC.out]; exact HPS.out) (by rw [show (withK ⟨ycid, yX, yls, yc⟩ ⟨xf, xt, xA, xm, xmc⟩ false).cid = xcid from HYC.out]; exact HAT.out)]⟩
          clear hgd hgz HO HO2
          go_wp2_with fail
          refine CG.out.mono ?_
          rintro e w7 ⟨rfl, hb7⟩
          have HL7 := kept (HL6.out.next hb7)
          have HB7 := kept (HB6.out.trans (hb7.mono hbw6))
          have HZF7 := kept (CardM.Fresh.below HZF.out hb7 (Nat.le_refl _))
          have hbw7 : base ≤ w7.heap.size := Nat.le_trans hbw6 hb7.size
          have z2 := (HZK.out.next hb7).cell (j := 0) rfl
          have z3 := (HZK.out.next hb7).cell (j := 1) rfl
          clear z0 z1 CG HL6 HB6 HZK HZF hb7
          obtain ⟨r1, hr1, -, -, c0, f0, st0⟩ := HL7.out.1.spot (i := i) (j := 0) HY.out rfl
          obtain rfl : r = r1 := congrArg Addr.block (Option.some.inj hr1)
          obtain ⟨r1, hr2, -, -, c1, f1, -⟩ := HL7.out.1.spot (i := i) (j := 1) HY.out rfl
          obtain rfl : r = r1 := congrArg Addr.block (Option.some.inj hr2)
          have c0 : w7.cell? ⟨r, i * 2, none⟩ = some (.int .u64 (ycid : Int)) := c0
          have c1 : w7.cell? ⟨r, i * 2 + 1, none⟩ = some (.slice yX yls.length yc) := c1
          have f0 : w7.frozen? ⟨r, i * 2, none⟩ = false := f0
          have f1 : w7.frozen? ⟨r, i * 2 + 1, none⟩ = false := f1
          obtain ⟨o1, -⟩ := st0 ⟨zcid, yX, yls, yc⟩ (.int .u64 (zcid : Int)) rfl
          have hi1 : (l.set i (⟨zcid, yX, yls, yc⟩ : CardM))[i]? = some ⟨zcid, yX, yls, yc⟩ := by rw [List.getElem?_set_self hlt]
          obtain ⟨r2, hr3, -, -, -, -, st1⟩ := o1.spot (i := i) (j := 1) hi1 rfl
          obtain rfl : r = r2 := congrArg Addr.block (Option.some.inj hr3)
          obtain ⟨o2, -⟩ := st1 ⟨zcid, zX, zls, zc⟩ (.slice zX zls.length zc) rfl
          rw [List.set_set] at o2
          have HOW : Kept (cardE.Own ((w7.setCell ⟨r, i * 2, none⟩ (.int .u64 (zcid : Int))).setCell ⟨r, i * 2 + 1, none⟩ (.slice zX zls.length zc)) base 38 (.slice (some ⟨r, 0, none⟩) l.length c) (l.set i ⟨zcid, zX, zls, zc⟩)) := ⟨o2⟩
          have hUP : Upd (fun k => (Value.slice (some ⟨r, 0, none⟩) l.length c).ownBlock = some k) w7 ((w7.setCell ⟨r, i * 2, none⟩ (.int .u64 (zcid : Int))).setCell ⟨r, i * 2 + 1, none⟩ (.slice zX zls.length zc)) := ((Upd.refl (fun k => (Value.slice (some ⟨r, 0, none⟩) l.length c).ownBlock = some k) w7).setCell (p := ⟨r, i * 2, none⟩) (.inl rfl) _).setCell (p := ⟨r, i * 2 + 1, none⟩) (.inl rfl) _
          have HUP := kept hUP
          clear o1 o2 st0 st1 hr1 hr2 hr3 hi1 hUP
          go_wp2_with fail
          first | go_ret | go_ret2
          rw [HO3.out]
          refine ⟨some ⟨r, 0, none⟩, c, l.set i ⟨zcid, zX, zls, zc⟩, by rw [List.length_set]; rfl, HL7.out.turn HUP.out (by rw [List.length_set]; exact HOW.out) (fun y hy => ?_), ?_, HB7.out.trans (HL7.out.under HUP.out hbw7)⟩
          · rcases List.mem_or_eq_of_mem_set hy with h | h
            · exact HL7.out.2 y h
            · rw [h]; exact HZF7.out
          · show (l.set i _).map CardM.p = (l.set i _).map CardM.p
            rw [List.map_set, List.map_set, HZP.out]
set_option maxRecDepth 100000 in
set_option maxHeartbeats 4000000 in
theorem one_drop (base : Nat) (A : Option Addr) (c : Nat) (l : List CardM) (x : ChM) (w : World) (hl : CsOwn w base A c l) (hx : x.Ok w base) (hbs : base ≤ w.heap.size) (hg : goodL l = true) (hbd : BdC 40 l) (hk : x.k = 4) :
    Calls Try.prog 46 #[.slice A l.length c, x.val] w (GivesO w base (oneM l x)) := by
  obtain ⟨xk, ⟨xcid, xX, xls, xc⟩, ⟨xf, xt, xA, xm, xmc⟩⟩ := x
  have HKK := kept hk
  clear hk
  have hs := good_sorted hg
  have hln : l.length ≤ 65 := hbd.1
  have HX := kept hx
  have HL0 := kept hl
  have HG := kept hg
  have HBD := kept hbd
  have CA := kept (fun (W : World) (hb : Below w.heap.size w W) => at_any A l c xcid W (hl.rd.next hb) hs (by omega))
  have hb0 : Below w.heap.size w (w.alloc (.cells #[.int .u8 (xk : Int), .int .u64 (xcid : Int), .slice xX xls.length xc, .int .u8 (xf : Int), .string xt, .slice xA xm.length xmc] 79)) := (Below.refl _ _).alloc (Nat.le_refl _) _
  have HK0 := kept (Blk.new w [.int .u8 (xk : Int), .int .u64 (xcid : Int), .slice xX xls.length xc, .int .u8 (xf : Int), .string xt, .slice xA xm.length xmc] 79)
  clear hx hl hg hbd
  unfold ChM.val
  dsimp only
  dsimp only at HKK
  go_enter Try.func46, Try.ntmps46
  go_wp2_with fail
  refine (CA.out _ hb0).mono ?_
  rintro e w1 ⟨⟨i, rfl, hpos⟩, hb1⟩
  have HL := kept (HL0.out.next (hb0.trans (hb1.mono hb0.size)))
  have HK := kept (HK0.out.next hb1)
  have hbb : Below w.heap.size w w1 := hb0.trans (hb1.mono hb0.size)
  have HB := kept (hbb.mono hbs)
  have HF := kept (find_pos hs hpos)
  have HPS := kept hpos
  have HS := kept hs
  have hbw : base ≤ w1.heap.size := Nat.le_trans hbs hbb.size
  have q0 := HK.out.cell (j := 0) rfl
  have q1 := HK.out.cell (j := 1) rfl
  have q2 := HK.out.cell (j := 2) rfl
  have q3 := HK.out.cell (j := 3) rfl
  clear hb1 hb0 hbb HK0 HL0 CA hpos hs
  obtain rfl := HKK.out
  clear HKK
  have q0 : w1.cell? ⟨w.heap.size, 0, none⟩ = some (.int .u8 4) := q0
  cases hat : isAt l xcid i with
  | false =>
    have hO : oneM l ⟨4, ⟨xcid, xX, xls, xc⟩, ⟨xf, xt, xA, xm, xmc⟩⟩ = ([], 6) := by
      have h1 := HF.out
      rw [hat] at h1
      simp [oneM, h1]
    have HO := kept hO
    clear hO HF
    go_wp2_with fail
    first | go_ret | go_ret2
    rw [HO.out]
    exact givesO_err HB.out
  | true =>
    obtain ⟨⟨ycid, yX, yls, yc⟩, hy, hyc⟩ : ∃ y, l[i]? = some y ∧ y.cid = xcid := by
      unfold isAt at hat
      cases hi : l[i]? with
      | none => rw [hi] at hat; cases hat
      | some y => rw [hi] at hat; exact ⟨y, rfl, by simpa using hat⟩
    have hlt : i < l.length := (List.getElem?_eq_some_iff.1 hy).1
    have hii : (i : Int) < (l.length : Int) := by omega
    obtain ⟨r, rfl, hbr, hrw, u0, v0, -⟩ := HL.out.1.spot (i := i) (j := 0) hy rfl
    obtain ⟨r', hr', -, -, u1, v1, -⟩ := HL.out.1.spot (i := i) (j := 1) hy rfl
    obtain rfl : r = r' := congrArg Addr.block (Option.some.inj hr')
    clear hr'
    have u0 : w1.cell? ⟨r, i * 2, none⟩ = some (.int .u64 (ycid : Int)) := u0
    have u1 : w1.cell? ⟨r, i * 2 + 1, none⟩ = some (.slice yX yls.length yc) := u1
    have hyk : (⟨ycid, yX, yls, yc⟩ : CardM).Ok w1 w1.heap.size := HL.out.rd.2 _ (List.mem_of_getElem? hy)
    have hyg : cardGood ⟨ycid, yX, yls, yc⟩ = true := good_mem HG.out (List.mem_of_getElem? hy)
    have hyb := HBD.out.2 _ (List.mem_of_getElem? hy)
    have HYS := kept (lines_sorted hyg)
    have HYL : Kept (yls.length ≤ 52) := ⟨hyb.1⟩
    have HYK := kept hyk
    have HY := kept hy
    have HYC : Kept (ycid = xcid) := ⟨hyc⟩
    have HAT := kept hat
    have HS14 : Kept (∀ W, Below w1.heap.size w1 W → W.cell? ⟨r, i * 2, none⟩ = some (.int .u64 (ycid : Int)) ∧ W.cell? ⟨r, i * 2 + 1, none⟩ = some (.slice yX yls.length yc) ∧ W.cell? ⟨w.heap.size, 3, none⟩ = some (.int .u8 (xf : Int))) := ⟨fun W hb => ⟨(hb.cell (p := ⟨r, i * 2, none⟩) hrw).trans u0, (hb.cell (p := ⟨r, i * 2 + 1, none⟩) hrw).trans u1, (HK.out.next hb).cell (j := 3) rfl⟩⟩
    have CL := kept (fun (W : World) (hb : Below w1.heap.size w1 W) => line_any ⟨ycid, yX, yls, yc⟩ xf W (HYK.out.next hb))
    have HZB : Kept (∀ W, Below (w1.drew.alloc (.cells #[.int .u8 0, .string ⟨#[]⟩, .slice none 0 0] 41)).heap.size (w1.drew.alloc (.cells #[.int .u8 0, .string ⟨#[]⟩, .slice none 0 0] 41)) W → Blk W w1.heap.size [.int .u8 0, .string ⟨#[]⟩, .slice none 0 0] 41) := ⟨fun W hb => (Blk.new w1.drew [.int .u8 0, .string ⟨#[]⟩, .slice none 0 0] 41).next hb⟩
    have hrk : r < w1.heap.size := hrw
    have hO : oneM l ⟨4, ⟨xcid, xX, xls, xc⟩, ⟨xf, xt, xA, xm, xmc⟩⟩ = if 4 = 4 ∧ (lineOf xf yls).isSome = false then ([], 6) else if cardGood (withK ⟨ycid, yX, yls, yc⟩ ⟨xf, xt, xA, xm, xmc⟩ true) = true then (putM l (withK ⟨ycid, yX, yls, yc⟩ ⟨xf, xt, xA, xm, xmc⟩ true), 0) else ([], 4) := by
      have h1 := HF.out
      rw [hat] at h1
      simp [oneM, h1, hy]
    have HO := kept hO
    clear hO HF hyk hyg hyb hy hyc hat v0 v1
    generalize hlo : lineOf xf yls = lo at *
    clear hlo
    unfold CardM.val at CL
    dsimp only at CL
    go_upto_region 14 with fail
    go_cut [9] (fun p wr => p = .bool lo.isSome ∧ Kept (Below w1.heap.size w1 wr))
    case first =>
      have hd0 : Below w1.heap.size w1 w1 := Below.refl _ _
      go_region_held3 (fun W => W.cell? ⟨r, i * 2, none⟩ = some (.int .u64 (ycid : Int)) ∧ W.cell? ⟨r, i * 2 + 1, none⟩ = some (.slice yX yls.length yc) ∧ W.cell? ⟨w.heap.size, 3, none⟩ = some (.int .u8 (xf : Int))) (exact HS14.out _ (by (repeat (first | with_reducible assumption | with_reducible refine below_new ?_ _ | with_reducible refine Below.drew ?_ | with_reducible exact Below.refl _ _ | ((with_reducible refine below_set ?_ ?_ _); rotate_left; (first | exact Nat.le_refl _ | (dsimp only; omega))))))) (first
        | (go_at_call 73; ((with_reducible refine (CL.out _ (by (repeat (first | with_reducible assumption | with_reducible refine below_new ?_ _ | with_reducible refine Below.drew ?_ | with_reducible exact Below.refl _ _ | ((with_reducible refine below_set ?_ ?_ _); rotate_left; (first | exact Nat.le_refl _ | (dsimp only; omega))))))).mono ?_); rintro e w2 ⟨⟨gf, gt, gA, gm, gc⟩, rfl, hgp, hgf, hgm, hgo, hb2⟩; have hk2 : Below w1.heap.size w1 w2 := below_next (by (repeat (first | with_reducible assumption | with_reducible refine below_new ?_ _ | with_reducible refine Below.drew ?_ | with_reducible exact Below.refl _ _ | ((with_reducible refine below_set ?_ ?_ _); rotate_left; (first | exact Nat.le_refl _ | (dsimp only; omega)))))) hb2; have hs2 := hk2.size; (first | (have hz2 := HZB.out _ hb2; have z0 := hz2.cell (j := 0) rfl; have z1 := hz2.cell (j := 1) rfl; have z2 := hz2.cell (j := 2) rfl; have f0 := hz2.frozen 0; have f1 := hz2.frozen 1; have f2 := hz2.frozen 2; clear hz2) | skip); unfold LineM.val; dsimp only)))
      all_goals
        go_wp2_with fail
        go_meet
        exact ⟨rfl, ⟨(by (repeat (first | with_reducible assumption | with_reducible refine below_new ?_ _ | with_reducible refine Below.drew ?_ | with_reducible exact Below.refl _ _ | ((with_reducible refine below_set ?_ ?_ _); rotate_left; (first | exact Nat.le_refl _ | (dsimp only; omega))))))⟩⟩
    case rest =>
      obtain ⟨rfl, hcut⟩ := hcut
      obtain ⟨w4, rfl⟩ : ∃ w4 : World, w4 = wc := ⟨_, rfl⟩
      have hbb := hcut.out
      have HL4 := kept (HL.out.next hbb)
      have HK4 := kept (HK.out.next hbb)
      have HB4 := kept (HB.out.trans (hbb.mono hbw))
      have HYK4 := kept (HYK.out.next hbb)
      have hbw4 : base ≤ w4.heap.size := Nat.le_trans hbw hbb.size
      have hrw4 : r < w4.heap.size := Nat.lt_of_lt_of_le hrk hbb.size
      obtain ⟨u0, u1, n3⟩ := HS14.out w4 hbb
      have q0 : w4.cell? ⟨w.heap.size, 0, none⟩ = some (.int .u8 4) := HK4.out.cell (j := 0) rfl
      have n4 := HK4.out.cell (j := 4) rfl
      have n5 := HK4.out.cell (j := 5) rfl
      clear hcut hbb CL HZB HS14 HL HK HB HYK hrk hrw hbw q1 q2 q3
      cases lo with
      | none =>
        have HO2 : Kept (oneM l ⟨4, ⟨xcid, xX, xls, xc⟩, ⟨xf, xt, xA, xm, xmc⟩⟩ = ([], 6)) := ⟨by rw [HO.out]; simp⟩
        clear HO
        go_wp2_with fail
        first | go_ret | go_ret2
        rw [HO2.out]
        exact givesO_err HB4.out
      | some lq =>
        have HO2 : Kept (oneM l ⟨4, ⟨xcid, xX, xls, xc⟩, ⟨xf, xt, xA, xm, xmc⟩⟩ = if cardGood (withK ⟨ycid, yX, yls, yc⟩ ⟨xf, xt, xA, xm, xmc⟩ true) = true then (putM l (withK ⟨ycid, yX, yls, yc⟩ ⟨xf, xt, xA, xm, xmc⟩ true), 0) else ([], 4)) := ⟨by rw [HO.out, if_neg (by simp)]⟩
        have HS17 : Kept (∀ W, Below w4.heap.size w4 W → W.cell? ⟨r, i * 2, none⟩ = some (.int .u64 (ycid : Int)) ∧ W.cell? ⟨r, i * 2 + 1, none⟩ = some (.slice yX yls.length yc) ∧ W.cell? ⟨w.heap.size, 3, none⟩ = some (.int .u8 (xf : Int)) ∧ W.cell? ⟨w.heap.size, 0, none⟩ = some (.int .u8 4) ∧ W.cell? ⟨w.heap.size, 4, none⟩ = some (.string xt) ∧ W.cell? ⟨w.heap.size, 5, none⟩ = some (.slice xA xm.length xmc)) := ⟨fun W hb => ⟨(hb.cell (p := ⟨r, i * 2, none⟩) hrw4).trans u0, (hb.cell (p := ⟨r, i * 2 + 1, none⟩) hrw4).trans u1, (HK4.out.next hb).cell (j := 3) rfl, (HK4.out.next hb).cell (j := 0) rfl, (HK4.out.next hb).cell (j := 4) rfl, (HK4.out.next hb).cell (j := 5) rfl⟩⟩
        have CW := kept (fun (W : World) (hb : Below w4.heap.size w4 W) => with_any ⟨ycid, yX, yls, yc⟩ ⟨xf, xt, xA, xm, xmc⟩ true W (HYK4.out.next hb) ((HX.out.2.2.keep fun _ hp => (HB4.out.trans (hb.mono hbw4)).cell hp).more (Nat.le_trans hbw4 hb.size)) HYS.out (by have := HYL.out; dsimp only; omega))
        have HZC : Kept (∀ W, Below (w4.drew.alloc (.cells #[.int .u64 0, .slice none 0 0] 38)).heap.size (w4.drew.alloc (.cells #[.int .u64 0, .slice none 0 0] 38)) W → Blk W w4.heap.size [.int .u64 0, .slice none 0 0] 38) := ⟨fun W hb => (Blk.new w4.drew [.int .u64 0, .slice none 0 0] 38).next hb⟩
        unfold CardM.val LineM.val at CW
        dsimp only at CW
        go_upto_region 17 with fail
        go_cut [10] (fun p wr => ∃ (g : Nat) (z : CardM), p = .pointer (some ⟨g, 0, none⟩) ∧ Kept (Blk wr g z.cells 38 ∧ z.p = (withK ⟨ycid, yX, yls, yc⟩ ⟨xf, xt, xA, xm, xmc⟩ true).p ∧ z.Fresh wr w4.heap.size ∧ Below w4.heap.size w4 wr))
        case first =>
          have hd0 : Below w4.heap.size w4 w4 := Below.refl _ _
          go_region_held3 (fun W => W.cell? ⟨r, i * 2, none⟩ = some (.int .u64 (ycid : Int)) ∧ W.cell? ⟨r, i * 2 + 1, none⟩ = some (.slice yX yls.length yc) ∧ W.cell? ⟨w.heap.size, 3, none⟩ = some (.int .u8 (xf : Int)) ∧ W.cell? ⟨w.heap.size, 0, none⟩ = some (.int .u8 4) ∧ W.cell? ⟨w.heap.size, 4, none⟩ = some (.string xt) ∧ W.cell? ⟨w.heap.size, 5, none⟩ = some (.slice xA xm.length xmc)) (exact HS17.out _ (by (repeat (first | with_reducible assumption | with_reducible refine below_new ?_ _ | with_reducible refine Below.drew ?_ | with_reducible exact Below.refl _ _ | ((with_reducible refine below_set ?_ ?_ _); rotate_left; (first | exact Nat.le_refl _ | (dsimp only; omega))))))) (first
            | (go_at_call 84; ((with_reducible refine (CW.out _ (by (repeat (first | with_reducible assumption | with_reducible refine below_new ?_ _ | with_reducible refine Below.drew ?_ | with_reducible exact Below.refl _ _ | ((with_reducible refine below_set ?_ ?_ _); rotate_left; (first | exact Nat.le_refl _ | (dsimp only; omega))))))).mono ?_); rintro e w5 ⟨⟨zcid, zX, zls, zc⟩, rfl, hzp, hzf, hb5⟩; have hk5 : Below w4.heap.size w4 w5 := below_next (by (repeat (first | with_reducible assumption | with_reducible refine below_new ?_ _ | with_reducible refine Below.drew ?_ | with_reducible exact Below.refl _ _ | ((with_reducible refine below_set ?_ ?_ _); rotate_left; (first | exact Nat.le_refl _ | (dsimp only; omega)))))) hb5; have hs5 := hk5.size; have hzf5 := CardM.Fresh.mono hzf (b' := w4.heap.size) (by first | exact Nat.le_refl _ | (simp; done) | (simp; omega)); (first | (have hz5 := HZC.out _ hb5; have z0 := hz5.cell (j := 0) rfl; have z1 := hz5.cell (j := 1) rfl; have f0 := hz5.frozen 0; have f1 := hz5.frozen 1) | skip); unfold CardM.val; dsimp only)))
          all_goals
            go_wp2_with fail
            go_meet
            first
              | exact ⟨_, ⟨zcid, zX, zls, zc⟩, rfl, ⟨Blk.set2 hz5, hzp, (hzf5.box hz5 0 _).box (hz5.set 0 _) 1 _, (by (repeat (first | with_reducible assumption | with_reducible refine below_new ?_ _ | with_reducible refine Below.drew ?_ | with_reducible exact Below.refl _ _ | ((with_reducible refine below_set ?_ ?_ _); rotate_left; (first | exact Nat.le_refl _ | (dsimp only; omega))))))⟩⟩
              | exact ⟨_, ⟨zcid, zX, zls, zc⟩, rfl, ⟨Blk.new w5 [.int .u64 (zcid : Int), .slice zX zls.length zc] _, hzp, hzf5.below ((Below.refl _ _).alloc (Nat.le_refl _) _) (Nat.le_refl _), (by (repeat (first | with_reducible assumption | with_reducible refine below_new ?_ _ | with_reducible refine Below.drew ?_ | with_reducible exact Below.refl _ _ | ((with_reducible refine below_set ?_ ?_ _); rotate_left; (first | exact Nat.le_refl _ | (dsimp only; omega))))))⟩⟩
        case rest =>
          obtain ⟨g, ⟨zcid, zX, zls, zc⟩, rfl, hcut⟩ := hcut
          obtain ⟨w6, rfl⟩ : ∃ w6 : World, w6 = wc := ⟨_, rfl⟩
          have hb6 := hcut.out.2.2.2
          have HL6 := kept (HL4.out.next hb6)
          have HB6 := kept (HB4.out.trans (hb6.mono hbw4))
          have HZK := kept hcut.out.1
          have HZP := kept hcut.out.2.1
          have HZF := kept (hcut.out.2.2.1.mono hbw4)
          have hbw6 : base ≤ w6.heap.size := Nat.le_trans hbw4 hb6.size
          clear hcut hb6 CW HZC HS17 HL4 HK4 HB4 HYK4 hrw4 hbw4 u0 u1 q0 n3 n4 n5
          have z0 := HZK.out.cell (j := 0) rfl
          have z1 := HZK.out.cell (j := 1) rfl
          have CG := kept (cgood_any ⟨zcid, zX, zls, zc⟩ w6 HZF.out.ok)
          have hgz := cardGood_p HZP.out
          unfold CardM.val at CG
          dsimp only at CG
          cases hgd : cardGood ⟨zcid, zX, zls, zc⟩ with
          | false =>
            rw [hgd] at CG hgz
            have HO3 : Kept (oneM l ⟨4, ⟨xcid, xX, xls, xc⟩, ⟨xf, xt, xA, xm, xmc⟩⟩ = ([], 4)) := ⟨by rw [HO2.out, ← hgz]; rfl⟩
            clear hgd hgz HO HO2
            go_wp2_with fail
            refine CG.out.mono ?_
            rintro e w7 ⟨rfl, hb7⟩
            go_wp2_with fail
            first | go_ret | go_ret2
            rw [HO3.out]
            exact givesO_err (HB6.out.trans (hb7.mono hbw6))
          | true =>
            rw [hgd] at CG hgz
            have HO3 : Kept (oneM l ⟨4, ⟨xcid, xX, xls, xc⟩, ⟨xf, xt, xA, xm, xmc⟩⟩ = (l.set i (withK ⟨ycid, yX, yls, yc⟩ ⟨xf, xt, xA, xm, xmc⟩ true), 0)) := ⟨by
              rw [HO2.out, ← hgz, if_pos rfl, put_old (i := i) HS.out (by rw [show (withK ⟨ycid, yX, yls, yc⟩ ⟨xf, xt, xA, xm, xmc⟩ true).cid = xcid from HYC.out]; exact HPS.out) (by rw [show (withK ⟨ycid, yX, yls, yc⟩ ⟨xf, xt, xA, xm, xmc⟩ true).cid = xcid from HYC.out]; exact HAT.out)]⟩
            clear hgd hgz HO HO2
            go_wp2_with fail
            refine CG.out.mono ?_
            rintro e w7 ⟨rfl, hb7⟩
            have HL7 := kept (HL6.out.next hb7)
            have HB7 := kept (HB6.out.trans (hb7.mono hbw6))
            have HZF7 := kept (CardM.Fresh.below HZF.out hb7 (Nat.le_refl _))
            have hbw7 : base ≤ w7.heap.size := Nat.le_trans hbw6 hb7.size
            have z2 := (HZK.out.next hb7).cell (j := 0) rfl
            have z3 := (HZK.out.next hb7).cell (j := 1) rfl
            clear z0 z1 CG HL6 HB6 HZK HZF hb7
            obtain ⟨r1, hr1, -, -, c0, f0, st0⟩ := HL7.out.1.spot (i := i) (j := 0) HY.out rfl
            obtain rfl : r = r1 := congrArg Addr.block (Option.some.inj hr1)
            obtain ⟨r1, hr2, -, -, c1, f1, -⟩ := HL7.out.1.spot (i := i) (j := 1) HY.out rfl
            obtain rfl : r = r1 := congrArg Addr.block (Option.some.inj hr2)
            have c0 : w7.cell? ⟨r, i * 2, none⟩ = some (.int .u64 (ycid : Int)) := c0
            have c1 : w7.cell? ⟨r, i * 2 + 1, none⟩ = some (.slice yX yls.length yc) := c1
            have f0 : w7.frozen? ⟨r, i * 2, none⟩ = false := f0
            have f1 : w7.frozen? ⟨r, i * 2 + 1, none⟩ = false := f1
            obtain ⟨o1, -⟩ := st0 ⟨zcid, yX, yls, yc⟩ (.int .u64 (zcid : Int)) rfl
            have hi1 : (l.set i (⟨zcid, yX, yls, yc⟩ : CardM))[i]? = some ⟨zcid, yX, yls, yc⟩ := by rw [List.getElem?_set_self hlt]
            obtain ⟨r2, hr3, -, -, -, -, st1⟩ := o1.spot (i := i) (j := 1) hi1 rfl
            obtain rfl : r = r2 := congrArg Addr.block (Option.some.inj hr3)
            obtain ⟨o2, -⟩ := st1 ⟨zcid, zX, zls, zc⟩ (.slice zX zls.length zc) rfl
            rw [List.set_set] at o2
            have HOW : Kept (cardE.Own ((w7.setCell ⟨r, i * 2, none⟩ (.int .u64 (zcid : Int))).setCell ⟨r, i * 2 + 1, none⟩ (.slice zX zls.length zc)) base 38 (.slice (some ⟨r, 0, none⟩) l.length c) (l.set i ⟨zcid, zX, zls, zc⟩)) := ⟨o2⟩
            have hUP : Upd (fun k => (Value.slice (some ⟨r, 0, none⟩) l.length c).ownBlock = some k) w7 ((w7.setCell ⟨r, i * 2, none⟩ (.int .u64 (zcid : Int))).setCell ⟨r, i * 2 + 1, none⟩ (.slice zX zls.length zc)) := ((Upd.refl (fun k => (Value.slice (some ⟨r, 0, none⟩) l.length c).ownBlock = some k) w7).setCell (p := ⟨r, i * 2, none⟩) (.inl rfl) _).setCell (p := ⟨r, i * 2 + 1, none⟩) (.inl rfl) _
            have HUP := kept hUP
            clear o1 o2 st0 st1 hr1 hr2 hr3 hi1 hUP
            go_wp2_with fail
            first | go_ret | go_ret2
            rw [HO3.out]
            refine ⟨some ⟨r, 0, none⟩, c, l.set i ⟨zcid, zX, zls, zc⟩, by rw [List.length_set]; rfl, HL7.out.turn HUP.out (by rw [List.length_set]; exact HOW.out) (fun y hy => ?_), ?_, HB7.out.trans (HL7.out.under HUP.out hbw7)⟩
            · rcases List.mem_or_eq_of_mem_set hy with h | h
              · exact HL7.out.2 y h
              · rw [h]; exact HZF7.out
            · show (l.set i _).map CardM.p = (l.set i _).map CardM.p
              rw [List.map_set, List.map_set, HZP.out]
end Go.Proofs.Ytnmcclkpgbdenaa.Chg
