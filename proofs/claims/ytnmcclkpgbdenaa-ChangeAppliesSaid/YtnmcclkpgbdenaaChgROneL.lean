/- Layer 50 (change): the document's one where it sets or drops a line. (printed by tools/genro.py) -/
import Derived.Test.YtnmcclkpgbdenaaChgROne
namespace Go.Proofs.Ytnmcclkpgbdenaa.Chg
open Go.RowKit Go.Proofs.Ytnmcclkpgbdenaa.Mem Go.Proofs.Ytnmcclkpgbdenaa.Card

set_option maxRecDepth 100000 in
set_option maxHeartbeats 4000000 in
theorem rone_set (A : Option Addr) (c : Nat) (l : List CardM) (x : ChM) (w : World) (hl : RdCards w w.heap.size A l) (hx : x.Ok w w.heap.size) (hc : l.length ≤ c) (hbd : BdC 40 l) (hbx : BdX x) (hk : x.k = 3) :
    Calls Try.prog 45 #[.slice A l.length c, x.val] w (GivesRO w (oneM l x)) := by
  obtain ⟨xk, ⟨xcid, xX, xls, xc⟩, ⟨xf, xt, xA, xm, xmc⟩⟩ := x
  have HKK := kept hk
  clear hk
  have hln : l.length ≤ 65 := hbd.1
  have HX := kept hx
  have HL := kept hl
  have HC := kept hc
  have HBD := kept hbd
  have HBX := kept hbx
  have CA := kept (fun (W : World) (hb : Below w.heap.size w W) => rat_any A l.length c l xcid W rfl (hl.next hb) (by omega))
  have hb0 : Below w.heap.size w (w.alloc (.cells #[.int .u8 (xk : Int), .int .u64 (xcid : Int), .slice xX xls.length xc, .int .u8 (xf : Int), .string xt, .slice xA xm.length xmc] 79)) := (Below.refl _ _).alloc (Nat.le_refl _) _
  have HK0 := kept (Blk.new w [.int .u8 (xk : Int), .int .u64 (xcid : Int), .slice xX xls.length xc, .int .u8 (xf : Int), .string xt, .slice xA xm.length xmc] 79)
  clear hx hl hbd hbx hc
  unfold ChM.val
  dsimp only
  dsimp only at HKK
  go_enter Try.func45, Try.ntmps45
  go_wp2_with fail
  refine (CA.out _ hb0).mono ?_
  rintro e w1 ⟨⟨rr, rfl, hidx⟩, hw⟩
  have hb1 : Below w.heap.size w w1 := by rw [← hw]; exact hb0
  have HK : Kept (Blk w1 w.heap.size [.int .u8 (xk : Int), .int .u64 (xcid : Int), .slice xX xls.length xc, .int .u8 (xf : Int), .string xt, .slice xA xm.length xmc] 79) := ⟨by rw [← hw]; exact HK0.out⟩
  have HB := kept hb1
  have hrr := find_idx hidx
  have q0 := HK.out.cell (j := 0) rfl
  have q1 := HK.out.cell (j := 1) rfl
  have q2 := HK.out.cell (j := 2) rfl
  have q3 := HK.out.cell (j := 3) rfl
  clear hb1 hb0 HK0 CA hw hidx
  obtain rfl := HKK.out
  clear HKK
  have q0 : w1.cell? ⟨w.heap.size, 0, none⟩ = some (.int .u8 3) := q0
  cases hf : findC xcid l with
  | none =>
    have HO : Kept (oneM l ⟨3, ⟨xcid, xX, xls, xc⟩, ⟨xf, xt, xA, xm, xmc⟩⟩ = ([], 6)) := ⟨by simp [oneM, hf]⟩
    rw [hf] at hrr
    dsimp only at hrr
    subst hrr
    clear hf
    go_wp2_with fail
    first | go_ret | go_ret2
    rw [HO.out]
    exact givesRO_err HL.out HC.out (by decide) HB.out
  | some i =>
    rw [hf] at hrr
    dsimp only at hrr
    subst hrr
    obtain ⟨⟨⟨ycid, yX, yls, yc⟩, hy, hyc⟩, -⟩ := findC_some.1 hf
    have hlt : i < l.length := (List.getElem?_eq_some_iff.1 hy).1
    have hii : (i : Int) < (l.length : Int) := by omega
    have hneg : decide ((i : Int) < 0) = false := decide_eq_false (by omega)
    have HO : Kept (oneM l ⟨3, ⟨xcid, xX, xls, xc⟩, ⟨xf, xt, xA, xm, xmc⟩⟩ = if 3 = 4 ∧ (lineOf xf yls).isSome = false then ([], 6) else if cardGood (withK ⟨ycid, yX, yls, yc⟩ ⟨xf, xt, xA, xm, xmc⟩ false) = true then (putM l (withK ⟨ycid, yX, yls, yc⟩ ⟨xf, xt, xA, xm, xmc⟩ false), 0) else ([], 4)) := ⟨by simp [oneM, hf, hy]⟩
    obtain ⟨b1, o1, rfl, hbB, u0, u1, hyo⟩ := HL.out.at_ hy
    have HYK := kept hyo
    have HYB := kept (HBD.out.2 _ (List.mem_of_getElem? hy))
    have hrk : b1 < w1.heap.size := Nat.lt_of_lt_of_le hbB HB.out.size
    have u0 := (HB.out.cell (p := ⟨b1, o1 + i * 2, none⟩) hbB).trans u0
    have u1 := (HB.out.cell (p := ⟨b1, o1 + i * 2 + 1, none⟩) hbB).trans u1
    dsimp only at u0 u1
    have HS14 : Kept (∀ W, Below w1.heap.size w1 W → W.cell? ⟨b1, o1 + i * 2, none⟩ = some (.int .u64 (ycid : Int)) ∧ W.cell? ⟨b1, o1 + i * 2 + 1, none⟩ = some (.slice yX yls.length yc) ∧ W.cell? ⟨w.heap.size, 3, none⟩ = some (.int .u8 (xf : Int))) := ⟨fun W hb => ⟨(hb.cell (p := ⟨b1, o1 + i * 2, none⟩) hrk).trans u0, (hb.cell (p := ⟨b1, o1 + i * 2 + 1, none⟩) hrk).trans u1, (HK.out.next hb).cell (j := 3) rfl⟩⟩
    have CL := kept (fun (W : World) (hb : Below w1.heap.size w1 W) => rline_any ⟨ycid, yX, yls, yc⟩ xf W ((HYK.out.next HB.out).next hb))
    have HZB : Kept (∀ W, Below (w1.drew.alloc (.cells #[.int .u8 0, .string ⟨#[]⟩, .slice none 0 0] 41)).heap.size (w1.drew.alloc (.cells #[.int .u8 0, .string ⟨#[]⟩, .slice none 0 0] 41)) W → Blk W w1.heap.size [.int .u8 0, .string ⟨#[]⟩, .slice none 0 0] 41) := ⟨fun W hb => (Blk.new w1.drew [.int .u8 0, .string ⟨#[]⟩, .slice none 0 0] 41).next hb⟩
    clear hf hy hyc hyo
    dsimp only at CL
    generalize (lineOf xf yls).getD zeroL = gl at CL
    obtain ⟨gf, gt, gA, gm, gc⟩ := gl
    generalize hlo : lineOf xf yls = lo at *
    clear hlo
    unfold CardM.val LineM.val at CL
    dsimp only at CL
    go_upto_region 14 with fail
    go_cut [8] (fun p wr => p = .bool lo.isSome ∧ Kept (Below w1.heap.size w1 wr))
    case first =>
      have hd0 : Below w1.heap.size w1 w1 := Below.refl _ _
      go_region_held3 (fun W => W.cell? ⟨b1, o1 + i * 2, none⟩ = some (.int .u64 (ycid : Int)) ∧ W.cell? ⟨b1, o1 + i * 2 + 1, none⟩ = some (.slice yX yls.length yc) ∧ W.cell? ⟨w.heap.size, 3, none⟩ = some (.int .u8 (xf : Int))) (exact HS14.out _ (by (repeat (first | with_reducible assumption | with_reducible refine below_new ?_ _ | with_reducible refine Below.drew ?_ | with_reducible exact Below.refl _ _ | ((with_reducible refine below_set ?_ ?_ _); rotate_left; (first | exact Nat.le_refl _ | (dsimp only; omega))))))) (first
        | (go_at_call 77; ((with_reducible refine (CL.out _ (by (repeat (first | with_reducible assumption | with_reducible refine below_new ?_ _ | with_reducible refine Below.drew ?_ | with_reducible exact Below.refl _ _ | ((with_reducible refine below_set ?_ ?_ _); rotate_left; (first | exact Nat.le_refl _ | (dsimp only; omega))))))).mono ?_); rintro e w2 ⟨rfl, hb2⟩; have hk2 : Below w1.heap.size w1 w2 := below_next (by (repeat (first | with_reducible assumption | with_reducible refine below_new ?_ _ | with_reducible refine Below.drew ?_ | with_reducible exact Below.refl _ _ | ((with_reducible refine below_set ?_ ?_ _); rotate_left; (first | exact Nat.le_refl _ | (dsimp only; omega)))))) hb2; have hs2 := hk2.size; (first | (have hz2 := HZB.out _ hb2; have z0 := hz2.cell (j := 0) rfl; have z1 := hz2.cell (j := 1) rfl; have z2 := hz2.cell (j := 2) rfl; have f0 := hz2.frozen 0; have f1 := hz2.frozen 1; have f2 := hz2.frozen 2; clear hz2) | skip))))
      all_goals
        go_wp2_with fail
        go_meet
        exact ⟨rfl, ⟨(by (repeat (first | with_reducible assumption | with_reducible refine below_new ?_ _ | with_reducible refine Below.drew ?_ | with_reducible exact Below.refl _ _ | ((with_reducible refine below_set ?_ ?_ _); rotate_left; (first | exact Nat.le_refl _ | (dsimp only; omega))))))⟩⟩
    case rest =>
      obtain ⟨rfl, hcut⟩ := hcut
      obtain ⟨w4, rfl⟩ : ∃ w4 : World, w4 = wc := ⟨_, rfl⟩
      have hbb := hcut.out
      have HK4 := kept (HK.out.next hbb)
      have HB4 := kept (HB.out.trans (hbb.mono HB.out.size))
      have HYK4 := kept ((HYK.out.next HB.out).next hbb)
      have hrw4 : b1 < w4.heap.size := Nat.lt_of_lt_of_le hrk hbb.size
      obtain ⟨u0, u1, n3⟩ := HS14.out w4 hbb
      have q0 : w4.cell? ⟨w.heap.size, 0, none⟩ = some (.int .u8 3) := HK4.out.cell (j := 0) rfl
      have n4 := HK4.out.cell (j := 4) rfl
      have n5 := HK4.out.cell (j := 5) rfl
      clear hcut hbb CL HZB HS14 HK HB HYK hrk q1 q2 q3
      have HO2 : Kept (oneM l ⟨3, ⟨xcid, xX, xls, xc⟩, ⟨xf, xt, xA, xm, xmc⟩⟩ = if cardGood (withK ⟨ycid, yX, yls, yc⟩ ⟨xf, xt, xA, xm, xmc⟩ false) = true then (putM l (withK ⟨ycid, yX, yls, yc⟩ ⟨xf, xt, xA, xm, xmc⟩ false), 0) else ([], 4)) := ⟨by rw [HO.out, if_neg (by simp)]⟩
      have HS17 : Kept (∀ W, Below w4.heap.size w4 W → W.cell? ⟨b1, o1 + i * 2, none⟩ = some (.int .u64 (ycid : Int)) ∧ W.cell? ⟨b1, o1 + i * 2 + 1, none⟩ = some (.slice yX yls.length yc) ∧ W.cell? ⟨w.heap.size, 3, none⟩ = some (.int .u8 (xf : Int)) ∧ W.cell? ⟨w.heap.size, 0, none⟩ = some (.int .u8 3) ∧ W.cell? ⟨w.heap.size, 4, none⟩ = some (.string xt) ∧ W.cell? ⟨w.heap.size, 5, none⟩ = some (.slice xA xm.length xmc)) := ⟨fun W hb => ⟨(hb.cell (p := ⟨b1, o1 + i * 2, none⟩) hrw4).trans u0, (hb.cell (p := ⟨b1, o1 + i * 2 + 1, none⟩) hrw4).trans u1, (HK4.out.next hb).cell (j := 3) rfl, (HK4.out.next hb).cell (j := 0) rfl, (HK4.out.next hb).cell (j := 4) rfl, (HK4.out.next hb).cell (j := 5) rfl⟩⟩
      have CW := kept (fun (W : World) (hb : Below w4.heap.size w4 W) => rset_any ⟨ycid, yX, yls, yc⟩ ⟨xf, xt, xA, xm, xmc⟩ false W (HYK4.out.next hb) ((HX.out.2.2.next HB4.out).next hb) (by have := HYB.out.1; dsimp only at this ⊢; omega))
      have HZC : Kept (∀ W, Below (w4.drew.alloc (.cells #[.int .u64 0, .slice none 0 0] 38)).heap.size (w4.drew.alloc (.cells #[.int .u64 0, .slice none 0 0] 38)) W → Blk W w4.heap.size [.int .u64 0, .slice none 0 0] 38) := ⟨fun W hb => (Blk.new w4.drew [.int .u64 0, .slice none 0 0] 38).next hb⟩
      unfold GivesS at CW
      have HSL : Kept (setR ⟨xf, xt, xA, xm, xmc⟩ false yls = (withK ⟨ycid, yX, yls, yc⟩ ⟨xf, xt, xA, xm, xmc⟩ false).ls) := ⟨rfl⟩
      have HOK : Kept (∀ W, Below w4.heap.size w4 W → ∀ q ∈ setR ⟨xf, xt, xA, xm, xmc⟩ false yls, q.Ok W W.heap.size) := ⟨fun W hb q hq => by
        rcases setR_mem hq with rfl | h
        · exact (HX.out.2.2.next HB4.out).next hb
        · exact (HYK4.out.next hb).2.1.2 q h⟩
      have HSN : Kept ((setR ⟨xf, xt, xA, xm, xmc⟩ false yls).length ≤ 60) := ⟨by have h1 := setR_len ⟨xf, xt, xA, xm, xmc⟩ false yls; have h2 := HYB.out.1; dsimp only at h1 h2; simp at h1; omega⟩
      dsimp only at CW
      generalize setR ⟨xf, xt, xA, xm, xmc⟩ false yls = sl at *
      unfold CardM.val LineM.val at CW
      dsimp only at CW
      go_upto_region 17 with fail
      go_cut [9] (fun p wr => ∃ (g : Nat) (zX : Option Addr) (zc : Nat), p = .pointer (some ⟨g, 0, none⟩) ∧ Kept (Blk wr g [.int .u64 (ycid : Int), .slice zX sl.length zc] 38 ∧ lineE.Own wr w4.heap.size 41 (.slice zX sl.length zc) sl ∧ Below w4.heap.size w4 wr))
      case first =>
        have hd0 : Below w4.heap.size w4 w4 := Below.refl _ _
        go_region_held3 (fun W => W.cell? ⟨b1, o1 + i * 2, none⟩ = some (.int .u64 (ycid : Int)) ∧ W.cell? ⟨b1, o1 + i * 2 + 1, none⟩ = some (.slice yX yls.length yc) ∧ W.cell? ⟨w.heap.size, 3, none⟩ = some (.int .u8 (xf : Int)) ∧ W.cell? ⟨w.heap.size, 0, none⟩ = some (.int .u8 3) ∧ W.cell? ⟨w.heap.size, 4, none⟩ = some (.string xt) ∧ W.cell? ⟨w.heap.size, 5, none⟩ = some (.slice xA xm.length xmc)) (exact HS17.out _ (by (repeat (first | with_reducible assumption | with_reducible refine below_new ?_ _ | with_reducible refine Below.drew ?_ | with_reducible exact Below.refl _ _ | ((with_reducible refine below_set ?_ ?_ _); rotate_left; (first | exact Nat.le_refl _ | (dsimp only; omega))))))) (first
          | (go_at_call 80; ((with_reducible refine (CW.out _ (by (repeat (first | with_reducible assumption | with_reducible refine below_new ?_ _ | with_reducible refine Below.drew ?_ | with_reducible exact Below.refl _ _ | ((with_reducible refine below_set ?_ ?_ _); rotate_left; (first | exact Nat.le_refl _ | (dsimp only; omega))))))).mono ?_); rintro e w5 ⟨zX, zc, rfl, hzo, hb5⟩; have hk5 : Below w4.heap.size w4 w5 := below_next (by (repeat (first | with_reducible assumption | with_reducible refine below_new ?_ _ | with_reducible refine Below.drew ?_ | with_reducible exact Below.refl _ _ | ((with_reducible refine below_set ?_ ?_ _); rotate_left; (first | exact Nat.le_refl _ | (dsimp only; omega)))))) hb5; have hs5 := hk5.size; have hzo5 := Elem.Own.mono hzo (b' := w4.heap.size) (by first | exact Nat.le_refl _ | (simp; done) | (simp; omega)); (first | (have hz5 := HZC.out _ hb5; have z0 := hz5.cell (j := 0) rfl; have z1 := hz5.cell (j := 1) rfl; have f0 := hz5.frozen 0; have f1 := hz5.frozen 1) | skip))))
        all_goals
          go_wp2_with fail
          go_meet
          first
            | exact ⟨_, zX, zc, rfl, ⟨Blk.set2 hz5, OwnK.other (OwnK.other hzo5 (OwnK.apartB hzo5 hz5 (by decide)) _) (by exact OwnK.apartB hzo5 hz5 (by decide)) _, (by (repeat (first | with_reducible assumption | with_reducible refine below_new ?_ _ | with_reducible refine Below.drew ?_ | with_reducible exact Below.refl _ _ | ((with_reducible refine below_set ?_ ?_ _); rotate_left; (first | exact Nat.le_refl _ | (dsimp only; omega))))))⟩⟩
            | exact ⟨_, zX, zc, rfl, ⟨Blk.new w5 [.int .u64 (ycid : Int), .slice zX sl.length zc] _, hzo5.alloc _, (by (repeat (first | with_reducible assumption | with_reducible refine below_new ?_ _ | with_reducible refine Below.drew ?_ | with_reducible exact Below.refl _ _ | ((with_reducible refine below_set ?_ ?_ _); rotate_left; (first | exact Nat.le_refl _ | (dsimp only; omega))))))⟩⟩
      case rest =>
        obtain ⟨g, zX, zc, rfl, hcut⟩ := hcut
        obtain ⟨w6, rfl⟩ : ∃ w6 : World, w6 = wc := ⟨_, rfl⟩
        have hb6 := hcut.out.2.2
        have HB6 := kept (HB4.out.trans (hb6.mono HB4.out.size))
        have HZK := kept hcut.out.1
        have HZP : Kept ((⟨ycid, zX, sl, zc⟩ : CardM).p = (withK ⟨ycid, yX, yls, yc⟩ ⟨xf, xt, xA, xm, xmc⟩ false).p) := ⟨card_p.2 ⟨rfl, by rw [← HSL.out]⟩⟩
        have HZO : Kept ((⟨ycid, zX, sl, zc⟩ : CardM).Ok w6 w6.heap.size) := ⟨⟨HYK4.out.1, ⟨hcut.out.2.1.rd, HOK.out w6 hb6⟩, hcut.out.2.1.cap, by have := HSN.out; show sl.length ≤ _; omega⟩⟩
        have HZT : Kept (∀ q ∈ sl, q.t.size ≤ 9223372036854775807 ∧ ∀ s ∈ q.m, s.size ≤ 9223372036854775807) := ⟨fun q hq => (bdK_p HZP.out.symm (bd_with HYB.out HBX.out.2 false)).texts q hq⟩
        clear hcut hb6 CW HZC HS17 HK4 HB4 HYK4 hrw4 u0 u1 q0 n3 n4 n5 HOK
        have z0 := HZK.out.cell (j := 0) rfl
        have z1 := HZK.out.cell (j := 1) rfl
        have CG := kept (rcgood_any ⟨ycid, zX, sl, zc⟩ w6 HZO.out HZT.out)
        have hgz := cardGood_p HZP.out
        unfold CardM.val at CG
        dsimp only at CG
        cases hgd : cardGood ⟨ycid, zX, sl, zc⟩ with
        | false =>
          rw [hgd] at CG hgz
          have HO3 : Kept (oneM l ⟨3, ⟨xcid, xX, xls, xc⟩, ⟨xf, xt, xA, xm, xmc⟩⟩ = ([], 4)) := ⟨by rw [HO2.out, ← hgz]; rfl⟩
          clear hgd hgz HO HO2
          have HO := HO3
          go_wp2_with fail
          refine CG.out.mono ?_
          rintro e w7 ⟨rfl, hb7⟩
          go_wp2_with fail
          first | go_ret | go_ret2
          rw [HO.out]
          exact givesRO_err HL.out HC.out (by decide) (HB6.out.trans (hb7.mono HB6.out.size))
        | true =>
          rw [hgd] at CG hgz
          have HO3 : Kept (oneM l ⟨3, ⟨xcid, xX, xls, xc⟩, ⟨xf, xt, xA, xm, xmc⟩⟩ = (putM l (withK ⟨ycid, yX, yls, yc⟩ ⟨xf, xt, xA, xm, xmc⟩ false), 0)) := ⟨by rw [HO2.out, ← hgz, if_pos rfl]⟩
          clear hgd hgz HO HO2
          go_wp2_with fail
          refine CG.out.mono ?_
          rintro e w7 ⟨rfl, hb7⟩
          have HB7 := kept (HB6.out.trans (hb7.mono HB6.out.size))
          have HZO7 := kept (HZO.out.next hb7)
          have z2 := (HZK.out.next hb7).cell (j := 0) rfl
          have z3 := (HZK.out.next hb7).cell (j := 1) rfl
          clear z0 z1 CG HB6 HZK HZO hb7
          have CP := kept (rput_any (some ⟨b1, o1, none⟩) l c ⟨ycid, zX, sl, zc⟩ w7 (HL.out.next HB7.out) HZO7.out (by omega))
          have HPP := kept (putM_p (a := l) (b := l) rfl HZP.out)
          unfold CardM.val at CP
          dsimp only at CP
          generalize putM l ⟨ycid, zX, sl, zc⟩ = pm at *
          go_wp2_with fail
          refine CP.out.mono ?_
          rintro e w8 ⟨A8, c8, rfl, hc8, hr8, hb8⟩
          go_wp2_with fail
          first | go_ret | go_ret2
          rw [HO3.out]
          exact ⟨A8, c8, pm, rfl, hc8, hr8, fun _ => HPP.out, HB7.out.trans (hb8.mono HB7.out.size)⟩
set_option maxRecDepth 100000 in
set_option maxHeartbeats 4000000 in
theorem rone_drop (A : Option Addr) (c : Nat) (l : List CardM) (x : ChM) (w : World) (hl : RdCards w w.heap.size A l) (hx : x.Ok w w.heap.size) (hc : l.length ≤ c) (hbd : BdC 40 l) (hbx : BdX x) (hk : x.k = 4) :
    Calls Try.prog 45 #[.slice A l.length c, x.val] w (GivesRO w (oneM l x)) := by
  obtain ⟨xk, ⟨xcid, xX, xls, xc⟩, ⟨xf, xt, xA, xm, xmc⟩⟩ := x
  have HKK := kept hk
  clear hk
  have hln : l.length ≤ 65 := hbd.1
  have HX := kept hx
  have HL := kept hl
  have HC := kept hc
  have HBD := kept hbd
  have HBX := kept hbx
  have CA := kept (fun (W : World) (hb : Below w.heap.size w W) => rat_any A l.length c l xcid W rfl (hl.next hb) (by omega))
  have hb0 : Below w.heap.size w (w.alloc (.cells #[.int .u8 (xk : Int), .int .u64 (xcid : Int), .slice xX xls.length xc, .int .u8 (xf : Int), .string xt, .slice xA xm.length xmc] 79)) := (Below.refl _ _).alloc (Nat.le_refl _) _
  have HK0 := kept (Blk.new w [.int .u8 (xk : Int), .int .u64 (xcid : Int), .slice xX xls.length xc, .int .u8 (xf : Int), .string xt, .slice xA xm.length xmc] 79)
  clear hx hl hbd hbx hc
  unfold ChM.val
  dsimp only
  dsimp only at HKK
  go_enter Try.func45, Try.ntmps45
  go_wp2_with fail
  refine (CA.out _ hb0).mono ?_
  rintro e w1 ⟨⟨rr, rfl, hidx⟩, hw⟩
  have hb1 : Below w.heap.size w w1 := by rw [← hw]; exact hb0
  have HK : Kept (Blk w1 w.heap.size [.int .u8 (xk : Int), .int .u64 (xcid : Int), .slice xX xls.length xc, .int .u8 (xf : Int), .string xt, .slice xA xm.length xmc] 79) := ⟨by rw [← hw]; exact HK0.out⟩
  have HB := kept hb1
  have hrr := find_idx hidx
  have q0 := HK.out.cell (j := 0) rfl
  have q1 := HK.out.cell (j := 1) rfl
  have q2 := HK.out.cell (j := 2) rfl
  have q3 := HK.out.cell (j := 3) rfl
  clear hb1 hb0 HK0 CA hw hidx
  obtain rfl := HKK.out
  clear HKK
  have q0 : w1.cell? ⟨w.heap.size, 0, none⟩ = some (.int .u8 4) := q0
  cases hf : findC xcid l with
  | none =>
    have HO : Kept (oneM l ⟨4, ⟨xcid, xX, xls, xc⟩, ⟨xf, xt, xA, xm, xmc⟩⟩ = ([], 6)) := ⟨by simp [oneM, hf]⟩
    rw [hf] at hrr
    dsimp only at hrr
    subst hrr
    clear hf
    go_wp2_with fail
    first | go_ret | go_ret2
    rw [HO.out]
    exact givesRO_err HL.out HC.out (by decide) HB.out
  | some i =>
    rw [hf] at hrr
    dsimp only at hrr
    subst hrr
    obtain ⟨⟨⟨ycid, yX, yls, yc⟩, hy, hyc⟩, -⟩ := findC_some.1 hf
    have hlt : i < l.length := (List.getElem?_eq_some_iff.1 hy).1
    have hii : (i : Int) < (l.length : Int) := by omega
    have hneg : decide ((i : Int) < 0) = false := decide_eq_false (by omega)
    have HO : Kept (oneM l ⟨4, ⟨xcid, xX, xls, xc⟩, ⟨xf, xt, xA, xm, xmc⟩⟩ = if 4 = 4 ∧ (lineOf xf yls).isSome = false then ([], 6) else if cardGood (withK ⟨ycid, yX, yls, yc⟩ ⟨xf, xt, xA, xm, xmc⟩ true) = true then (putM l (withK ⟨ycid, yX, yls, yc⟩ ⟨xf, xt, xA, xm, xmc⟩ true), 0) else ([], 4)) := ⟨by simp [oneM, hf, hy]⟩
    obtain ⟨b1, o1, rfl, hbB, u0, u1, hyo⟩ := HL.out.at_ hy
    have HYK := kept hyo
    have HYB := kept (HBD.out.2 _ (List.mem_of_getElem? hy))
    have hrk : b1 < w1.heap.size := Nat.lt_of_lt_of_le hbB HB.out.size
    have u0 := (HB.out.cell (p := ⟨b1, o1 + i * 2, none⟩) hbB).trans u0
    have u1 := (HB.out.cell (p := ⟨b1, o1 + i * 2 + 1, none⟩) hbB).trans u1
    dsimp only at u0 u1
    have HS14 : Kept (∀ W, Below w1.heap.size w1 W → W.cell? ⟨b1, o1 + i * 2, none⟩ = some (.int .u64 (ycid : Int)) ∧ W.cell? ⟨b1, o1 + i * 2 + 1, none⟩ = some (.slice yX yls.length yc) ∧ W.cell? ⟨w.heap.size, 3, none⟩ = some (.int .u8 (xf : Int))) := ⟨fun W hb => ⟨(hb.cell (p := ⟨b1, o1 + i * 2, none⟩) hrk).trans u0, (hb.cell (p := ⟨b1, o1 + i * 2 + 1, none⟩) hrk).trans u1, (HK.out.next hb).cell (j := 3) rfl⟩⟩
    have CL := kept (fun (W : World) (hb : Below w1.heap.size w1 W) => rline_any ⟨ycid, yX, yls, yc⟩ xf W ((HYK.out.next HB.out).next hb))
    have HZB : Kept (∀ W, Below (w1.drew.alloc (.cells #[.int .u8 0, .string ⟨#[]⟩, .slice none 0 0] 41)).heap.size (w1.drew.alloc (.cells #[.int .u8 0, .string ⟨#[]⟩, .slice none 0 0] 41)) W → Blk W w1.heap.size [.int .u8 0, .string ⟨#[]⟩, .slice none 0 0] 41) := ⟨fun W hb => (Blk.new w1.drew [.int .u8 0, .string ⟨#[]⟩, .slice none 0 0] 41).next hb⟩
    clear hf hy hyc hyo
    dsimp only at CL
    generalize (lineOf xf yls).getD zeroL = gl at CL
    obtain ⟨gf, gt, gA, gm, gc⟩ := gl
    generalize hlo : lineOf xf yls = lo at *
    clear hlo
    unfold CardM.val LineM.val at CL
    dsimp only at CL
    go_upto_region 14 with fail
    go_cut [8] (fun p wr => p = .bool lo.isSome ∧ Kept (Below w1.heap.size w1 wr))
    case first =>
      have hd0 : Below w1.heap.size w1 w1 := Below.refl _ _
      go_region_held3 (fun W => W.cell? ⟨b1, o1 + i * 2, none⟩ = some (.int .u64 (ycid : Int)) ∧ W.cell? ⟨b1, o1 + i * 2 + 1, none⟩ = some (.slice yX yls.length yc) ∧ W.cell? ⟨w.heap.size, 3, none⟩ = some (.int .u8 (xf : Int))) (exact HS14.out _ (by (repeat (first | with_reducible assumption | with_reducible refine below_new ?_ _ | with_reducible refine Below.drew ?_ | with_reducible exact Below.refl _ _ | ((with_reducible refine below_set ?_ ?_ _); rotate_left; (first | exact Nat.le_refl _ | (dsimp only; omega))))))) (first
        | (go_at_call 77; ((with_reducible refine (CL.out _ (by (repeat (first | with_reducible assumption | with_reducible refine below_new ?_ _ | with_reducible refine Below.drew ?_ | with_reducible exact Below.refl _ _ | ((with_reducible refine below_set ?_ ?_ _); rotate_left; (first | exact Nat.le_refl _ | (dsimp only; omega))))))).mono ?_); rintro e w2 ⟨rfl, hb2⟩; have hk2 : Below w1.heap.size w1 w2 := below_next (by (repeat (first | with_reducible assumption | with_reducible refine below_new ?_ _ | with_reducible refine Below.drew ?_ | with_reducible exact Below.refl _ _ | ((with_reducible refine below_set ?_ ?_ _); rotate_left; (first | exact Nat.le_refl _ | (dsimp only; omega)))))) hb2; have hs2 := hk2.size; (first | (have hz2 := HZB.out _ hb2; have z0 := hz2.cell (j := 0) rfl; have z1 := hz2.cell (j := 1) rfl; have z2 := hz2.cell (j := 2) rfl; have f0 := hz2.frozen 0; have f1 := hz2.frozen 1; have f2 := hz2.frozen 2; clear hz2) | skip))))
      all_goals
        go_wp2_with fail
        go_meet
        exact ⟨rfl, ⟨(by (repeat (first | with_reducible assumption | with_reducible refine below_new ?_ _ | with_reducible refine Below.drew ?_ | with_reducible exact Below.refl _ _ | ((with_reducible refine below_set ?_ ?_ _); rotate_left; (first | exact Nat.le_refl _ | (dsimp only; omega))))))⟩⟩
    case rest =>
      obtain ⟨rfl, hcut⟩ := hcut
      obtain ⟨w4, rfl⟩ : ∃ w4 : World, w4 = wc := ⟨_, rfl⟩
      have hbb := hcut.out
      have HK4 := kept (HK.out.next hbb)
      have HB4 := kept (HB.out.trans (hbb.mono HB.out.size))
      have HYK4 := kept ((HYK.out.next HB.out).next hbb)
      have hrw4 : b1 < w4.heap.size := Nat.lt_of_lt_of_le hrk hbb.size
      obtain ⟨u0, u1, n3⟩ := HS14.out w4 hbb
      have q0 : w4.cell? ⟨w.heap.size, 0, none⟩ = some (.int .u8 4) := HK4.out.cell (j := 0) rfl
      have n4 := HK4.out.cell (j := 4) rfl
      have n5 := HK4.out.cell (j := 5) rfl
      clear hcut hbb CL HZB HS14 HK HB HYK hrk q1 q2 q3
      cases lo with
      | none =>
        have HO2 : Kept (oneM l ⟨4, ⟨xcid, xX, xls, xc⟩, ⟨xf, xt, xA, xm, xmc⟩⟩ = ([], 6)) := ⟨by rw [HO.out]; simp⟩
        clear HO
        have HO := HO2
        go_wp2_with fail
        first | go_ret | go_ret2
        rw [HO.out]
        exact givesRO_err HL.out HC.out (by decide) HB4.out
      | some lq =>
        have HO2 : Kept (oneM l ⟨4, ⟨xcid, xX, xls, xc⟩, ⟨xf, xt, xA, xm, xmc⟩⟩ = if cardGood (withK ⟨ycid, yX, yls, yc⟩ ⟨xf, xt, xA, xm, xmc⟩ true) = true then (putM l (withK ⟨ycid, yX, yls, yc⟩ ⟨xf, xt, xA, xm, xmc⟩ true), 0) else ([], 4)) := ⟨by rw [HO.out, if_neg (by simp)]⟩
        have HS17 : Kept (∀ W, Below w4.heap.size w4 W → W.cell? ⟨b1, o1 + i * 2, none⟩ = some (.int .u64 (ycid : Int)) ∧ W.cell? ⟨b1, o1 + i * 2 + 1, none⟩ = some (.slice yX yls.length yc) ∧ W.cell? ⟨w.heap.size, 3, none⟩ = some (.int .u8 (xf : Int)) ∧ W.cell? ⟨w.heap.size, 0, none⟩ = some (.int .u8 4) ∧ W.cell? ⟨w.heap.size, 4, none⟩ = some (.string xt) ∧ W.cell? ⟨w.heap.size, 5, none⟩ = some (.slice xA xm.length xmc)) := ⟨fun W hb => ⟨(hb.cell (p := ⟨b1, o1 + i * 2, none⟩) hrw4).trans u0, (hb.cell (p := ⟨b1, o1 + i * 2 + 1, none⟩) hrw4).trans u1, (HK4.out.next hb).cell (j := 3) rfl, (HK4.out.next hb).cell (j := 0) rfl, (HK4.out.next hb).cell (j := 4) rfl, (HK4.out.next hb).cell (j := 5) rfl⟩⟩
        have CW := kept (fun (W : World) (hb : Below w4.heap.size w4 W) => rset_any ⟨ycid, yX, yls, yc⟩ ⟨xf, xt, xA, xm, xmc⟩ true W (HYK4.out.next hb) ((HX.out.2.2.next HB4.out).next hb) (by have := HYB.out.1; dsimp only at this ⊢; omega))
        have HZC : Kept (∀ W, Below (w4.drew.alloc (.cells #[.int .u64 0, .slice none 0 0] 38)).heap.size (w4.drew.alloc (.cells #[.int .u64 0, .slice none 0 0] 38)) W → Blk W w4.heap.size [.int .u64 0, .slice none 0 0] 38) := ⟨fun W hb => (Blk.new w4.drew [.int .u64 0, .slice none 0 0] 38).next hb⟩
        unfold GivesS at CW
        have HSL : Kept (setR ⟨xf, xt, xA, xm, xmc⟩ true yls = (withK ⟨ycid, yX, yls, yc⟩ ⟨xf, xt, xA, xm, xmc⟩ true).ls) := ⟨rfl⟩
        have HOK : Kept (∀ W, Below w4.heap.size w4 W → ∀ q ∈ setR ⟨xf, xt, xA, xm, xmc⟩ true yls, q.Ok W W.heap.size) := ⟨fun W hb q hq => by
          rcases setR_mem hq with rfl | h
          · exact (HX.out.2.2.next HB4.out).next hb
          · exact (HYK4.out.next hb).2.1.2 q h⟩
        have HSN : Kept ((setR ⟨xf, xt, xA, xm, xmc⟩ true yls).length ≤ 60) := ⟨by have h1 := setR_len ⟨xf, xt, xA, xm, xmc⟩ true yls; have h2 := HYB.out.1; dsimp only at h1 h2; simp at h1; omega⟩
        dsimp only at CW
        generalize setR ⟨xf, xt, xA, xm, xmc⟩ true yls = sl at *
        unfold CardM.val LineM.val at CW
        dsimp only at CW
        go_upto_region 17 with fail
        go_cut [9] (fun p wr => ∃ (g : Nat) (zX : Option Addr) (zc : Nat), p = .pointer (some ⟨g, 0, none⟩) ∧ Kept (Blk wr g [.int .u64 (ycid : Int), .slice zX sl.length zc] 38 ∧ lineE.Own wr w4.heap.size 41 (.slice zX sl.length zc) sl ∧ Below w4.heap.size w4 wr))
        case first =>
          have hd0 : Below w4.heap.size w4 w4 := Below.refl _ _
          go_region_held3 (fun W => W.cell? ⟨b1, o1 + i * 2, none⟩ = some (.int .u64 (ycid : Int)) ∧ W.cell? ⟨b1, o1 + i * 2 + 1, none⟩ = some (.slice yX yls.length yc) ∧ W.cell? ⟨w.heap.size, 3, none⟩ = some (.int .u8 (xf : Int)) ∧ W.cell? ⟨w.heap.size, 0, none⟩ = some (.int .u8 4) ∧ W.cell? ⟨w.heap.size, 4, none⟩ = some (.string xt) ∧ W.cell? ⟨w.heap.size, 5, none⟩ = some (.slice xA xm.length xmc)) (exact HS17.out _ (by (repeat (first | with_reducible assumption | with_reducible refine below_new ?_ _ | with_reducible refine Below.drew ?_ | with_reducible exact Below.refl _ _ | ((with_reducible refine below_set ?_ ?_ _); rotate_left; (first | exact Nat.le_refl _ | (dsimp only; omega))))))) (first
            | (go_at_call 80; ((with_reducible refine (CW.out _ (by (repeat (first | with_reducible assumption | with_reducible refine below_new ?_ _ | with_reducible refine Below.drew ?_ | with_reducible exact Below.refl _ _ | ((with_reducible refine below_set ?_ ?_ _); rotate_left; (first | exact Nat.le_refl _ | (dsimp only; omega))))))).mono ?_); rintro e w5 ⟨zX, zc, rfl, hzo, hb5⟩; have hk5 : Below w4.heap.size w4 w5 := below_next (by (repeat (first | with_reducible assumption | with_reducible refine below_new ?_ _ | with_reducible refine Below.drew ?_ | with_reducible exact Below.refl _ _ | ((with_reducible refine below_set ?_ ?_ _); rotate_left; (first | exact Nat.le_refl _ | (dsimp only; omega)))))) hb5; have hs5 := hk5.size; have hzo5 := Elem.Own.mono hzo (b' := w4.heap.size) (by first | exact Nat.le_refl _ | (simp; done) | (simp; omega)); (first | (have hz5 := HZC.out _ hb5; have z0 := hz5.cell (j := 0) rfl; have z1 := hz5.cell (j := 1) rfl; have f0 := hz5.frozen 0; have f1 := hz5.frozen 1) | skip))))
          all_goals
            go_wp2_with fail
            go_meet
            first
              | exact ⟨_, zX, zc, rfl, ⟨Blk.set2 hz5, OwnK.other (OwnK.other hzo5 (OwnK.apartB hzo5 hz5 (by decide)) _) (by exact OwnK.apartB hzo5 hz5 (by decide)) _, (by (repeat (first | with_reducible assumption | with_reducible refine below_new ?_ _ | with_reducible refine Below.drew ?_ | with_reducible exact Below.refl _ _ | ((with_reducible refine below_set ?_ ?_ _); rotate_left; (first | exact Nat.le_refl _ | (dsimp only; omega))))))⟩⟩
              | exact ⟨_, zX, zc, rfl, ⟨Blk.new w5 [.int .u64 (ycid : Int), .slice zX sl.length zc] _, hzo5.alloc _, (by (repeat (first | with_reducible assumption | with_reducible refine below_new ?_ _ | with_reducible refine Below.drew ?_ | with_reducible exact Below.refl _ _ | ((with_reducible refine below_set ?_ ?_ _); rotate_left; (first | exact Nat.le_refl _ | (dsimp only; omega))))))⟩⟩
        case rest =>
          obtain ⟨g, zX, zc, rfl, hcut⟩ := hcut
          obtain ⟨w6, rfl⟩ : ∃ w6 : World, w6 = wc := ⟨_, rfl⟩
          have hb6 := hcut.out.2.2
          have HB6 := kept (HB4.out.trans (hb6.mono HB4.out.size))
          have HZK := kept hcut.out.1
          have HZP : Kept ((⟨ycid, zX, sl, zc⟩ : CardM).p = (withK ⟨ycid, yX, yls, yc⟩ ⟨xf, xt, xA, xm, xmc⟩ true).p) := ⟨card_p.2 ⟨rfl, by rw [← HSL.out]⟩⟩
          have HZO : Kept ((⟨ycid, zX, sl, zc⟩ : CardM).Ok w6 w6.heap.size) := ⟨⟨HYK4.out.1, ⟨hcut.out.2.1.rd, HOK.out w6 hb6⟩, hcut.out.2.1.cap, by have := HSN.out; show sl.length ≤ _; omega⟩⟩
          have HZT : Kept (∀ q ∈ sl, q.t.size ≤ 9223372036854775807 ∧ ∀ s ∈ q.m, s.size ≤ 9223372036854775807) := ⟨fun q hq => (bdK_p HZP.out.symm (bd_with HYB.out HBX.out.2 true)).texts q hq⟩
          clear hcut hb6 CW HZC HS17 HK4 HB4 HYK4 hrw4 u0 u1 q0 n3 n4 n5 HOK
          have z0 := HZK.out.cell (j := 0) rfl
          have z1 := HZK.out.cell (j := 1) rfl
          have CG := kept (rcgood_any ⟨ycid, zX, sl, zc⟩ w6 HZO.out HZT.out)
          have hgz := cardGood_p HZP.out
          unfold CardM.val at CG
          dsimp only at CG
          cases hgd : cardGood ⟨ycid, zX, sl, zc⟩ with
          | false =>
            rw [hgd] at CG hgz
            have HO3 : Kept (oneM l ⟨4, ⟨xcid, xX, xls, xc⟩, ⟨xf, xt, xA, xm, xmc⟩⟩ = ([], 4)) := ⟨by rw [HO2.out, ← hgz]; rfl⟩
            clear hgd hgz HO HO2
            have HO := HO3
            go_wp2_with fail
            refine CG.out.mono ?_
            rintro e w7 ⟨rfl, hb7⟩
            go_wp2_with fail
            first | go_ret | go_ret2
            rw [HO.out]
            exact givesRO_err HL.out HC.out (by decide) (HB6.out.trans (hb7.mono HB6.out.size))
          | true =>
            rw [hgd] at CG hgz
            have HO3 : Kept (oneM l ⟨4, ⟨xcid, xX, xls, xc⟩, ⟨xf, xt, xA, xm, xmc⟩⟩ = (putM l (withK ⟨ycid, yX, yls, yc⟩ ⟨xf, xt, xA, xm, xmc⟩ true), 0)) := ⟨by rw [HO2.out, ← hgz, if_pos rfl]⟩
            clear hgd hgz HO HO2
            go_wp2_with fail
            refine CG.out.mono ?_
            rintro e w7 ⟨rfl, hb7⟩
            have HB7 := kept (HB6.out.trans (hb7.mono HB6.out.size))
            have HZO7 := kept (HZO.out.next hb7)
            have z2 := (HZK.out.next hb7).cell (j := 0) rfl
            have z3 := (HZK.out.next hb7).cell (j := 1) rfl
            clear z0 z1 CG HB6 HZK HZO hb7
            have CP := kept (rput_any (some ⟨b1, o1, none⟩) l c ⟨ycid, zX, sl, zc⟩ w7 (HL.out.next HB7.out) HZO7.out (by omega))
            have HPP := kept (putM_p (a := l) (b := l) rfl HZP.out)
            unfold CardM.val at CP
            dsimp only at CP
            generalize putM l ⟨ycid, zX, sl, zc⟩ = pm at *
            go_wp2_with fail
            refine CP.out.mono ?_
            rintro e w8 ⟨A8, c8, rfl, hc8, hr8, hb8⟩
            go_wp2_with fail
            first | go_ret | go_ret2
            rw [HO3.out]
            exact ⟨A8, c8, pm, rfl, hc8, hr8, fun _ => HPP.out, HB7.out.trans (hb8.mono HB7.out.size)⟩
end Go.Proofs.Ytnmcclkpgbdenaa.Chg
