/- Layer 50 (change): the document's one. (printed by tools/genro.py) -/
import Derived.Test.YtnmcclkpgbdenaaChgRSet
import Derived.Test.YtnmcclkpgbdenaaSet24
import Derived.Test.YtnmcclkpgbdenaaSet27
import Derived.Test.YtnmcclkpgbdenaaSet14
import Derived.Test.YtnmcclkpgbdenaaSet26
import Derived.Test.YtnmcclkpgbdenaaSet16
import Derived.BigQuiet
import Derived.Deep.RegionHeld3
import Derived.Deep.DeepCutAuto
namespace Go.Proofs.Ytnmcclkpgbdenaa.Chg
open Go.RowKit Go.Proofs.Ytnmcclkpgbdenaa.Mem Go.Proofs.Ytnmcclkpgbdenaa.Card

/-- a list, and an error's number -/
def GivesRO (w : World) (r : List CardM × Nat) (en : Ending) (w' : World) : Prop :=
  ∃ A c l, en = .returned (.tuple #[.slice A (List.length l) c, .int .i64 (r.2 : Int)]) ∧ l.length ≤ c ∧ RdCards w' w'.heap.size A l ∧ (r.2 = 0 → l.map CardM.p = r.1.map CardM.p) ∧ Below w.heap.size w w'
theorem givesRO_err {w w' : World} {A : Option Addr} {c e : Nat} {l : List CardM} (hr : RdCards w w.heap.size A l) (hc : l.length ≤ c) (he : ¬ e = 0) (h : Below w.heap.size w w') : GivesRO w ([], e) (.returned (.tuple #[.slice A l.length c, .int .i64 (e : Int)])) w' := ⟨A, c, l, rfl, hc, hr.next h, fun e0 => absurd e0 he, h⟩
/-- what BdK says of a card's texts -/
theorem BdK.texts {n : Nat} {y : CardM} (h : BdK n y) : ∀ z ∈ y.ls, z.t.size ≤ 9223372036854775807 ∧ ∀ q ∈ z.m, q.size ≤ 9223372036854775807 := fun z hz => ⟨by have := (h.2 z hz).1; omega, (h.2 z hz).2.2⟩
set_option maxRecDepth 100000 in
set_option maxHeartbeats 4000000 in
theorem rone_bad (A : Option Addr) (c : Nat) (l : List CardM) (x : ChM) (w : World) (hl : RdCards w w.heap.size A l) (hx : x.Ok w w.heap.size) (hc : l.length ≤ c) (hbd : BdC 40 l) (hbx : BdX x) (hk : x.k < 1 ∨ 4 < x.k) :
    Calls Try.prog 45 #[.slice A l.length c, x.val] w (GivesRO w (oneM l x)) := by
  obtain ⟨xk, ⟨xcid, xX, xls, xc⟩, ⟨xf, xt, xA, xm, xmc⟩⟩ := x
  have HKK := kept hk
  clear hk
  have hln : l.length ≤ 65 := hbd.1
  have HX := kept hx
  have HL := kept hl
  have HC := kept hc
  have HBD := kept hbd
  have HBX := kept hbx
  have CA := kept (fun (W : World) (hb : Below w.heap.size w W) => rat_any A l.length c l xcid W rfl (hl.next hb) (by omega))
  have hb0 : Below w.heap.size w (w.alloc (.cells #[.int .u8 (xk : Int), .int .u64 (xcid : Int), .slice xX xls.length xc, .int .u8 (xf : Int), .string xt, .slice xA xm.length xmc] 79)) := (Below.refl _ _).alloc (Nat.le_refl _) _
  have HK0 := kept (Blk.new w [.int .u8 (xk : Int), .int .u64 (xcid : Int), .slice xX xls.length xc, .int .u8 (xf : Int), .string xt, .slice xA xm.length xmc] 79)
  clear hx hl hbd hbx hc
  unfold ChM.val
  dsimp only
  dsimp only at HKK
  go_enter Try.func45, Try.ntmps45
  go_wp2_with fail
  refine (CA.out _ hb0).mono ?_
  rintro e w1 ⟨⟨rr, rfl, hidx⟩, hw⟩
  have hb1 : Below w.heap.size w w1 := by rw [← hw]; exact hb0
  have HK : Kept (Blk w1 w.heap.size [.int .u8 (xk : Int), .int .u64 (xcid : Int), .slice xX xls.length xc, .int .u8 (xf : Int), .string xt, .slice xA xm.length xmc] 79) := ⟨by rw [← hw]; exact HK0.out⟩
  have HB := kept hb1
  have hrr := find_idx hidx
  have q0 := HK.out.cell (j := 0) rfl
  have q1 := HK.out.cell (j := 1) rfl
  have q2 := HK.out.cell (j := 2) rfl
  have q3 := HK.out.cell (j := 3) rfl
  clear hb1 hb0 HK0 CA hw hidx
  have HO : Kept (oneM l ⟨xk, ⟨xcid, xX, xls, xc⟩, ⟨xf, xt, xA, xm, xmc⟩⟩ = ([], 4)) := ⟨if_pos HKK.out⟩
  have hk := HKK.out
  clear HKK hrr
  by_cases h0 : xk < 1
  · have d1 : decide ((xk : Int) < 1) = true := decide_eq_true (by omega)
    go_wp2_with fail
    first | go_ret | go_ret2
    rw [HO.out]
    exact givesRO_err HL.out HC.out (by decide) HB.out
  · have d1 : decide ((xk : Int) < 1) = false := decide_eq_false (by omega)
    have d2 : decide (4 < (xk : Int)) = true := decide_eq_true (by omega)
    go_wp2_with fail
    first | go_ret | go_ret2
    rw [HO.out]
    exact givesRO_err HL.out HC.out (by decide) HB.out
set_option maxRecDepth 100000 in
set_option maxHeartbeats 4000000 in
theorem rone_new (A : Option Addr) (c : Nat) (l : List CardM) (x : ChM) (w : World) (hl : RdCards w w.heap.size A l) (hx : x.Ok w w.heap.size) (hc : l.length ≤ c) (hbd : BdC 40 l) (hbx : BdX x) (hk : x.k = 1) :
    Calls Try.prog 45 #[.slice A l.length c, x.val] w (GivesRO w (oneM l x)) := by
  obtain ⟨xk, ⟨xcid, xX, xls, xc⟩, ⟨xf, xt, xA, xm, xmc⟩⟩ := x
  have HKK := kept hk
  clear hk
  have hln : l.length ≤ 65 := hbd.1
  have HX := kept hx
  have HL := kept hl
  have HC := kept hc
  have HBD := kept hbd
  have HBX := kept hbx
  have CA := kept (fun (W : World) (hb : Below w.heap.size w W) => rat_any A l.length c l xcid W rfl (hl.next hb) (by omega))
  have hb0 : Below w.heap.size w (w.alloc (.cells #[.int .u8 (xk : Int), .int .u64 (xcid : Int), .slice xX xls.length xc, .int .u8 (xf : Int), .string xt, .slice xA xm.length xmc] 79)) := (Below.refl _ _).alloc (Nat.le_refl _) _
  have HK0 := kept (Blk.new w [.int .u8 (xk : Int), .int .u64 (xcid : Int), .slice xX xls.length xc, .int .u8 (xf : Int), .string xt, .slice xA xm.length xmc] 79)
  clear hx hl hbd hbx hc
  unfold ChM.val
  dsimp only
  dsimp only at HKK
  go_enter Try.func45, Try.ntmps45
  go_wp2_with fail
  refine (CA.out _ hb0).mono ?_
  rintro e w1 ⟨⟨rr, rfl, hidx⟩, hw⟩
  have hb1 : Below w.heap.size w w1 := by rw [← hw]; exact hb0
  have HK : Kept (Blk w1 w.heap.size [.int .u8 (xk : Int), .int .u64 (xcid : Int), .slice xX xls.length xc, .int .u8 (xf : Int), .string xt, .slice xA xm.length xmc] 79) := ⟨by rw [← hw]; exact HK0.out⟩
  have HB := kept hb1
  have hrr := find_idx hidx
  have q0 := HK.out.cell (j := 0) rfl
  have q1 := HK.out.cell (j := 1) rfl
  have q2 := HK.out.cell (j := 2) rfl
  have q3 := HK.out.cell (j := 3) rfl
  clear hb1 hb0 HK0 CA hw hidx
  obtain rfl := HKK.out
  clear HKK
  have q0 : w1.cell? ⟨w.heap.size, 0, none⟩ = some (.int .u8 1) := q0
  cases hf : findC xcid l with
  | some i =>
    have HO : Kept (oneM l ⟨1, ⟨xcid, xX, xls, xc⟩, ⟨xf, xt, xA, xm, xmc⟩⟩ = ([], 7)) := ⟨by simp [oneM, hf]⟩
    rw [hf] at hrr
    dsimp only at hrr
    subst hrr
    have hd : decide ((0 : Int) ≤ (i : Int)) = true := decide_eq_true (by omega)
    clear hf
    go_wp2_with fail
    first | go_ret | go_ret2
    rw [HO.out]
    exact givesRO_err HL.out HC.out (by decide) HB.out
  | none =>
    rw [hf] at hrr
    dsimp only at hrr
    subst hrr
    have CG := kept (rcgood_any ⟨xcid, xX, xls, xc⟩ w1 (HX.out.2.1.next HB.out) HBX.out.1.texts)
    cases hgd : cardGood ⟨xcid, xX, xls, xc⟩ with
    | false =>
      rw [hgd] at CG
      have HO : Kept (oneM l ⟨1, ⟨xcid, xX, xls, xc⟩, ⟨xf, xt, xA, xm, xmc⟩⟩ = ([], 4)) := ⟨by simp [oneM, hf, hgd]⟩
      clear hf hgd
      unfold CardM.val at CG
      dsimp only at CG
      go_wp2_with fail
      refine CG.out.mono ?_
      rintro e w2 ⟨rfl, hb2⟩
      go_wp2_with fail
      first | go_ret | go_ret2
      rw [HO.out]
      exact givesRO_err HL.out HC.out (by decide) (HB.out.trans (hb2.mono HB.out.size))
    | true =>
      rw [hgd] at CG
      have HO : Kept (oneM l ⟨1, ⟨xcid, xX, xls, xc⟩, ⟨xf, xt, xA, xm, xmc⟩⟩ = (putM l ⟨xcid, xX, xls, xc⟩, 0)) := ⟨by simp [oneM, hf, hgd]⟩
      clear hf hgd
      unfold CardM.val at CG
      dsimp only at CG
      go_wp2_with fail
      refine CG.out.mono ?_
      rintro e w2 ⟨rfl, hb2⟩
      have HB2 := kept (HB.out.trans (hb2.mono HB.out.size))
      have HK2 := kept (HK.out.next hb2)
      clear hb2 CG q0 q1 q2 q3 HB HK
      have q1 := HK2.out.cell (j := 1) rfl
      have q2 := HK2.out.cell (j := 2) rfl
      have CP := kept (rput_any A l c ⟨xcid, xX, xls, xc⟩ w2 (HL.out.next HB2.out) (HX.out.2.1.next HB2.out) (by omega))
      unfold CardM.val at CP
      dsimp only at CP
      generalize hpm : putM l ⟨xcid, xX, xls, xc⟩ = pm at *
      clear hpm
      go_wp2_with fail
      refine CP.out.mono ?_
      rintro e w3 ⟨A3, c3, rfl, hc3, hr3, hb3⟩
      go_wp2_with fail
      first | go_ret | go_ret2
      rw [HO.out]
      exact ⟨A3, c3, pm, rfl, hc3, hr3, fun _ => rfl, HB2.out.trans (hb3.mono HB2.out.size)⟩
set_option maxRecDepth 100000 in
set_option maxHeartbeats 4000000 in
theorem rone_gone (A : Option Addr) (c : Nat) (l : List CardM) (x : ChM) (w : World) (hl : RdCards w w.heap.size A l) (hx : x.Ok w w.heap.size) (hc : l.length ≤ c) (hbd : BdC 40 l) (hbx : BdX x) (hk : x.k = 2) :
    Calls Try.prog 45 #[.slice A l.length c, x.val] w (GivesRO w (oneM l x)) := by
  obtain ⟨xk, ⟨xcid, xX, xls, xc⟩, ⟨xf, xt, xA, xm, xmc⟩⟩ := x
  have HKK := kept hk
  clear hk
  have hln : l.length ≤ 65 := hbd.1
  have HX := kept hx
  have HL := kept hl
  have HC := kept hc
  have HBD := kept hbd
  have HBX := kept hbx
  have CA := kept (fun (W : World) (hb : Below w.heap.size w W) => rat_any A l.length c l xcid W rfl (hl.next hb) (by omega))
  have hb0 : Below w.heap.size w (w.alloc (.cells #[.int .u8 (xk : Int), .int .u64 (xcid : Int), .slice xX xls.length xc, .int .u8 (xf : Int), .string xt, .slice xA xm.length xmc] 79)) := (Below.refl _ _).alloc (Nat.le_refl _) _
  have HK0 := kept (Blk.new w [.int .u8 (xk : Int), .int .u64 (xcid : Int), .slice xX xls.length xc, .int .u8 (xf : Int), .string xt, .slice xA xm.length xmc] 79)
  clear hx hl hbd hbx hc
  unfold ChM.val
  dsimp only
  dsimp only at HKK
  go_enter Try.func45, Try.ntmps45
  go_wp2_with fail
  refine (CA.out _ hb0).mono ?_
  rintro e w1 ⟨⟨rr, rfl, hidx⟩, hw⟩
  have hb1 : Below w.heap.size w w1 := by rw [← hw]; exact hb0
  have HK : Kept (Blk w1 w.heap.size [.int .u8 (xk : Int), .int .u64 (xcid : Int), .slice xX xls.length xc, .int .u8 (xf : Int), .string xt, .slice xA xm.length xmc] 79) := ⟨by rw [← hw]; exact HK0.out⟩
  have HB := kept hb1
  have hrr := find_idx hidx
  have q0 := HK.out.cell (j := 0) rfl
  have q1 := HK.out.cell (j := 1) rfl
  have q2 := HK.out.cell (j := 2) rfl
  have q3 := HK.out.cell (j := 3) rfl
  clear hb1 hb0 HK0 CA hw hidx
  obtain rfl := HKK.out
  clear HKK
  have q0 : w1.cell? ⟨w.heap.size, 0, none⟩ = some (.int .u8 2) := q0
  cases hf : findC xcid l with
  | none =>
    have HO : Kept (oneM l ⟨2, ⟨xcid, xX, xls, xc⟩, ⟨xf, xt, xA, xm, xmc⟩⟩ = ([], 6)) := ⟨by simp [oneM, hf]⟩
    rw [hf] at hrr
    dsimp only at hrr
    subst hrr
    clear hf
    go_wp2_with fail
    first | go_ret | go_ret2
    rw [HO.out]
    exact givesRO_err HL.out HC.out (by decide) HB.out
  | some i =>
    rw [hf] at hrr
    dsimp only at hrr
    subst hrr
    obtain ⟨⟨⟨ycid, yX, yls, yc⟩, hy, hyc⟩, -⟩ := findC_some.1 hf
    have hlt : i < l.length := (List.getElem?_eq_some_iff.1 hy).1
    have hii : (i : Int) < (l.length : Int) := by omega
    have hneg : decide ((i : Int) < 0) = false := decide_eq_false (by omega)
    have HO : Kept (oneM l ⟨2, ⟨xcid, xX, xls, xc⟩, ⟨xf, xt, xA, xm, xmc⟩⟩ = (l.eraseIdx i, 0)) := ⟨by simp [oneM, hf]⟩
    have HER : Kept (l.eraseIdx i = l.take i ++ l.drop (i + 1)) := ⟨List.eraseIdx_eq_take_drop_succ l i⟩
    have HMT : Kept (∀ q ∈ l.take i ++ l.drop (i + 1), q ∈ l) := ⟨fun q hq => by
      rcases List.mem_append.1 hq with h | h
      · exact List.mem_of_mem_take h
      · exact List.mem_of_mem_drop h⟩
    have hw1 : IntKind.i64.wrap ((i : Int) + 1) = (i : Int) + 1 := by rw [IntKind.wrap_i64]; omega
    obtain ⟨b1, o1, rfl, hbB, -, -, -⟩ := HL.out.at_ hy
    have hc := HC.out
    have hTK : cardE.Rd w w.heap.size (some ⟨b1, o1, none⟩) (l.take i) := by
      have h0 : Rd w w.heap.size (some ⟨b1, o1, none⟩) (cardE.cells l) := HL.out.1
      unfold Elem.Rd
      rw [← cardE.cells_take]
      exact h0.take (i * 2)
    have hDR : cardE.Rd w w.heap.size (if c = i + 1 then some ⟨b1, o1, none⟩ else some ⟨b1, o1 + (i + 1) * 2, none⟩) (l.drop (i + 1)) := by
      have h0 : Rd w w.heap.size (some ⟨b1, o1, none⟩) (cardE.cells l) := HL.out.1
      unfold Elem.Rd
      rw [← cardE.cells_drop]
      have h1 := h0.drop ((i + 1) * 2) (c * 2) (l.length * 2) (by omega) (by omega) (by rw [cardE.cells_length]; rfl)
      by_cases hci : c = i + 1
      · rw [if_pos hci]
        rw [if_pos (by omega)] at h1
        exact h1
      · rw [if_neg hci]
        rw [if_neg (by omega)] at h1
        refine (show Rd w w.heap.size (some ⟨b1, o1 + (i + 1) * 2, none⟩) (List.drop ((i + 1) * 2) (cardE.cells l)) from ?_)
        simpa [add_plain] using h1
    have HTK := kept (fun (W : World) (hb : Below w1.heap.size w1 W) => Elem.Rd.below (Elem.Rd.below hTK HB.out) (hb.mono HB.out.size))
    have HDR := kept (fun (W : World) (hb : Below w1.heap.size w1 W) => Elem.Rd.below (Elem.Rd.below hDR HB.out) (hb.mono HB.out.size))
    have HLR := kept HL.out.2
    clear hTK hDR hf hy hyc HK q2 q3
    have O1 := kept (two_o1 cardE 38 w1)
    have hb1 : Below w1.heap.size w1 (w1.alloc (.cells #[] 38)).drew := ((Below.refl _ _).alloc (Nat.le_refl _) _).drew
    have R1 := kept (HTK.out _ hb1)
    have hm1 : i = (l.take i).length := by rw [List.length_take]; omega
    have hm2 : l.length - (i + 1) = (l.drop (i + 1)).length := by rw [List.length_drop]
    have HM1 := kept hm1
    have HM2 := kept hm2
    have HZ1 : Kept ((([] : List CardM).length + (l.take i).length) * 32 ≤ 140737488355328) := ⟨by rw [← hm1]; simp only [List.length_nil]; omega⟩
    have HZ2 : Kept (∀ r2 : List CardM, Kept (r2 = [] ++ l.take i) → (r2.length + (l.drop (i + 1)).length) * 32 ≤ 140737488355328) := ⟨fun r2 h => by rw [h.out, ← hm2, List.nil_append, ← hm1]; omega⟩
    have HBX2 : Kept (∀ w2 : World, (∀ S : Nat → Prop, (∀ k, (Value.slice (some ⟨w1.heap.size, 0, none⟩) 0 0).ownBlock = some k → S k) → Upd S (w1.alloc (.cells #[] 38)).drew w2) → Below w1.heap.size w1 w2) := ⟨fun w2 hu => hb1.trans ((hu (fun k => k = w1.heap.size) (fun k hk => (Option.some.inj hk).symm)).below hb1.size (fun i _ e => by omega))⟩
    clear hm1 hm2 hb1
    have bq1 : i ≤ c := by omega
    have bq2 : (i : Int) + 1 ≤ (l.length : Int) := by omega
    have bq3 : i + 1 ≤ l.length := by omega
    have bq4 : (0 : Int) ≤ (i : Int) + 1 := by omega
    have bq5 : ((i : Int) + 1).toNat = i + 1 := by omega
    go_upto_region 13 with fail
    generalize l.take i = tl at *
    generalize l.drop (i + 1) = dl at *
    go_region_law (first
      | (refine step_appEU _ cardE (by rfl) (.tmp 45) (.tmp 48) 22 (by rfl) w1.heap.size 38 Try.underlying22 card_info (by rfl) _ [] (by rfl) O1.out _ (some ⟨b1, o1, none⟩) i c tl (by rfl) HM1.out R1.out HZ1.out (by decide) (by simp) ?_; intro A2 c2 w2 r2 hr2 hown2 hu2 hx2; have HB2 := kept (HBX2.out _ hu2); have R2 := HDR.out w2 HB2.out; have hz2 := HZ2.out r2 hr2; have HS2 := HB2.out.size; clear hx2)
      | (refine step_appEU _ cardE (by rfl) (.tmp 49) (.tmp 53) 22 (by rfl) w1.heap.size 38 Try.underlying22 card_info (by rfl) _ r2 (by rfl) hown2 _ (if c = i + 1 then some ⟨b1, o1, none⟩ else some ⟨b1, o1 + (i + 1) * 2, none⟩) (l.length - (i + 1)) (c - (i + 1)) dl (by rfl) HM2.out R2 hz2 (by decide) HS2 ?_; intro A3 c3 w3 r3 hr3 hown3 hu3 hx3; have HB3 : Below w1.heap.size w1 w3 := two_below HB2.out hown2 hu3; clear hu3 hx3))
    all_goals go_wp2_with fail
    all_goals
      first | go_ret | go_ret2
      rw [HO.out]
      have hr4 : r3 = l.eraseIdx i := by rw [HER.out, hr3.out, hr2.out]; simp
      have hb4 : Below w.heap.size w w3 := HB.out.trans (HB3.mono HB.out.size)
      refine ⟨A3, c3, r3, rfl, hown3.cap, ⟨hown3.rd, fun q hq => ?_⟩, fun _ => by rw [hr4], hb4⟩
      rw [hr4, HER.out] at hq
      exact (HLR.out q (HMT.out q hq)).next hb4
end Go.Proofs.Ytnmcclkpgbdenaa.Chg
