/- Layer 50 (change): change.one. (printed by tools/genoc.py) -/
import Derived.Test.YtnmcclkpgbdenaaChgInsC
import Derived.Test.YtnmcclkpgbdenaaChgWith
import Derived.Test.YtnmcclkpgbdenaaSet27
import Derived.Test.YtnmcclkpgbdenaaSet16
import Derived.BigQuiet
import Derived.Deep.RegionHeld3
import Derived.Deep.DeepCutAuto
namespace Go.Proofs.Ytnmcclkpgbdenaa.Chg
open Go.RowKit Go.Proofs.Ytnmcclkpgbdenaa.Mem Go.Proofs.Ytnmcclkpgbdenaa.Card

/-- cards of the call's own, in a row of its own, from block 'base' on -/
def CsOwn (w : World) (base : Nat) (A : Option Addr) (c : Nat) (l : List CardM) : Prop := cardE.Own w base 38 (.slice A l.length c) l ∧ ∀ y ∈ l, y.Fresh w base
section
variable {w w' : World} {base : Nat} {A A2 : Option Addr} {c c2 : Nat} {l l2 : List CardM}
theorem CsOwn.next (h : CsOwn w base A c l) (hb : Below w.heap.size w w') : CsOwn w' base A c l := ⟨h.1.next hb, fun y hy => (h.2 y hy).below hb (Nat.le_refl _)⟩
theorem CsOwn.rd (h : CsOwn w base A c l) : RdCards w w.heap.size A l := ⟨h.1.rd, fun y hy => (h.2 y hy).ok⟩
theorem CsOwn.nil (w : World) (base : Nat) : CsOwn w base none 0 [] := ⟨Elem.Own.nilv _ _ _ _, fun y hy => by cases hy⟩
theorem Fresh.turnC {y : CardM} (h : y.Fresh w base) {v : Value} {b : Nat} {cs : List CardM} (ho : cardE.Own w b 38 v cs) (hu : Upd (fun k => v.ownBlock = some k) w w') : y.Fresh w' base :=
  ⟨h.1, h.2.1.upd hu fun k hk e => own_apart h.2.1 ho (by decide) k hk e, h.2.2.1, fun z hz => ⟨(h.2.2.2 z hz).1, (h.2.2.2 z hz).2.1, (h.2.2.2 z hz).2.2.upd hu fun k hk e => own_apart (h.2.2.2 z hz).2.2 ho (by decide) k hk e⟩⟩
theorem CsOwn.under (h : CsOwn w base A c l) (hu : Upd (fun k => (Value.slice A l.length c).ownBlock = some k) w w') (hb : base ≤ w.heap.size) : Below base w w' := hu.below hb fun k _ hk => (OwnK.under h.1 k hk).1
theorem CsOwn.turn (h : CsOwn w base A c l) (hu : Upd (fun k => (Value.slice A l.length c).ownBlock = some k) w w') (ho : cardE.Own w' base 38 (.slice A2 l2.length c2) l2) (hl : ∀ y ∈ l2, y.Fresh w base) : CsOwn w' base A2 c2 l2 := ⟨ho, fun y hy => Fresh.turnC (hl y hy) h.1 hu⟩
/-- slices.Delete of one card -/
theorem del_any {i : Nat} (h : CsOwn w base A c l) (hi : i < l.length) (hc : l.length ≤ 512) :
    Calls Try.prog 83 #[.slice A l.length c, .int .i64 (i : Int), .int .i64 ((i : Int) + 1)] w fun e w' => (∃ A2, e = .returned (.slice A2 (l.eraseIdx i).length c) ∧ CsOwn w' base A2 c (l.eraseIdx i)) ∧ Upd (fun k => (Value.slice A l.length c).ownBlock = some k) w w' := by
  obtain ⟨r, rfl, hbr, hrw, -, -, -⟩ := h.1.spot (i := i) (j := 0) (List.getElem?_eq_getElem hi) rfl
  obtain ⟨m, hm⟩ : ∃ m, l.length = i + 1 + m := ⟨l.length - (i + 1), by omega⟩
  have hl2 : (l.eraseIdx i).length = i + m := by rw [List.length_eraseIdx, if_pos hi]; omega
  have ho := h.1
  rw [hm] at ho
  have hd := del_at base r i m c l w hm ho hc
  rw [hm, hl2]
  refine hd.mono ?_
  rintro e w' ⟨rfl, h1, h2⟩
  have hu : Upd (fun k => (Value.slice (some ⟨r, 0, none⟩) l.length c).ownBlock = some k) w w' := h2.mono fun k _ e => congrArg some e.symm
  have h1' : cardE.Own w' base 38 (.slice (some ⟨r, 0, none⟩) (l.eraseIdx i).length c) (l.eraseIdx i) := by rw [hl2]; exact h1
  exact ⟨⟨_, rfl, h.turn hu h1' fun y hy => h.2 y ((List.eraseIdx_sublist l i).subset hy)⟩, h2.mono fun k _ e => congrArg some e.symm⟩
end
/-- a list and an error's number, as the law tells them -/
def GivesO (w : World) (base : Nat) (r : List CardM × Nat) (en : Ending) (w' : World) : Prop :=
  ∃ A c l, en = .returned (.tuple #[.slice A (List.length l) c, .int .i64 (r.2 : Int)]) ∧ CsOwn w' base A c l ∧ l.map CardM.p = r.1.map CardM.p ∧ Below base w w'
theorem givesO_err {w w' : World} {base e : Nat} (h : Below base w w') : GivesO w base ([], e) (.returned (.tuple #[.slice none 0 0, .int .i64 (e : Int)])) w' := ⟨none, 0, [], rfl, CsOwn.nil _ _, rfl, h⟩
set_option maxRecDepth 100000 in
set_option maxHeartbeats 4000000 in
theorem one_bad (base : Nat) (A : Option Addr) (c : Nat) (l : List CardM) (x : ChM) (w : World) (hl : CsOwn w base A c l) (hx : x.Ok w base) (hbs : base ≤ w.heap.size) (hg : goodL l = true) (hbd : BdC 40 l) (hk : x.k < 1 ∨ 4 < x.k) :
    Calls Try.prog 46 #[.slice A l.length c, x.val] w (GivesO w base (oneM l x)) := by
  obtain ⟨xk, ⟨xcid, xX, xls, xc⟩, ⟨xf, xt, xA, xm, xmc⟩⟩ := x
  have HKK := kept hk
  clear hk
  have hs := good_sorted hg
  have hln : l.length ≤ 65 := hbd.1
  have HX := kept hx
  have HL0 := kept hl
  have HG := kept hg
  have HBD := kept hbd
  have CA := kept (fun (W : World) (hb : Below w.heap.size w W) => at_any A l c xcid W (hl.rd.next hb) hs (by omega))
  have hb0 : Below w.heap.size w (w.alloc (.cells #[.int .u8 (xk : Int), .int .u64 (xcid : Int), .slice xX xls.length xc, .int .u8 (xf : Int), .string xt, .slice xA xm.length xmc] 79)) := (Below.refl _ _).alloc (Nat.le_refl _) _
  have HK0 := kept (Blk.new w [.int .u8 (xk : Int), .int .u64 (xcid : Int), .slice xX xls.length xc, .int .u8 (xf : Int), .string xt, .slice xA xm.length xmc] 79)
  clear hx hl hg hbd
  unfold ChM.val
  dsimp only
  dsimp only at HKK
  go_enter Try.func46, Try.ntmps46
  go_wp2_with fail
  refine (CA.out _ hb0).mono ?_
  rintro e w1 ⟨⟨i, rfl, hpos⟩, hb1⟩
  have HL := kept (HL0.out.next (hb0.trans (hb1.mono hb0.size)))
  have HK := kept (HK0.out.next hb1)
  have hbb : Below w.heap.size w w1 := hb0.trans (hb1.mono hb0.size)
  have HB := kept (hbb.mono hbs)
  have HF := kept (find_pos hs hpos)
  have HPS := kept hpos
  have HS := kept hs
  have hbw : base ≤ w1.heap.size := Nat.le_trans hbs hbb.size
  have q0 := HK.out.cell (j := 0) rfl
  have q1 := HK.out.cell (j := 1) rfl
  have q2 := HK.out.cell (j := 2) rfl
  have q3 := HK.out.cell (j := 3) rfl
  clear hb1 hb0 hbb HK0 HL0 CA hpos hs
  have hO : oneM l ⟨xk, ⟨xcid, xX, xls, xc⟩, ⟨xf, xt, xA, xm, xmc⟩⟩ = ([], 4) := if_pos HKK.out
  have HO := kept hO
  have hk := HKK.out
  clear hO HF HKK
  by_cases h0 : xk < 1
  · have d1 : decide ((xk : Int) < 1) = true := decide_eq_true (by omega)
    go_wp2_with fail
    first | go_ret | go_ret2
    rw [HO.out]
    exact givesO_err HB.out
  · have d1 : decide ((xk : Int) < 1) = false := decide_eq_false (by omega)
    have d2 : decide (4 < (xk : Int)) = true := decide_eq_true (by omega)
    go_wp2_with fail
    first | go_ret | go_ret2
    rw [HO.out]
    exact givesO_err HB.out
set_option maxRecDepth 100000 in
set_option maxHeartbeats 4000000 in
theorem one_new (base : Nat) (A : Option Addr) (c : Nat) (l : List CardM) (x : ChM) (w : World) (hl : CsOwn w base A c l) (hx : x.Ok w base) (hbs : base ≤ w.heap.size) (hg : goodL l = true) (hbd : BdC 40 l) (hk : x.k = 1) :
    Calls Try.prog 46 #[.slice A l.length c, x.val] w (GivesO w base (oneM l x)) := by
  obtain ⟨xk, ⟨xcid, xX, xls, xc⟩, ⟨xf, xt, xA, xm, xmc⟩⟩ := x
  have HKK := kept hk
  clear hk
  have hs := good_sorted hg
  have hln : l.length ≤ 65 := hbd.1
  have HX := kept hx
  have HL0 := kept hl
  have HG := kept hg
  have HBD := kept hbd
  have CA := kept (fun (W : World) (hb : Below w.heap.size w W) => at_any A l c xcid W (hl.rd.next hb) hs (by omega))
  have hb0 : Below w.heap.size w (w.alloc (.cells #[.int .u8 (xk : Int), .int .u64 (xcid : Int), .slice xX xls.length xc, .int .u8 (xf : Int), .string xt, .slice xA xm.length xmc] 79)) := (Below.refl _ _).alloc (Nat.le_refl _) _
  have HK0 := kept (Blk.new w [.int .u8 (xk : Int), .int .u64 (xcid : Int), .slice xX xls.length xc, .int .u8 (xf : Int), .string xt, .slice xA xm.length xmc] 79)
  clear hx hl hg hbd
  unfold ChM.val
  dsimp only
  dsimp only at HKK
  go_enter Try.func46, Try.ntmps46
  go_wp2_with fail
  refine (CA.out _ hb0).mono ?_
  rintro e w1 ⟨⟨i, rfl, hpos⟩, hb1⟩
  have HL := kept (HL0.out.next (hb0.trans (hb1.mono hb0.size)))
  have HK := kept (HK0.out.next hb1)
  have hbb : Below w.heap.size w w1 := hb0.trans (hb1.mono hb0.size)
  have HB := kept (hbb.mono hbs)
  have HF := kept (find_pos hs hpos)
  have HPS := kept hpos
  have HS := kept hs
  have hbw : base ≤ w1.heap.size := Nat.le_trans hbs hbb.size
  have q0 := HK.out.cell (j := 0) rfl
  have q1 := HK.out.cell (j := 1) rfl
  have q2 := HK.out.cell (j := 2) rfl
  have q3 := HK.out.cell (j := 3) rfl
  clear hb1 hb0 hbb HK0 HL0 CA hpos hs
  obtain rfl := HKK.out
  clear HKK
  have q0 : w1.cell? ⟨w.heap.size, 0, none⟩ = some (.int .u8 1) := q0
  cases hat : isAt l xcid i with
  | true =>
    have hO : oneM l ⟨1, ⟨xcid, xX, xls, xc⟩, ⟨xf, xt, xA, xm, xmc⟩⟩ = ([], 7) := by
      have h1 := HF.out
      rw [hat] at h1
      simp [oneM, h1]
    have HO := kept hO
    clear hO HF
    go_wp2_with fail
    first | go_ret | go_ret2
    rw [HO.out]
    exact givesO_err HB.out
  | false =>
    have h1 := HF.out
    rw [hat] at h1
    have CG := kept (cgood_any ⟨xcid, xX, xls, xc⟩ w1 (HX.out.2.1.more hbs |>.next (Below.refl _ _) |> fun _ => (HX.out.2.1.below HB.out).more hbw))
    cases hgd : cardGood ⟨xcid, xX, xls, xc⟩ with
    | false =>
      rw [hgd] at CG
      have hO : oneM l ⟨1, ⟨xcid, xX, xls, xc⟩, ⟨xf, xt, xA, xm, xmc⟩⟩ = ([], 4) := by simp [oneM, h1, hgd]
      have HO := kept hO
      clear hO HF h1 hat hgd
      unfold CardM.val at CG
      go_wp2_with fail
      refine CG.out.mono ?_
      rintro e w2 ⟨rfl, hb2⟩
      go_wp2_with fail
      first | go_ret | go_ret2
      rw [HO.out]
      exact givesO_err (HB.out.trans (hb2.mono hbw))
    | true =>
      rw [hgd] at CG
      have HO : Kept (oneM l ⟨1, ⟨xcid, xX, xls, xc⟩, ⟨xf, xt, xA, xm, xmc⟩⟩ = (l.take i ++ (⟨xcid, xX, xls, xc⟩ : CardM) :: l.drop i, 0)) := ⟨by
        rw [← put_new HS.out HPS.out hat]
        simp [oneM, h1, hgd]⟩
      clear HF h1 hat hgd
      unfold CardM.val at CG
      go_wp2_with fail
      refine CG.out.mono ?_
      rintro e w2 ⟨rfl, hb2⟩
      have HL2 := kept (HL.out.next hb2)
      have HK2 := kept (HK.out.next hb2)
      have HB2 := kept (HB.out.trans (hb2.mono hbw))
      have hbw2 : base ≤ w2.heap.size := Nat.le_trans hbw hb2.size
      clear hb2 CG HL HK HB q0 q1 q2 q3
      have q0 := HK2.out.cell (j := 0) rfl
      have q1 := HK2.out.cell (j := 1) rfl
      have q2 := HK2.out.cell (j := 2) rfl
      have CC := kept (copy_any ⟨xcid, xX, xls, xc⟩ w2 ((HX.out.2.1.below HB2.out).more hbw2))
      unfold CardM.val at CC
      go_wp2_with fail
      refine CC.out.mono ?_
      rintro e w3 ⟨⟨ycid, yX, yls, yc⟩, rfl, hyp, hyf, hb3⟩
      have HL3 := kept (HL2.out.next hb3)
      have HB3 := kept (HB2.out.trans (hb3.mono hbw2))
      have hbw3 : base ≤ w3.heap.size := Nat.le_trans hbw2 hb3.size
      have HYP := kept hyp
      have HYF := kept (hyf.mono hbw2)
      clear hb3 CC HL2 HK2 HB2 q0 q1 q2 hyp hyf
      have hbA : Below w3.heap.size w3 (w3.alloc (.cells #[.int .u64 (ycid : Int), .slice yX yls.length yc] 38)) := (Below.refl _ _).alloc (Nat.le_refl _) _
      have HL4 := kept (HL3.out.next hbA)
      have HYF4 := kept (CardM.Fresh.below HYF.out hbA (Nat.le_refl _))
      have HB4 := kept (HB3.out.trans (hbA.mono hbw3))
      have hbw4 : base ≤ (w3.alloc (.cells #[.int .u64 (ycid : Int), .slice yX yls.length yc] 38)).heap.size := Nat.le_trans hbw3 hbA.size
      have CI := kept (insc_any base A c i w3.heap.size l ⟨ycid, yX, yls, yc⟩ 38 _ HL4.out.1 (Blk.new w3 [.int .u64 (ycid : Int), .slice yX yls.length yc] _) (fun k hk => by have := (OwnK.under HL3.out.1 k hk).2; omega) HPS.out.1 hbw4 (by omega))
      clear hbA
      have HML : Kept (∀ ml, ml = l.take i ++ (⟨ycid, yX, yls, yc⟩ : CardM) :: l.drop i → (∀ y ∈ ml, y = ⟨ycid, yX, yls, yc⟩ ∨ y ∈ l) ∧ ml.map CardM.p = (l.take i ++ (⟨xcid, xX, xls, xc⟩ : CardM) :: l.drop i).map CardM.p) := ⟨fun ml e => by
        subst e
        refine ⟨fun y hy => ?_, by rw [List.map_append, List.map_append, List.map_cons, List.map_cons, HYP.out]⟩
        rcases List.mem_append.1 hy with h | h
        · exact .inr (List.mem_of_mem_take h)
        · rcases List.mem_cons.1 h with h | h
          · exact .inl h
          · exact .inr (List.mem_of_mem_drop h)⟩
      obtain ⟨ml, hml⟩ : ∃ ml, ml = l.take i ++ (⟨ycid, yX, yls, yc⟩ : CardM) :: l.drop i := ⟨_, rfl⟩
      rw [← hml] at CI
      have HM2 := kept (HML.out ml hml)
      clear HML hml
      unfold CardM.val
      dsimp only
      go_wp2_with fail
      refine CI.out.mono ?_
      rintro e w5 ⟨A5, c5, rfl, ho5, hu5⟩
      go_wp2_with fail
      first | go_ret | go_ret2
      rw [HO.out]
      exact ⟨A5, c5, ml, rfl, HL4.out.turn hu5 ho5 (fun y hy => by
        rcases HM2.out.1 y hy with rfl | h
        · exact HYF4.out
        · exact HL4.out.2 y h), HM2.out.2, HB4.out.trans (HL4.out.under hu5 hbw4)⟩
set_option maxRecDepth 100000 in
set_option maxHeartbeats 4000000 in
theorem one_gone (base : Nat) (A : Option Addr) (c : Nat) (l : List CardM) (x : ChM) (w : World) (hl : CsOwn w base A c l) (hx : x.Ok w base) (hbs : base ≤ w.heap.size) (hg : goodL l = true) (hbd : BdC 40 l) (hk : x.k = 2) :
    Calls Try.prog 46 #[.slice A l.length c, x.val] w (GivesO w base (oneM l x)) := by
  obtain ⟨xk, ⟨xcid, xX, xls, xc⟩, ⟨xf, xt, xA, xm, xmc⟩⟩ := x
  have HKK := kept hk
  clear hk
  have hs := good_sorted hg
  have hln : l.length ≤ 65 := hbd.1
  have HX := kept hx
  have HL0 := kept hl
  have HG := kept hg
  have HBD := kept hbd
  have CA := kept (fun (W : World) (hb : Below w.heap.size w W) => at_any A l c xcid W (hl.rd.next hb) hs (by omega))
  have hb0 : Below w.heap.size w (w.alloc (.cells #[.int .u8 (xk : Int), .int .u64 (xcid : Int), .slice xX xls.length xc, .int .u8 (xf : Int), .string xt, .slice xA xm.length xmc] 79)) := (Below.refl _ _).alloc (Nat.le_refl _) _
  have HK0 := kept (Blk.new w [.int .u8 (xk : Int), .int .u64 (xcid : Int), .slice xX xls.length xc, .int .u8 (xf : Int), .string xt, .slice xA xm.length xmc] 79)
  clear hx hl hg hbd
  unfold ChM.val
  dsimp only
  dsimp only at HKK
  go_enter Try.func46, Try.ntmps46
  go_wp2_with fail
  refine (CA.out _ hb0).mono ?_
  rintro e w1 ⟨⟨i, rfl, hpos⟩, hb1⟩
  have HL := kept (HL0.out.next (hb0.trans (hb1.mono hb0.size)))
  have HK := kept (HK0.out.next hb1)
  have hbb : Below w.heap.size w w1 := hb0.trans (hb1.mono hb0.size)
  have HB := kept (hbb.mono hbs)
  have HF := kept (find_pos hs hpos)
  have HPS := kept hpos
  have HS := kept hs
  have hbw : base ≤ w1.heap.size := Nat.le_trans hbs hbb.size
  have q0 := HK.out.cell (j := 0) rfl
  have q1 := HK.out.cell (j := 1) rfl
  have q2 := HK.out.cell (j := 2) rfl
  have q3 := HK.out.cell (j := 3) rfl
  clear hb1 hb0 hbb HK0 HL0 CA hpos hs
  obtain rfl := HKK.out
  clear HKK
  have q0 : w1.cell? ⟨w.heap.size, 0, none⟩ = some (.int .u8 2) := q0
  cases hat : isAt l xcid i with
  | false =>
    have hO : oneM l ⟨2, ⟨xcid, xX, xls, xc⟩, ⟨xf, xt, xA, xm, xmc⟩⟩ = ([], 6) := by
      have h1 := HF.out
      rw [hat] at h1
      simp [oneM, h1]
    have HO := kept hO
    clear hO HF
    go_wp2_with fail
    first | go_ret | go_ret2
    rw [HO.out]
    exact givesO_err HB.out
  | true =>
    have hlt : i < l.length := by
      unfold isAt at hat
      cases hi : l[i]? with
      | none => rw [hi] at hat; cases hat
      | some y => exact (List.getElem?_eq_some_iff.1 hi).1
    have HO : Kept (oneM l ⟨2, ⟨xcid, xX, xls, xc⟩, ⟨xf, xt, xA, xm, xmc⟩⟩ = (l.eraseIdx i, 0)) := ⟨by
      have h1 := HF.out
      rw [hat] at h1
      simp [oneM, h1]⟩
    clear HF
    have CD := kept (del_any HL.out hlt (by omega))
    have hw1 : IntKind.i64.wrap ((i : Int) + 1) = (i : Int) + 1 := by rw [IntKind.wrap_i64]; omega
    go_wp2_with fail
    refine CD.out.mono ?_
    rintro e w2 ⟨⟨A2, rfl, hl2⟩, hu2⟩
    go_wp2_with fail
    first | go_ret | go_ret2
    rw [HO.out]
    exact ⟨A2, c, _, rfl, hl2, rfl, HB.out.trans (HL.out.under hu2 hbw)⟩
end Go.Proofs.Ytnmcclkpgbdenaa.Chg
