/- Layer 50 (change): the laws ChangeDiffs and ChangeApplies. -/
import Derived.Test.YtnmcclkpgbdenaaChgWorks
import Derived.Test.YtnmcclkpgbdenaaChgRApply
import Derived.Test.YtnmcclkpgbdenaaChgRDiff
import Derived.Test.YtnmcclkpgbdenaaChgSame
import Derived.Test.YtnmcclkpgbdenaaChgFew
namespace Go.Proofs.Ytnmcclkpgbdenaa.Chg
open Go.RowKit Go.Proofs.Ytnmcclkpgbdenaa.Mem Go.Proofs.Ytnmcclkpgbdenaa.Card

set_option maxRecDepth 100000 in
set_option maxHeartbeats 4000000 in
theorem diffs_law (X Y : Option Addr) (l1 l2 : List CardM) (c1 c2 : Nat) (w : World) (h1 : RdCards w w.heap.size X l1) (h2 : RdCards w w.heap.size Y l2) (hc1 : l1.length ≤ c1) (hc2 : l2.length ≤ c2) (hb1 : c1 ≤ 4398046511104) (hb2 : c2 ≤ 4398046511104)
    (t1 : ∀ y ∈ l1, ∀ u ∈ y.ls, u.t.size ≤ 140737488355328 ∧ ∀ q ∈ u.m, q.size ≤ 9223372036854775807) (t2 : ∀ y ∈ l2, ∀ u ∈ y.ls, u.t.size ≤ 140737488355328 ∧ ∀ q ∈ u.m, q.size ≤ 9223372036854775807) :
    Calls Try.prog 3 #[.slice X l1.length c1, .slice Y l2.length c2] w fun e w' => e = .returned (.bool true) ∧ Below w.heap.size w w' := by
  have CF1 := kept (few_any X l1 c1 w h1 (by omega))
  have CF2 := kept (few_any Y l2 c2 w h2 (by omega))
  have H1 := kept h1
  have H2 := kept h2
  have T1 : Kept (∀ y ∈ l1, ∀ u ∈ y.ls, u.t.size ≤ 9223372036854775807 ∧ ∀ q ∈ u.m, q.size ≤ 9223372036854775807) := ⟨fun y hy u hu => ⟨by have := (t1 y hy u hu).1; omega, (t1 y hy u hu).2⟩⟩
  have T2 : Kept (∀ y ∈ l2, ∀ u ∈ y.ls, u.t.size ≤ 9223372036854775807 ∧ ∀ q ∈ u.m, q.size ≤ 9223372036854775807) := ⟨fun y hy u hu => ⟨by have := (t2 y hy u hu).1; omega, (t2 y hy u hu).2⟩⟩
  have HF1 : Kept (decide (fewC l1) = true → l1.length ≤ 25) := ⟨fun h => (of_decide_eq_true h).1⟩
  have HF2 : Kept (decide (fewC l2) = true → l2.length ≤ 25) := ⟨fun h => (of_decide_eq_true h).1⟩
  have HC1 := kept hc1
  have CW := kept (fun W : World => chworks_any W)
  clear h1 h2 t1 t2 hc1 hc2 hb1 hb2
  generalize decide (fewC l1) = f1 at *
  generalize decide (fewC l2) = f2 at *
  cases f1 with
  | false =>
    go_enter Try.func3, Try.ntmps3
    go_wp2_with fail
    refine CF1.out.mono ?_
    rintro e w1 ⟨rfl, rfl⟩
    go_wp2_with fail
    refine (CW.out _).mono ?_
    rintro e w2 ⟨rfl, hb⟩
    go_wp2_with fail
    go_ret
    exact ⟨rfl, hb⟩
  | true =>
    cases f2 with
    | false =>
      go_enter Try.func3, Try.ntmps3
      go_wp2_with fail
      refine CF1.out.mono ?_
      rintro e w1 ⟨rfl, rfl⟩
      go_wp2_with fail
      refine CF2.out.mono ?_
      rintro e w1 ⟨rfl, rfl⟩
      go_wp2_with fail
      refine (CW.out _).mono ?_
      rintro e w2 ⟨rfl, hb⟩
      go_wp2_with fail
      go_ret
      exact ⟨rfl, hb⟩
    | true =>
      have hn1 := HF1.out rfl
      have hn2 := HF2.out rfl
      have CG := kept (good_any X l1 c1 w H1.out (by omega))
      have CR := kept (fun (W : World) (hb : Below w.heap.size w W) => rgoodl_any X l1 c1 W (H1.out.next hb) (by omega) T1.out)
      have CD := kept (fun (W : World) (hb : Below w.heap.size w W) => diff_any X Y l1 l2 c1 c2 W (H1.out.next hb) (H2.out.next hb) hn1 hn2 HC1.out)
      have CE := kept (fun (W : World) (hb : Below w.heap.size w W) => rdiff_any X Y l1 l2 c1 c2 W (H1.out.next hb) (H2.out.next hb) hn1 hn2 T1.out T2.out)
      have HPL : Kept ((if goodL l1 && goodL l2 then diffM l1 l2 else []).length ≤ 1000) := ⟨by
        split
        · have := diff_len _ l1 l2 (Nat.le_refl _); omega
        · simp⟩
      generalize (if goodL l1 && goodL l2 then diffM l1 l2 else []) = pl at *
      generalize goodL l1 = g1 at *
      go_enter Try.func3, Try.ntmps3
      go_wp2_with fail
      refine CF1.out.mono ?_
      rintro e w1 ⟨rfl, rfl⟩
      go_wp2_with fail
      refine CF2.out.mono ?_
      rintro e w1 ⟨rfl, rfl⟩
      clear CF1 CF2
      go_wp2_with fail
      refine CG.out.mono ?_
      rintro e w1 ⟨rfl, hb1⟩
      have HB1 := kept hb1
      clear hb1
      go_wp2_with fail
      refine (CR.out _ HB1.out).mono ?_
      rintro e w2 ⟨rfl, hb2⟩
      have HB2 := kept (HB1.out.trans (hb2.mono HB1.out.size))
      clear hb2
      go_wp2_with fail
      refine (CD.out _ HB2.out).mono ?_
      rintro e w3 ⟨A3, c3, cs3, rfl, hp3, hown3, hb3⟩
      have HB3 := kept (HB2.out.trans (hb3.mono HB2.out.size))
      have HR3 := kept hown3.rd
      have HP3 := kept hp3
      clear hb3 hown3 hp3
      go_wp2_with fail
      refine (CE.out _ HB3.out).mono ?_
      rintro e w4 ⟨A4, c4, cs4, rfl, hp4, hown4, hok4, hb4⟩
      have HB4 := kept (HB3.out.trans (hb4.mono HB3.out.size))
      have HR3 := kept (HR3.out.next hb4)
      have hr4 : RdChs w4 w4.heap.size A4 cs4 := ⟨hown4.rd, fun x hx => ((hok4 x hx).below hb4).more hb4.size⟩
      have CSM := kept (chsame_any A3 A4 cs3 cs4 c3 c4 w4 HR3.out hr4 (HP3.out.trans hp4.symm) (by have := congrArg List.length HP3.out; have := HPL.out; simp at *; omega))
      clear hb4 hown4 hp4 hok4 hr4
      go_wp2_with fail
      refine CSM.out.mono ?_
      rintro e w5 ⟨rfl, hb5⟩
      have HB5 := kept (HB4.out.trans (hb5.mono HB4.out.size))
      clear hb5 CSM
      go_wp2_with fail
      refine (CW.out _).mono ?_
      rintro e w6 ⟨rfl, hb6⟩
      go_wp2_with fail
      go_ret
      exact ⟨rfl, HB5.out.trans (hb6.mono HB5.out.size)⟩
end Go.Proofs.Ytnmcclkpgbdenaa.Chg
