/- The walks of layer 46, continued: Same of both (written by a small program of this claim's). -/
import Derived.Test.YtpimncboebggkaaDoorPhoneEnds
namespace Go.Proofs.YtpimncboebggkaaDoor.Phone
open Go.RowKit Go.Proofs.YtpimncboebggkaaDoor.Mem Go.Proofs.YtpimncboebggkaaDoor.Card Go.Proofs.YtpimncboebggkaaDoor.Laid Go.Proofs.YtpimncboebggkaaDoor.Fold

def sameB (a b : ByteArray) : Bool := same a.data.toList b.data.toList
theorem same_any (a b : ByteArray) (w : World) (ha : a.size ≤ 4294967000) (hb : b.size ≤ 4294967000) : Calls Tryd.prog 15 #[.string a, .string b] w fun e w' => e = .returned (.bool (sameB a b)) ∧ Below w.heap.size w w' := by
  have C1 := kept (norm_any a w ha)
  have C2 := kept (fun W => norm_any b W hb)
  have HS : Kept (sameB a b = (match norm a.data.toList, norm b.data.toList with | some x, some y => x == y || ends x y || ends y x | _, _ => false)) := ⟨rfl⟩
  have HA0 := kept (fun h => normB_none (s := a) h)
  have HA1 := kept (fun x h => normB_some (s := a) (x := x) h)
  have HB0 := kept (fun h => normB_none (s := b) h)
  have HB1 := kept (fun x h => normB_some (s := b) (x := x) h)
  have NA := kept (fun x h => norm_nf (s := a.data.toList) (x := x) h)
  have NB := kept (fun x h => norm_nf (s := b.data.toList) (x := x) h)
  cases hA : norm a.data.toList with
  | none =>
    have HR : Kept (sameB a b = false) := ⟨by rw [HS.out, hA]⟩
    obtain ⟨e1, e2⟩ := HA0.out hA
    rw [e1, e2] at C1
    generalize normB b = y at *
    generalize normOk b = yo at *
    clear HS HA0 HA1 HB0 HB1 NA NB hA e1 e2
    go_enter Tryd.func15, Tryd.ntmps15
    go_wp2_with fail
    refine C1.out.mono ?_
    rintro e w1 ⟨rfl, hb1⟩
    go_wp2_with fail
    refine (C2.out _).mono ?_
    rintro e w2 ⟨rfl, hb2⟩
    have hb2 := below_ch hb1 hb2
    go_wp2_with fail
    go_ret
    exact ⟨by rw [HR.out]; rfl, hb2⟩
  | some x =>
    obtain ⟨e1, e2⟩ := HA1.out x hA
    rw [e1, e2] at C1
    cases hB : norm b.data.toList with
    | none =>
      have HR : Kept (sameB a b = false) := ⟨by rw [HS.out, hA, hB]⟩
      obtain ⟨e3, e4⟩ := HB0.out hB
      rw [e3, e4] at C2
      clear HS HA0 HA1 HB0 HB1 NA NB hA hB e1 e2 e3 e4
      go_enter Tryd.func15, Tryd.ntmps15
      go_wp2_with fail
      refine C1.out.mono ?_
      rintro e w1 ⟨rfl, hb1⟩
      go_wp2_with fail
      refine (C2.out _).mono ?_
      rintro e w2 ⟨rfl, hb2⟩
      have hb2 := below_ch hb1 hb2
      go_wp2_with fail
      go_ret
      exact ⟨by rw [HR.out]; rfl, hb2⟩
    | some y =>
      obtain ⟨e3, e4⟩ := HB1.out y hB
      rw [e3, e4] at C2
      have nx : NFB (bOf x) := by unfold NFB; rw [data_bOf]; exact NA.out x hA
      have ny : NFB (bOf y) := by unfold NFB; rw [data_bOf]; exact NB.out y hB
      have L1 := kept (fun W => local_any (bOf x) (bOf y) W nx ny)
      have L2 := kept (fun W => local_any (bOf y) (bOf x) W ny nx)
      have HR : Kept (sameB a b = (decide (bOf x = bOf y) || endsB (bOf x) (bOf y) || endsB (bOf y) (bOf x))) := ⟨by
        rw [HS.out, hA, hB]
        unfold endsB
        rw [data_bOf, data_bOf]
        have : decide (bOf x = bOf y) = (x == y) := by rw [Bool.eq_iff_iff, decide_eq_true_eq, beq_iff_eq]; exact ⟨bOf_inj, fun h => by rw [h]⟩
        rw [this]⟩
      have hq := str_beq (bOf x) (bOf y)
      clear HS HA0 HA1 HB0 HB1 NA NB hA hB e1 e2 e3 e4 nx ny
      generalize endsB (bOf x) (bOf y) = r1 at *
      generalize endsB (bOf y) (bOf x) = r2 at *
      generalize decide (bOf x = bOf y) = r0 at *
      cases r0 with
      | true =>
        go_enter Tryd.func15, Tryd.ntmps15
        go_wp2_with fail
        refine C1.out.mono ?_
        rintro e w1 ⟨rfl, hb1⟩
        go_wp2_with fail
        refine (C2.out _).mono ?_
        rintro e w2 ⟨rfl, hb2⟩
        have hb2 := below_ch hb1 hb2
        go_wp2_with fail
        go_ret
        exact ⟨by rw [HR.out]; rfl, hb2⟩
      | false =>
        cases r1 with
        | true =>
          go_enter Tryd.func15, Tryd.ntmps15
          go_wp2_with fail
          refine C1.out.mono ?_
          rintro e w1 ⟨rfl, hb1⟩
          go_wp2_with fail
          refine (C2.out _).mono ?_
          rintro e w2 ⟨rfl, hb2⟩
          have hb2 := below_ch hb1 hb2
          go_wp2_with fail
          refine (L1.out _).mono ?_
          rintro e w3 ⟨rfl, hw3⟩
          subst hw3
          go_wp2_with fail
          go_ret
          exact ⟨by rw [HR.out]; rfl, hb2⟩
        | false =>
          go_enter Tryd.func15, Tryd.ntmps15
          go_wp2_with fail
          refine C1.out.mono ?_
          rintro e w1 ⟨rfl, hb1⟩
          go_wp2_with fail
          refine (C2.out _).mono ?_
          rintro e w2 ⟨rfl, hb2⟩
          have hb2 := below_ch hb1 hb2
          go_wp2_with fail
          refine (L1.out _).mono ?_
          rintro e w3 ⟨rfl, hw3⟩
          subst hw3
          go_wp2_with fail
          refine (L2.out _).mono ?_
          rintro e w4 ⟨rfl, hw4⟩
          subst hw4
          go_wp2_with fail
          go_ret
          exact ⟨by rw [HR.out]; rfl, hb2⟩
theorem rsame_any (a b : ByteArray) (w : World) (ha : a.size ≤ 4294967000) (hb : b.size ≤ 4294967000) : Calls Tryd.prog 16 #[.string a, .string b] w fun e w' => e = .returned (.bool (sameB a b)) ∧ Below w.heap.size w w' := by
  have C1 := kept (rnorm_any a w ha)
  have C2 := kept (fun W => rnorm_any b W hb)
  have HS : Kept (sameB a b = (match norm a.data.toList, norm b.data.toList with | some x, some y => x == y || ends x y || ends y x | _, _ => false)) := ⟨rfl⟩
  have HA0 := kept (fun h => normB_none (s := a) h)
  have HA1 := kept (fun x h => normB_some (s := a) (x := x) h)
  have HB0 := kept (fun h => normB_none (s := b) h)
  have HB1 := kept (fun x h => normB_some (s := b) (x := x) h)
  have NA := kept (fun x h => norm_nf (s := a.data.toList) (x := x) h)
  have NB := kept (fun x h => norm_nf (s := b.data.toList) (x := x) h)
  cases hA : norm a.data.toList with
  | none =>
    have HR : Kept (sameB a b = false) := ⟨by rw [HS.out, hA]⟩
    obtain ⟨e1, e2⟩ := HA0.out hA
    rw [e1, e2] at C1
    generalize normB b = y at *
    generalize normOk b = yo at *
    clear HS HA0 HA1 HB0 HB1 NA NB hA e1 e2
    go_enter Tryd.func16, Tryd.ntmps16
    go_wp2_with fail
    refine C1.out.mono ?_
    rintro e w1 ⟨rfl, hb1⟩
    go_wp2_with fail
    refine (C2.out _).mono ?_
    rintro e w2 ⟨rfl, hb2⟩
    have hb2 : Below w.heap.size w w2 := by subst hb1; subst hb2; exact Below.refl _ _
    go_wp2_with fail
    go_ret
    exact ⟨by rw [HR.out]; rfl, hb2⟩
  | some x =>
    obtain ⟨e1, e2⟩ := HA1.out x hA
    rw [e1, e2] at C1
    cases hB : norm b.data.toList with
    | none =>
      have HR : Kept (sameB a b = false) := ⟨by rw [HS.out, hA, hB]⟩
      obtain ⟨e3, e4⟩ := HB0.out hB
      rw [e3, e4] at C2
      clear HS HA0 HA1 HB0 HB1 NA NB hA hB e1 e2 e3 e4
      go_enter Tryd.func16, Tryd.ntmps16
      go_wp2_with fail
      refine C1.out.mono ?_
      rintro e w1 ⟨rfl, hb1⟩
      go_wp2_with fail
      refine (C2.out _).mono ?_
      rintro e w2 ⟨rfl, hb2⟩
      have hb2 : Below w.heap.size w w2 := by subst hb1; subst hb2; exact Below.refl _ _
      go_wp2_with fail
      go_ret
      exact ⟨by rw [HR.out]; rfl, hb2⟩
    | some y =>
      obtain ⟨e3, e4⟩ := HB1.out y hB
      rw [e3, e4] at C2
      have nx : NFB (bOf x) := by unfold NFB; rw [data_bOf]; exact NA.out x hA
      have ny : NFB (bOf y) := by unfold NFB; rw [data_bOf]; exact NB.out y hB
      have L1 := kept (fun W => rends_any (bOf x) (bOf y) W nx ny)
      have L2 := kept (fun W => rends_any (bOf y) (bOf x) W ny nx)
      have HR : Kept (sameB a b = (decide (bOf x = bOf y) || endsB (bOf x) (bOf y) || endsB (bOf y) (bOf x))) := ⟨by
        rw [HS.out, hA, hB]
        unfold endsB
        rw [data_bOf, data_bOf]
        have : decide (bOf x = bOf y) = (x == y) := by rw [Bool.eq_iff_iff, decide_eq_true_eq, beq_iff_eq]; exact ⟨bOf_inj, fun h => by rw [h]⟩
        rw [this]⟩
      have hq := str_beq (bOf x) (bOf y)
      clear HS HA0 HA1 HB0 HB1 NA NB hA hB e1 e2 e3 e4 nx ny
      generalize endsB (bOf x) (bOf y) = r1 at *
      generalize endsB (bOf y) (bOf x) = r2 at *
      generalize decide (bOf x = bOf y) = r0 at *
      cases r0 with
      | true =>
        go_enter Tryd.func16, Tryd.ntmps16
        go_wp2_with fail
        refine C1.out.mono ?_
        rintro e w1 ⟨rfl, hb1⟩
        go_wp2_with fail
        refine (C2.out _).mono ?_
        rintro e w2 ⟨rfl, hb2⟩
        have hb2 : Below w.heap.size w w2 := by subst hb1; subst hb2; exact Below.refl _ _
        go_wp2_with fail
        go_ret
        exact ⟨by rw [HR.out]; rfl, hb2⟩
      | false =>
        cases r1 with
        | true =>
          go_enter Tryd.func16, Tryd.ntmps16
          go_wp2_with fail
          refine C1.out.mono ?_
          rintro e w1 ⟨rfl, hb1⟩
          go_wp2_with fail
          refine (C2.out _).mono ?_
          rintro e w2 ⟨rfl, hb2⟩
          have hb2 : Below w.heap.size w w2 := by subst hb1; subst hb2; exact Below.refl _ _
          go_wp2_with fail
          refine (L1.out _).mono ?_
          rintro e w3 ⟨rfl, hw3⟩
          subst hw3
          go_wp2_with fail
          go_ret
          exact ⟨by rw [HR.out]; rfl, hb2⟩
        | false =>
          go_enter Tryd.func16, Tryd.ntmps16
          go_wp2_with fail
          refine C1.out.mono ?_
          rintro e w1 ⟨rfl, hb1⟩
          go_wp2_with fail
          refine (C2.out _).mono ?_
          rintro e w2 ⟨rfl, hb2⟩
          have hb2 : Below w.heap.size w w2 := by subst hb1; subst hb2; exact Below.refl _ _
          go_wp2_with fail
          refine (L1.out _).mono ?_
          rintro e w3 ⟨rfl, hw3⟩
          subst hw3
          go_wp2_with fail
          refine (L2.out _).mono ?_
          rintro e w4 ⟨rfl, hw4⟩
          subst hw4
          go_wp2_with fail
          go_ret
          exact ⟨by rw [HR.out]; rfl, hb2⟩
end Go.Proofs.YtpimncboebggkaaDoor.Phone
