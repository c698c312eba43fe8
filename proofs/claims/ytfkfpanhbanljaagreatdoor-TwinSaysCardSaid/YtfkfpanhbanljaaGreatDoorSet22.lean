import Derived.Test.YtfkfpanhbanljaaGreatDoorPhoneRef
/- The walks of layer 46, continued: ends of the document; Same of both. -/
namespace Go.Proofs.YtfkfpanhbanljaaGreatDoor.Phone
open Go.RowKit Go.Proofs.YtfkfpanhbanljaaGreatDoor.Mem Go.Proofs.YtfkfpanhbanljaaGreatDoor.Card Go.Proofs.YtfkfpanhbanljaaGreatDoor.Laid Go.Proofs.YtfkfpanhbanljaaGreatDoor.Fold

def strLen : Value → Nat
  | .string s => s.size
  | _ => 0
theorem strLen_mk (s : ByteArray) : strLen (.string s) = s.size := rfl
theorem rends_any (a b : ByteArray) (w : World) (ha : NFB a) (hb : NFB b) : Calls Tryz.prog 85 #[.string a, .string b] w fun e w' => e = .returned (.bool (endsB a b)) ∧ w = w' := by
  obtain ⟨c, t, hx, hc⟩ := nf_cons ha
  obtain ⟨c2, t2, hx2, hc2⟩ := nf_cons hb
  have hal := nf_length ha
  have hbl := nf_length hb
  obtain rfl : a = bOf (c :: t) := by rw [← hx, bOf_data]
  obtain rfl : b = bOf (c2 :: t2) := by rw [← hx2, bOf_data]
  rw [data_bOf] at hal hbl
  clear hx hx2 hc hc2 ha hb
  have HE : Kept (endsB (bOf (c :: t)) (bOf (c2 :: t2)) = (decide (c = 43) && !decide (c2 = 43) && decide (6 ≤ ((c2 :: t2).dropWhile (· == 48)).length) && ((c2 :: t2).dropWhile (· == 48)).isSuffixOf t)) := ⟨by
    unfold endsB ends
    rw [data_bOf, data_bOf]
    simp only [List.head?_cons, List.drop_succ_cons, List.drop_zero]
    rw [show (some c == some 43) = decide (c = 43) by rw [Bool.eq_iff_iff]; simp, show (some c2 == some (43 : UInt8)) = decide (c2 = 43) by rw [Bool.eq_iff_iff]; simp]⟩
  have hz := bOf_size (c :: t)
  have hz2 := bOf_size (c2 :: t2)
  have hh : (bOf (c :: t))[0]'(by rw [bOf_size]; simp) = c := rfl
  have hh2 : (bOf (c2 :: t2))[0]'(by rw [bOf_size]; simp) = c2 := rfl
  have hpos : 0 < (bOf (c :: t)).size := by rw [bOf_size]; simp
  have hpos2 : 0 < (bOf (c2 :: t2)).size := by rw [bOf_size]; simp
  have hn1 : ((c.toNat : Int) == 43) = (c == 43) := num_eq c 43 (by decide)
  have hn2 : ((c2.toNat : Int) == 43) = (c2 == 43) := num_eq c2 43 (by decide)
  have hm1 : ((c.toNat : Int) != 43) = !((c.toNat : Int) == 43) := rfl
  rw [hn1] at hm1
  by_cases h1 : c = 43
  · rw [show (c == 43) = true by simpa using h1] at hn1 hm1
    rw [decide_eq_true h1] at HE
    by_cases h2 : c2 = 43
    · rw [show (c2 == 43) = true by simpa using h2] at hn2
      rw [decide_eq_true h2] at HE
      clear h1 h2
      go_enter Tryz.func85, Tryz.ntmps85
      go_wp2
      go_ret
      exact ⟨by rw [HE.out]; rfl, rfl⟩
    · rw [show (c2 == 43) = false by simpa using h2] at hn2
      rw [decide_eq_false h2] at HE
      subst h1
      clear h2 hz hn1
      have hul : ((c2 :: t2).dropWhile (· == 48)).length ≤ 16 := by
        have := (List.dropWhile_sublist (· == 48) (l := c2 :: t2)).length_le
        omega
      have HE2 : Kept (∀ u, u = (c2 :: t2).dropWhile (· == 48) → endsB (bOf (43 :: t)) (bOf (c2 :: t2)) = (decide (6 ≤ u.length) && u.isSuffixOf t)) := ⟨by rintro u rfl; rw [HE.out]; rfl⟩
      clear HE
      go_enter Tryz.func85, Tryz.ntmps85
      go_wp2
      go_loop [1] (fun v => ∃ u : List UInt8, v = .string (bOf u) ∧ u.length ≤ 16 ∧ Kept (u.dropWhile (· == 48) = (c2 :: t2).dropWhile (· == 48))) (fun v => strLen v)
      case atStart => exact ⟨c2 :: t2, rfl, by omega, ⟨rfl⟩⟩
      case round =>
        obtain ⟨u, rfl, hu16, hu⟩ := hrel
        cases u with
        | nil =>
          have HR := kept (HE2.out [] hu.out)
          have hz0 : (bOf []).size = 0 := rfl
          clear HE2 hu
          go_wp2
          go_ret
          exact ⟨by rw [HR.out]; rfl, rfl⟩
        | cons d u =>
          have hzu := bOf_size (d :: u)
          have hzt := bOf_size ((43 : UInt8) :: t)
          have hlu : (d :: u).length = u.length + 1 := rfl
          have hlt : ((43 : UInt8) :: t).length = t.length + 1 := rfl
          rw [hlu] at hzu hu16
          rw [hlt] at hzt hal
          have hdn : ((d.toNat : Int) == 48) = (d == 48) := num_eq d 48 (by decide)
          have hex : (bOf (d :: u)).extract 1 (u.length + 1) = bOf u := by
            apply ByteArray.ext
            simp [bOf]
          have hposu : 0 < (bOf (d :: u)).size := by rw [bOf_size]; simp
          have hhu : (bOf (d :: u))[0]'hposu = d := rfl
          have hi0 : (0 : Int) < (u.length : Int) + 1 := by omega
          have hi1 : (1 : Int) ≤ (u.length : Int) + 1 := by omega
          by_cases hd : d = 48
          · rw [show (d == 48) = true by simpa using hd] at hdn
            have hu2 : Kept (u.dropWhile (· == 48) = (c2 :: t2).dropWhile (· == 48)) := ⟨by rw [← hu.out, hd]; rfl⟩
            clear hu hd
            go_wp2
            go_round
            case rel => exact ⟨u, rfl, by omega, hu2⟩
            case measure => rw [strLen_mk, strLen_mk, bOf_size, bOf_size]; simp
          · rw [show (d == 48) = false by simpa using hd] at hdn
            have hdw : (d :: u).dropWhile (· == 48) = d :: u := by rw [List.dropWhile_cons_of_neg (by simpa using hd)]
            have HR := kept (HE2.out (d :: u) (by rw [← hu.out, hdw]))
            clear HE2 hu hdw hd
            go_wp2
            · have h6 : (6 : Int) ≤ (u.length : Int) + 1 := by assumption
              have hl : u.length < t.length := by assumption
              have hfin : ((((bOf (43 :: t)).extract (t.length - u.length) (t.length + 1)).toList == (bOf (d :: u)).toList) : Bool) = (decide (6 ≤ (d :: u).length) && (d :: u).isSuffixOf t) := by
                have e1 : (bOf (43 :: t)).extract (t.length - u.length) (t.length + 1) = bOf (t.drop (t.length - (d :: u).length)) := by
                  apply ByteArray.ext
                  apply Array.ext'
                  simp [bOf]
                  rw [show t.length - u.length = (t.length - (u.length + 1)) + 1 by omega, List.drop_succ_cons, List.take_of_length_le (by simp)]
                rw [e1, bOf_toList, bOf_toList, decide_eq_true (show 6 ≤ (d :: u).length by simp; omega), Bool.true_and, Bool.eq_iff_iff, beq_iff_eq, List.isSuffixOf_iff_suffix]
                constructor
                · intro h; rw [← h]; exact List.drop_suffix _ _
                · rintro ⟨r, hr⟩
                  rw [← hr]
                  simp
              go_ret
              exact ⟨by rw [HR.out, ← hfin]; rfl, rfl⟩
            · have hl : ¬ u.length < t.length := by assumption
              have hfin : (decide (6 ≤ (d :: u).length) && (d :: u).isSuffixOf t) = false := by
                rw [Bool.and_eq_false_iff]
                right
                rw [Bool.eq_false_iff]
                intro h
                have := (List.isSuffixOf_iff_suffix.1 h).length_le
                simp at this
                omega
              go_ret
              exact ⟨by rw [HR.out, hfin]; rfl, rfl⟩
            · have h6 : ¬ (6 : Int) ≤ (u.length : Int) + 1 := by first | assumption | omega
              have hfin : (decide (6 ≤ (d :: u).length) && (d :: u).isSuffixOf t) = false := by
                rw [decide_eq_false (by simp; omega)]; rfl
              go_ret
              exact ⟨by rw [HR.out, hfin]; rfl, rfl⟩
  · rw [show (c == 43) = false by simpa using h1] at hn1 hm1
    rw [decide_eq_false h1] at HE
    clear h1
    go_enter Tryz.func85, Tryz.ntmps85
    go_wp2
    go_ret
    exact ⟨by rw [HE.out]; rfl, rfl⟩
end Go.Proofs.YtfkfpanhbanljaaGreatDoor.Phone

/- The walks of layer 46, continued: Same of both (written by a small program of this claim's). -/
namespace Go.Proofs.YtfkfpanhbanljaaGreatDoor.Phone
open Go.RowKit Go.Proofs.YtfkfpanhbanljaaGreatDoor.Mem Go.Proofs.YtfkfpanhbanljaaGreatDoor.Card Go.Proofs.YtfkfpanhbanljaaGreatDoor.Laid Go.Proofs.YtfkfpanhbanljaaGreatDoor.Fold

def sameB (a b : ByteArray) : Bool := same a.data.toList b.data.toList
theorem same_any (a b : ByteArray) (w : World) (ha : a.size ≤ 140737488355000) (hb : b.size ≤ 140737488355000) : Calls Tryz.prog 43 #[.string a, .string b] w fun e w' => e = .returned (.bool (sameB a b)) ∧ Below w.heap.size w w' := by
  have C1 := kept (norm_any a w ha)
  have C2 := kept (fun W => norm_any b W hb)
  have HS : Kept (sameB a b = (match norm a.data.toList, norm b.data.toList with | some x, some y => x == y || ends x y || ends y x | _, _ => false)) := ⟨rfl⟩
  have HA0 := kept (fun h => normB_none (s := a) h)
  have HA1 := kept (fun x h => normB_some (s := a) (x := x) h)
  have HB0 := kept (fun h => normB_none (s := b) h)
  have HB1 := kept (fun x h => normB_some (s := b) (x := x) h)
  have NA := kept (fun x h => norm_nf (s := a.data.toList) (x := x) h)
  have NB := kept (fun x h => norm_nf (s := b.data.toList) (x := x) h)
  cases hA : norm a.data.toList with
  | none =>
    have HR : Kept (sameB a b = false) := ⟨by rw [HS.out, hA]⟩
    obtain ⟨e1, e2⟩ := HA0.out hA
    rw [e1, e2] at C1
    generalize normB b = y at *
    generalize normOk b = yo at *
    clear HS HA0 HA1 HB0 HB1 NA NB hA e1 e2
    go_enter Tryz.func43, Tryz.ntmps43
    go_wp2_with fail
    refine C1.out.mono ?_
    rintro e w1 ⟨rfl, hb1⟩
    go_wp2_with fail
    refine (C2.out _).mono ?_
    rintro e w2 ⟨rfl, hb2⟩
    have hb2 := below_ch hb1 hb2
    go_wp2_with fail
    go_ret
    exact ⟨by rw [HR.out]; rfl, hb2⟩
  | some x =>
    obtain ⟨e1, e2⟩ := HA1.out x hA
    rw [e1, e2] at C1
    cases hB : norm b.data.toList with
    | none =>
      have HR : Kept (sameB a b = false) := ⟨by rw [HS.out, hA, hB]⟩
      obtain ⟨e3, e4⟩ := HB0.out hB
      rw [e3, e4] at C2
      clear HS HA0 HA1 HB0 HB1 NA NB hA hB e1 e2 e3 e4
      go_enter Tryz.func43, Tryz.ntmps43
      go_wp2_with fail
      refine C1.out.mono ?_
      rintro e w1 ⟨rfl, hb1⟩
      go_wp2_with fail
      refine (C2.out _).mono ?_
      rintro e w2 ⟨rfl, hb2⟩
      have hb2 := below_ch hb1 hb2
      go_wp2_with fail
      go_ret
      exact ⟨by rw [HR.out]; rfl, hb2⟩
    | some y =>
      obtain ⟨e3, e4⟩ := HB1.out y hB
      rw [e3, e4] at C2
      have nx : NFB (bOf x) := by unfold NFB; rw [data_bOf]; exact NA.out x hA
      have ny : NFB (bOf y) := by unfold NFB; rw [data_bOf]; exact NB.out y hB
      have L1 := kept (fun W => local_any (bOf x) (bOf y) W nx ny)
      have L2 := kept (fun W => local_any (bOf y) (bOf x) W ny nx)
      have HR : Kept (sameB a b = (decide (bOf x = bOf y) || endsB (bOf x) (bOf y) || endsB (bOf y) (bOf x))) := ⟨by
        rw [HS.out, hA, hB]
        unfold endsB
        rw [data_bOf, data_bOf]
        have : decide (bOf x = bOf y) = (x == y) := by rw [Bool.eq_iff_iff, decide_eq_true_eq, beq_iff_eq]; exact ⟨bOf_inj, fun h => by rw [h]⟩
        rw [this]⟩
      have hq := str_beq (bOf x) (bOf y)
      clear HS HA0 HA1 HB0 HB1 NA NB hA hB e1 e2 e3 e4 nx ny
      generalize endsB (bOf x) (bOf y) = r1 at *
      generalize endsB (bOf y) (bOf x) = r2 at *
      generalize decide (bOf x = bOf y) = r0 at *
      cases r0 with
      | true =>
        go_enter Tryz.func43, Tryz.ntmps43
        go_wp2_with fail
        refine C1.out.mono ?_
        rintro e w1 ⟨rfl, hb1⟩
        go_wp2_with fail
        refine (C2.out _).mono ?_
        rintro e w2 ⟨rfl, hb2⟩
        have hb2 := below_ch hb1 hb2
        go_wp2_with fail
        go_ret
        exact ⟨by rw [HR.out]; rfl, hb2⟩
      | false =>
        cases r1 with
        | true =>
          go_enter Tryz.func43, Tryz.ntmps43
          go_wp2_with fail
          refine C1.out.mono ?_
          rintro e w1 ⟨rfl, hb1⟩
          go_wp2_with fail
          refine (C2.out _).mono ?_
          rintro e w2 ⟨rfl, hb2⟩
          have hb2 := below_ch hb1 hb2
          go_wp2_with fail
          refine (L1.out _).mono ?_
          rintro e w3 ⟨rfl, hw3⟩
          subst hw3
          go_wp2_with fail
          go_ret
          exact ⟨by rw [HR.out]; rfl, hb2⟩
        | false =>
          go_enter Tryz.func43, Tryz.ntmps43
          go_wp2_with fail
          refine C1.out.mono ?_
          rintro e w1 ⟨rfl, hb1⟩
          go_wp2_with fail
          refine (C2.out _).mono ?_
          rintro e w2 ⟨rfl, hb2⟩
          have hb2 := below_ch hb1 hb2
          go_wp2_with fail
          refine (L1.out _).mono ?_
          rintro e w3 ⟨rfl, hw3⟩
          subst hw3
          go_wp2_with fail
          refine (L2.out _).mono ?_
          rintro e w4 ⟨rfl, hw4⟩
          subst hw4
          go_wp2_with fail
          go_ret
          exact ⟨by rw [HR.out]; rfl, hb2⟩
theorem rsame_any (a b : ByteArray) (w : World) (ha : a.size ≤ 140737488355000) (hb : b.size ≤ 140737488355000) : Calls Tryz.prog 48 #[.string a, .string b] w fun e w' => e = .returned (.bool (sameB a b)) ∧ Below w.heap.size w w' := by
  have C1 := kept (rnorm_any a w ha)
  have C2 := kept (fun W => rnorm_any b W hb)
  have HS : Kept (sameB a b = (match norm a.data.toList, norm b.data.toList with | some x, some y => x == y || ends x y || ends y x | _, _ => false)) := ⟨rfl⟩
  have HA0 := kept (fun h => normB_none (s := a) h)
  have HA1 := kept (fun x h => normB_some (s := a) (x := x) h)
  have HB0 := kept (fun h => normB_none (s := b) h)
  have HB1 := kept (fun x h => normB_some (s := b) (x := x) h)
  have NA := kept (fun x h => norm_nf (s := a.data.toList) (x := x) h)
  have NB := kept (fun x h => norm_nf (s := b.data.toList) (x := x) h)
  cases hA : norm a.data.toList with
  | none =>
    have HR : Kept (sameB a b = false) := ⟨by rw [HS.out, hA]⟩
    obtain ⟨e1, e2⟩ := HA0.out hA
    rw [e1, e2] at C1
    generalize normB b = y at *
    generalize normOk b = yo at *
    clear HS HA0 HA1 HB0 HB1 NA NB hA e1 e2
    go_enter Tryz.func48, Tryz.ntmps48
    go_wp2_with fail
    refine C1.out.mono ?_
    rintro e w1 ⟨rfl, hb1⟩
    go_wp2_with fail
    refine (C2.out _).mono ?_
    rintro e w2 ⟨rfl, hb2⟩
    have hb2 : Below w.heap.size w w2 := by subst hb1; subst hb2; exact Below.refl _ _
    go_wp2_with fail
    go_ret
    exact ⟨by rw [HR.out]; rfl, hb2⟩
  | some x =>
    obtain ⟨e1, e2⟩ := HA1.out x hA
    rw [e1, e2] at C1
    cases hB : norm b.data.toList with
    | none =>
      have HR : Kept (sameB a b = false) := ⟨by rw [HS.out, hA, hB]⟩
      obtain ⟨e3, e4⟩ := HB0.out hB
      rw [e3, e4] at C2
      clear HS HA0 HA1 HB0 HB1 NA NB hA hB e1 e2 e3 e4
      go_enter Tryz.func48, Tryz.ntmps48
      go_wp2_with fail
      refine C1.out.mono ?_
      rintro e w1 ⟨rfl, hb1⟩
      go_wp2_with fail
      refine (C2.out _).mono ?_
      rintro e w2 ⟨rfl, hb2⟩
      have hb2 : Below w.heap.size w w2 := by subst hb1; subst hb2; exact Below.refl _ _
      go_wp2_with fail
      go_ret
      exact ⟨by rw [HR.out]; rfl, hb2⟩
    | some y =>
      obtain ⟨e3, e4⟩ := HB1.out y hB
      rw [e3, e4] at C2
      have nx : NFB (bOf x) := by unfold NFB; rw [data_bOf]; exact NA.out x hA
      have ny : NFB (bOf y) := by unfold NFB; rw [data_bOf]; exact NB.out y hB
      have L1 := kept (fun W => rends_any (bOf x) (bOf y) W nx ny)
      have L2 := kept (fun W => rends_any (bOf y) (bOf x) W ny nx)
      have HR : Kept (sameB a b = (decide (bOf x = bOf y) || endsB (bOf x) (bOf y) || endsB (bOf y) (bOf x))) := ⟨by
        rw [HS.out, hA, hB]
        unfold endsB
        rw [data_bOf, data_bOf]
        have : decide (bOf x = bOf y) = (x == y) := by rw [Bool.eq_iff_iff, decide_eq_true_eq, beq_iff_eq]; exact ⟨bOf_inj, fun h => by rw [h]⟩
        rw [this]⟩
      have hq := str_beq (bOf x) (bOf y)
      clear HS HA0 HA1 HB0 HB1 NA NB hA hB e1 e2 e3 e4 nx ny
      generalize endsB (bOf x) (bOf y) = r1 at *
      generalize endsB (bOf y) (bOf x) = r2 at *
      generalize decide (bOf x = bOf y) = r0 at *
      cases r0 with
      | true =>
        go_enter Tryz.func48, Tryz.ntmps48
        go_wp2_with fail
        refine C1.out.mono ?_
        rintro e w1 ⟨rfl, hb1⟩
        go_wp2_with fail
        refine (C2.out _).mono ?_
        rintro e w2 ⟨rfl, hb2⟩
        have hb2 : Below w.heap.size w w2 := by subst hb1; subst hb2; exact Below.refl _ _
        go_wp2_with fail
        go_ret
        exact ⟨by rw [HR.out]; rfl, hb2⟩
      | false =>
        cases r1 with
        | true =>
          go_enter Tryz.func48, Tryz.ntmps48
          go_wp2_with fail
          refine C1.out.mono ?_
          rintro e w1 ⟨rfl, hb1⟩
          go_wp2_with fail
          refine (C2.out _).mono ?_
          rintro e w2 ⟨rfl, hb2⟩
          have hb2 : Below w.heap.size w w2 := by subst hb1; subst hb2; exact Below.refl _ _
          go_wp2_with fail
          refine (L1.out _).mono ?_
          rintro e w3 ⟨rfl, hw3⟩
          subst hw3
          go_wp2_with fail
          go_ret
          exact ⟨by rw [HR.out]; rfl, hb2⟩
        | false =>
          go_enter Tryz.func48, Tryz.ntmps48
          go_wp2_with fail
          refine C1.out.mono ?_
          rintro e w1 ⟨rfl, hb1⟩
          go_wp2_with fail
          refine (C2.out _).mono ?_
          rintro e w2 ⟨rfl, hb2⟩
          have hb2 : Below w.heap.size w w2 := by subst hb1; subst hb2; exact Below.refl _ _
          go_wp2_with fail
          refine (L1.out _).mono ?_
          rintro e w3 ⟨rfl, hw3⟩
          subst hw3
          go_wp2_with fail
          refine (L2.out _).mono ?_
          rintro e w4 ⟨rfl, hw4⟩
          subst hw4
          go_wp2_with fail
          go_ret
          exact ⟨by rw [HR.out]; rfl, hb2⟩
end Go.Proofs.YtfkfpanhbanljaaGreatDoor.Phone
