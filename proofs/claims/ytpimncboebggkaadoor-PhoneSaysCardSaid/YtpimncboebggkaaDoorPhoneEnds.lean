/- The walks of layer 46, continued: ends of the document; Same of both. -/
import Derived.Test.YtpimncboebggkaaDoorPhoneRef
namespace Go.Proofs.YtpimncboebggkaaDoor.Phone
open Go.RowKit Go.Proofs.YtpimncboebggkaaDoor.Mem Go.Proofs.YtpimncboebggkaaDoor.Card Go.Proofs.YtpimncboebggkaaDoor.Laid Go.Proofs.YtpimncboebggkaaDoor.Fold

def strLen : Value → Nat
  | .string s => s.size
  | _ => 0
theorem strLen_mk (s : ByteArray) : strLen (.string s) = s.size := rfl
theorem rends_any (a b : ByteArray) (w : World) (ha : NFB a) (hb : NFB b) : Calls Tryd.prog 34 #[.string a, .string b] w fun e w' => e = .returned (.bool (endsB a b)) ∧ w = w' := by
  obtain ⟨c, t, hx, hc⟩ := nf_cons ha
  obtain ⟨c2, t2, hx2, hc2⟩ := nf_cons hb
  have hal := nf_length ha
  have hbl := nf_length hb
  obtain rfl : a = bOf (c :: t) := by rw [← hx, bOf_data]
  obtain rfl : b = bOf (c2 :: t2) := by rw [← hx2, bOf_data]
  rw [data_bOf] at hal hbl
  clear hx hx2 hc hc2 ha hb
  have HE : Kept (endsB (bOf (c :: t)) (bOf (c2 :: t2)) = (decide (c = 43) && !decide (c2 = 43) && decide (6 ≤ ((c2 :: t2).dropWhile (· == 48)).length) && ((c2 :: t2).dropWhile (· == 48)).isSuffixOf t)) := ⟨by
    unfold endsB ends
    rw [data_bOf, data_bOf]
    simp only [List.head?_cons, List.drop_succ_cons, List.drop_zero]
    rw [show (some c == some 43) = decide (c = 43) by rw [Bool.eq_iff_iff]; simp, show (some c2 == some (43 : UInt8)) = decide (c2 = 43) by rw [Bool.eq_iff_iff]; simp]⟩
  have hz := bOf_size (c :: t)
  have hz2 := bOf_size (c2 :: t2)
  have hh : (bOf (c :: t))[0]'(by rw [bOf_size]; simp) = c := rfl
  have hh2 : (bOf (c2 :: t2))[0]'(by rw [bOf_size]; simp) = c2 := rfl
  have hpos : 0 < (bOf (c :: t)).size := by rw [bOf_size]; simp
  have hpos2 : 0 < (bOf (c2 :: t2)).size := by rw [bOf_size]; simp
  have hn1 : ((c.toNat : Int) == 43) = (c == 43) := num_eq c 43 (by decide)
  have hn2 : ((c2.toNat : Int) == 43) = (c2 == 43) := num_eq c2 43 (by decide)
  have hm1 : ((c.toNat : Int) != 43) = !((c.toNat : Int) == 43) := rfl
  rw [hn1] at hm1
  by_cases h1 : c = 43
  · rw [show (c == 43) = true by simpa using h1] at hn1 hm1
    rw [decide_eq_true h1] at HE
    by_cases h2 : c2 = 43
    · rw [show (c2 == 43) = true by simpa using h2] at hn2
      rw [decide_eq_true h2] at HE
      clear h1 h2
      go_enter Tryd.func34, Tryd.ntmps34
      go_wp2
      go_ret
      exact ⟨by rw [HE.out]; rfl, rfl⟩
    · rw [show (c2 == 43) = false by simpa using h2] at hn2
      rw [decide_eq_false h2] at HE
      subst h1
      clear h2 hz hn1
      have hul : ((c2 :: t2).dropWhile (· == 48)).length ≤ 16 := by
        have := (List.dropWhile_sublist (· == 48) (l := c2 :: t2)).length_le
        omega
      have HE2 : Kept (∀ u, u = (c2 :: t2).dropWhile (· == 48) → endsB (bOf (43 :: t)) (bOf (c2 :: t2)) = (decide (6 ≤ u.length) && u.isSuffixOf t)) := ⟨by rintro u rfl; rw [HE.out]; rfl⟩
      clear HE
      go_enter Tryd.func34, Tryd.ntmps34
      go_wp2
      go_loop [1] (fun v => ∃ u : List UInt8, v = .string (bOf u) ∧ u.length ≤ 16 ∧ Kept (u.dropWhile (· == 48) = (c2 :: t2).dropWhile (· == 48))) (fun v => strLen v)
      case atStart => exact ⟨c2 :: t2, rfl, by omega, ⟨rfl⟩⟩
      case round =>
        obtain ⟨u, rfl, hu16, hu⟩ := hrel
        cases u with
        | nil =>
          have HR := kept (HE2.out [] hu.out)
          have hz0 : (bOf []).size = 0 := rfl
          clear HE2 hu
          go_wp2
          go_ret
          exact ⟨by rw [HR.out]; rfl, rfl⟩
        | cons d u =>
          have hzu := bOf_size (d :: u)
          have hzt := bOf_size ((43 : UInt8) :: t)
          have hlu : (d :: u).length = u.length + 1 := rfl
          have hlt : ((43 : UInt8) :: t).length = t.length + 1 := rfl
          rw [hlu] at hzu hu16
          rw [hlt] at hzt hal
          have hdn : ((d.toNat : Int) == 48) = (d == 48) := num_eq d 48 (by decide)
          have hex : (bOf (d :: u)).extract 1 (u.length + 1) = bOf u := by
            apply ByteArray.ext
            simp [bOf]
          have hposu : 0 < (bOf (d :: u)).size := by rw [bOf_size]; simp
          have hhu : (bOf (d :: u))[0]'hposu = d := rfl
          have hi0 : (0 : Int) < (u.length : Int) + 1 := by omega
          have hi1 : (1 : Int) ≤ (u.length : Int) + 1 := by omega
          by_cases hd : d = 48
          · rw [show (d == 48) = true by simpa using hd] at hdn
            have hu2 : Kept (u.dropWhile (· == 48) = (c2 :: t2).dropWhile (· == 48)) := ⟨by rw [← hu.out, hd]; rfl⟩
            clear hu hd
            go_wp2
            go_round
            case rel => exact ⟨u, rfl, by omega, hu2⟩
            case measure => rw [strLen_mk, strLen_mk, bOf_size, bOf_size]; simp
          · rw [show (d == 48) = false by simpa using hd] at hdn
            have hdw : (d :: u).dropWhile (· == 48) = d :: u := by rw [List.dropWhile_cons_of_neg (by simpa using hd)]
            have HR := kept (HE2.out (d :: u) (by rw [← hu.out, hdw]))
            clear HE2 hu hdw hd
            go_wp2
            · have h6 : (6 : Int) ≤ (u.length : Int) + 1 := by assumption
              have hl : u.length < t.length := by assumption
              have hfin : ((((bOf (43 :: t)).extract (t.length - u.length) (t.length + 1)).toList == (bOf (d :: u)).toList) : Bool) = (decide (6 ≤ (d :: u).length) && (d :: u).isSuffixOf t) := by
                have e1 : (bOf (43 :: t)).extract (t.length - u.length) (t.length + 1) = bOf (t.drop (t.length - (d :: u).length)) := by
                  apply ByteArray.ext
                  apply Array.ext'
                  simp [bOf]
                  rw [show t.length - u.length = (t.length - (u.length + 1)) + 1 by omega, List.drop_succ_cons, List.take_of_length_le (by simp)]
                rw [e1, bOf_toList, bOf_toList, decide_eq_true (show 6 ≤ (d :: u).length by simp; omega), Bool.true_and, Bool.eq_iff_iff, beq_iff_eq, List.isSuffixOf_iff_suffix]
                constructor
                · intro h; rw [← h]; exact List.drop_suffix _ _
                · rintro ⟨r, hr⟩
                  rw [← hr]
                  simp
              go_ret
              exact ⟨by rw [HR.out, ← hfin]; rfl, rfl⟩
            · have hl : ¬ u.length < t.length := by assumption
              have hfin : (decide (6 ≤ (d :: u).length) && (d :: u).isSuffixOf t) = false := by
                rw [Bool.and_eq_false_iff]
                right
                rw [Bool.eq_false_iff]
                intro h
                have := (List.isSuffixOf_iff_suffix.1 h).length_le
                simp at this
                omega
              go_ret
              exact ⟨by rw [HR.out, hfin]; rfl, rfl⟩
            · have h6 : ¬ (6 : Int) ≤ (u.length : Int) + 1 := by first | assumption | omega
              have hfin : (decide (6 ≤ (d :: u).length) && (d :: u).isSuffixOf t) = false := by
                rw [decide_eq_false (by simp; omega)]; rfl
              go_ret
              exact ⟨by rw [HR.out, hfin]; rfl, rfl⟩
  · rw [show (c == 43) = false by simpa using h1] at hn1 hm1
    rw [decide_eq_false h1] at HE
    clear h1
    go_enter Tryd.func34, Tryd.ntmps34
    go_wp2
    go_ret
    exact ⟨by rw [HE.out]; rfl, rfl⟩
end Go.Proofs.YtpimncboebggkaaDoor.Phone
