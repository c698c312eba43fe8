/- The walks of layer 46, continued: local, Same of the program; ends, Same of the document. -/
import Derived.Test.YtpimncboebggkaaDoorPhoneNorm
namespace Go.Proofs.YtpimncboebggkaaDoor.Phone
open Go.RowKit Go.Proofs.YtpimncboebggkaaDoor.Mem Go.Proofs.YtpimncboebggkaaDoor.Card Go.Proofs.YtpimncboebggkaaDoor.Laid Go.Proofs.YtpimncboebggkaaDoor.Fold

/-- a text that is a number's one form -/
def NFB (s : ByteArray) : Prop := NF s.data.toList
def endsB (a b : ByteArray) : Bool := ends a.data.toList b.data.toList
theorem nf_cons {x : List UInt8} (h : NF x) : ∃ c t, x = c :: t ∧ ((c = 43 ∧ AllD t) ∨ (c ≠ 43 ∧ AllD (c :: t))) := by
  cases h with
  | plus d h h1 h2 => exact ⟨43, d, rfl, .inl ⟨rfl, h⟩⟩
  | bare _ h h1 h2 h3 =>
    cases x with
    | nil => simp at h1
    | cons c t => exact ⟨c, t, rfl, .inr ⟨(head_digit (h c List.mem_cons_self)).2, h⟩⟩
theorem drop_all {x : List UInt8} (h : AllD x) : AllD (x.dropWhile (· == 48)) := fun c hc => h c ((List.dropWhile_sublist _).subset hc)
theorem no_plus {x : List UInt8} (h : AllD x) : Lib.hasPrefix x [43] = false := by
  unfold Lib.hasPrefix
  cases x with
  | nil => rfl
  | cons c t =>
    have := (head_digit (h c List.mem_cons_self)).2
    have h1 : ((43 : UInt8) == c) = false := by simpa using fun e => this e.symm
    simp [List.isPrefixOf, h1]
theorem local_any (a b : ByteArray) (w : World) (ha : NFB a) (hb : NFB b) : Calls Tryd.prog 33 #[.string a, .string b] w fun e w' => e = .returned (.bool (endsB a b)) ∧ w' = w := by
  obtain ⟨c, t, hx, hc⟩ := nf_cons ha
  obtain ⟨c2, t2, hx2, hc2⟩ := nf_cons hb
  have hal := nf_length ha
  have hbl := nf_length hb
  obtain rfl : a = bOf (c :: t) := by rw [← hx, bOf_data]
  obtain rfl : b = bOf (c2 :: t2) := by rw [← hx2, bOf_data]
  rw [data_bOf] at hal hbl
  clear hx hx2
  have CT := trimLeft_one (bOf (c2 :: t2)) 48 (by decide) w
  rw [data_bOf] at CT
  have CT : Calls Tryd.prog 44 #[.string (bOf (c2 :: t2)), .string ⟨#[48]⟩] w fun e w' => e = .returned (.string (bOf ((c2 :: t2).dropWhile (· == 48)))) ∧ w' = w := CT
  have HE : Kept (endsB (bOf (c :: t)) (bOf (c2 :: t2)) = (decide (c = 43) && !decide (c2 = 43) && decide (6 ≤ ((c2 :: t2).dropWhile (· == 48)).length) && ((c2 :: t2).dropWhile (· == 48)).isSuffixOf t)) := ⟨by
    unfold endsB ends
    rw [data_bOf, data_bOf]
    simp only [List.head?_cons, List.drop_succ_cons, List.drop_zero]
    rw [show (some c == some 43) = decide (c = 43) by rw [Bool.eq_iff_iff]; simp, show (some c2 == some (43 : UInt8)) = decide (c2 = 43) by rw [Bool.eq_iff_iff]; simp]⟩
  have hP : Lib.hasPrefix ((c2 :: t2).dropWhile (· == 48)) [43] = decide (c2 = 43) := by
    rcases hc2 with ⟨rfl, h⟩ | ⟨h1, h⟩
    · rfl
    · rw [no_plus (drop_all h), decide_eq_false h1]
  have hul : ((c2 :: t2).dropWhile (· == 48)).length ≤ 16 := by
    have := (List.dropWhile_sublist (· == 48) (l := c2 :: t2)).length_le
    omega
  clear hc hc2
  generalize (c2 :: t2).dropWhile (· == 48) = u at *
  have CP := hasPrefix_any (bOf u) ⟨#[43]⟩
  rw [data_bOf, show (⟨#[43]⟩ : ByteArray).data.toList = [43] from rfl, hP] at CP
  have hex : (bOf (c :: t)).extract 1 (bOf (c :: t)).size = bOf t := by
    apply ByteArray.ext
    simp [bOf, ByteArray.size]
  have CS := hasSuffix_any (bOf t) (bOf u)
  rw [data_bOf, data_bOf] at CS
  have CS := kept (fun W => CS W (by rw [bOf_size]; simp at hal; omega))
  rw [show ((u.isSuffixOf t) : Bool) = Lib.hasSuffix t u from rfl] at HE
  have CT := kept CT
  have CP := kept CP
  have hz := bOf_size (c :: t)
  have hz2 := bOf_size u
  have hh : (bOf (c :: t))[0]'(by rw [bOf_size]; simp) = c := rfl
  have hpos : 0 < (bOf (c :: t)).size := by rw [bOf_size]; simp
  have hpos2 : (1 : Int) ≤ ((bOf (c :: t)).size : Int) := by omega
  clear hP hz
  have HH := kept hh
  by_cases h43 : c = 43
  · subst h43
    have hq : (((43 : UInt8).toNat : Int) == 43) = true := by decide
    go_enter Tryd.func33, Tryd.ntmps33
    go_wp2_with fail
    refine CT.out.mono ?_
    rintro e w1 ⟨rfl, hw1⟩
    subst hw1
    go_wp2_with fail
    refine (CP.out _).mono ?_
    rintro e w2 ⟨rfl, hw2⟩
    subst hw2
    by_cases h2 : c2 = 43
    · rw [decide_eq_true h2] at HE ⊢
      clear h2
      go_wp2_with fail
      go_ret
      exact ⟨by rw [HE.out]; rfl, rfl⟩
    · rw [decide_eq_false h2] at HE ⊢
      clear h2
      by_cases h6 : 6 ≤ u.length
      · rw [decide_eq_true h6] at HE
        have h6i : (6 : Int) ≤ (u.length : Int) := by omega
        generalize (Lib.hasSuffix t u) = r at *
        go_wp2_with fail
        refine (CS.out _).mono ?_
        rintro e w3 ⟨rfl, hw3⟩
        subst hw3
        go_wp2_with fail
        go_ret
        exact ⟨by rw [HE.out]; rfl, rfl⟩
      · rw [decide_eq_false h6] at HE
        have h6i : ¬ (6 : Int) ≤ (u.length : Int) := by omega
        go_wp2_with fail
        go_ret
        exact ⟨by rw [HE.out]; rfl, rfl⟩
  · rw [decide_eq_false h43] at HE
    have hq : ((c.toNat : Int) == 43) = false := by
      rw [beq_eq_false_iff_ne]
      intro e
      exact h43 (UInt8.toNat_inj.1 (show c.toNat = (43 : UInt8).toNat by have : (43 : UInt8).toNat = 43 := rfl; omega))
    clear h43
    go_enter Tryd.func33, Tryd.ntmps33
    go_wp2_with fail
    refine CT.out.mono ?_
    rintro e w1 ⟨rfl, hw1⟩
    subst hw1
    go_wp2_with fail
    go_ret
    exact ⟨by rw [HE.out]; rfl, rfl⟩
end Go.Proofs.YtpimncboebggkaaDoor.Phone
