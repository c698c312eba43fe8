import Derived.Test.YtfkfpanhbanljaaGreatDoorSet48
/- The walks of layer 46, continued: local, Same of the program; ends, Same of the document. -/
namespace Go.Proofs.YtfkfpanhbanljaaGreatDoor.Phone
open Go.RowKit Go.Proofs.YtfkfpanhbanljaaGreatDoor.Mem Go.Proofs.YtfkfpanhbanljaaGreatDoor.Card Go.Proofs.YtfkfpanhbanljaaGreatDoor.Laid Go.Proofs.YtfkfpanhbanljaaGreatDoor.Fold

/-- a text that is a number's one form -/
def NFB (s : ByteArray) : Prop := NF s.data.toList
def endsB (a b : ByteArray) : Bool := ends a.data.toList b.data.toList
theorem nf_cons {x : List UInt8} (h : NF x) : ∃ c t, x = c :: t ∧ ((c = 43 ∧ AllD t) ∨ (c ≠ 43 ∧ AllD (c :: t))) := by
  cases h with
  | plus d h h1 h2 => exact ⟨43, d, rfl, .inl ⟨rfl, h⟩⟩
  | bare _ h h1 h2 h3 =>
    cases x with
    | nil => simp at h1
    | cons c t => exact ⟨c, t, rfl, .inr ⟨(head_digit (h c List.mem_cons_self)).2, h⟩⟩
theorem drop_all {x : List UInt8} (h : AllD x) : AllD (x.dropWhile (· == 48)) := fun c hc => h c ((List.dropWhile_sublist _).subset hc)
theorem no_plus {x : List UInt8} (h : AllD x) : Lib.hasPrefix x [43] = false := by
  unfold Lib.hasPrefix
  cases x with
  | nil => rfl
  | cons c t =>
    have := (head_digit (h c List.mem_cons_self)).2
    have h1 : ((43 : UInt8) == c) = false := by simpa using fun e => this e.symm
    simp [List.isPrefixOf, h1]
theorem local_any (a b : ByteArray) (w : World) (ha : NFB a) (hb : NFB b) : Calls Tryz.prog 81 #[.string a, .string b] w fun e w' => e = .returned (.bool (endsB a b)) ∧ w' = w := by
  obtain ⟨c, t, hx, hc⟩ := nf_cons ha
  obtain ⟨c2, t2, hx2, hc2⟩ := nf_cons hb
  have hal := nf_length ha
  have hbl := nf_length hb
  obtain rfl : a = bOf (c :: t) := by rw [← hx, bOf_data]
  obtain rfl : b = bOf (c2 :: t2) := by rw [← hx2, bOf_data]
  rw [data_bOf] at hal hbl
  clear hx hx2
  have CT := trimLeft_one (bOf (c2 :: t2)) 48 (by decide) w
  rw [data_bOf] at CT
  have CT : Calls Tryz.prog 100 #[.string (bOf (c2 :: t2)), .string ⟨#[48]⟩] w fun e w' => e = .returned (.string (bOf ((c2 :: t2).dropWhile (· == 48)))) ∧ w' = w := CT
  have HE : Kept (endsB (bOf (c :: t)) (bOf (c2 :: t2)) = (decide (c = 43) && !decide (c2 = 43) && decide (6 ≤ ((c2 :: t2).dropWhile (· == 48)).length) && ((c2 :: t2).dropWhile (· == 48)).isSuffixOf t)) := ⟨by
    unfold endsB ends
    rw [data_bOf, data_bOf]
    simp only [List.head?_cons, List.drop_succ_cons, List.drop_zero]
    rw [show (some c == some 43) = decide (c = 43) by rw [Bool.eq_iff_iff]; simp, show (some c2 == some (43 : UInt8)) = decide (c2 = 43) by rw [Bool.eq_iff_iff]; simp]⟩
  have hP : Lib.hasPrefix ((c2 :: t2).dropWhile (· == 48)) [43] = decide (c2 = 43) := by
    rcases hc2 with ⟨rfl, h⟩ | ⟨h1, h⟩
    · rfl
    · rw [no_plus (drop_all h), decide_eq_false h1]
  have hul : ((c2 :: t2).dropWhile (· == 48)).length ≤ 16 := by
    have := (List.dropWhile_sublist (· == 48) (l := c2 :: t2)).length_le
    omega
  clear hc hc2
  generalize (c2 :: t2).dropWhile (· == 48) = u at *
  have CP := hasPrefix_any (bOf u) ⟨#[43]⟩
  rw [data_bOf, show (⟨#[43]⟩ : ByteArray).data.toList = [43] from rfl, hP] at CP
  have hex : (bOf (c :: t)).extract 1 (bOf (c :: t)).size = bOf t := by
    apply ByteArray.ext
    simp [bOf, ByteArray.size]
  have CS := hasSuffix_any (bOf t) (bOf u)
  rw [data_bOf, data_bOf] at CS
  have CS := kept (fun W => CS W (by rw [bOf_size]; simp at hal; omega))
  rw [show ((u.isSuffixOf t) : Bool) = Lib.hasSuffix t u from rfl] at HE
  have CT := kept CT
  have CP := kept CP
  have hz := bOf_size (c :: t)
  have hz2 := bOf_size u
  have hh : (bOf (c :: t))[0]'(by rw [bOf_size]; simp) = c := rfl
  have hpos : 0 < (bOf (c :: t)).size := by rw [bOf_size]; simp
  have hpos2 : (1 : Int) ≤ ((bOf (c :: t)).size : Int) := by omega
  clear hP hz
  have HH := kept hh
  by_cases h43 : c = 43
  · subst h43
    have hq : (((43 : UInt8).toNat : Int) == 43) = true := by decide
    go_enter Tryz.func81, Tryz.ntmps81
    go_wp2_with fail
    refine CT.out.mono ?_
    rintro e w1 ⟨rfl, hw1⟩
    subst hw1
    go_wp2_with fail
    refine (CP.out _).mono ?_
    rintro e w2 ⟨rfl, hw2⟩
    subst hw2
    by_cases h2 : c2 = 43
    · rw [decide_eq_true h2] at HE ⊢
      clear h2
      go_wp2_with fail
      go_ret
      exact ⟨by rw [HE.out]; rfl, rfl⟩
    · rw [decide_eq_false h2] at HE ⊢
      clear h2
      by_cases h6 : 6 ≤ u.length
      · rw [decide_eq_true h6] at HE
        have h6i : (6 : Int) ≤ (u.length : Int) := by omega
        generalize (Lib.hasSuffix t u) = r at *
        go_wp2_with fail
        refine (CS.out _).mono ?_
        rintro e w3 ⟨rfl, hw3⟩
        subst hw3
        go_wp2_with fail
        go_ret
        exact ⟨by rw [HE.out]; rfl, rfl⟩
      · rw [decide_eq_false h6] at HE
        have h6i : ¬ (6 : Int) ≤ (u.length : Int) := by omega
        go_wp2_with fail
        go_ret
        exact ⟨by rw [HE.out]; rfl, rfl⟩
  · rw [decide_eq_false h43] at HE
    have hq : ((c.toNat : Int) == 43) = false := by
      rw [beq_eq_false_iff_ne]
      intro e
      exact h43 (UInt8.toNat_inj.1 (show c.toNat = (43 : UInt8).toNat by have : (43 : UInt8).toNat = 43 := rfl; omega))
    clear h43
    go_enter Tryz.func81, Tryz.ntmps81
    go_wp2_with fail
    refine CT.out.mono ?_
    rintro e w1 ⟨rfl, hw1⟩
    subst hw1
    go_wp2_with fail
    go_ret
    exact ⟨by rw [HE.out]; rfl, rfl⟩
end Go.Proofs.YtfkfpanhbanljaaGreatDoor.Phone

/- The walks of layer 46, continued: the document's Norm. -/
namespace Go.Proofs.YtfkfpanhbanljaaGreatDoor.Phone
open Go.RowKit Go.Proofs.YtfkfpanhbanljaaGreatDoor.Mem Go.Proofs.YtfkfpanhbanljaaGreatDoor.Card Go.Proofs.YtfkfpanhbanljaaGreatDoor.Laid Go.Proofs.YtfkfpanhbanljaaGreatDoor.Fold

theorem digit_any (c : UInt8) (w : World) : Calls Tryz.prog 106 #[.int .u8 (c.toNat : Int)] w fun e w' => e = .returned (.bool (isD c)) ∧ w = w' := by
  have h1 : decide ((48 : Int) ≤ (c.toNat : Int)) = decide (48 ≤ c.toNat) := by rw [decide_eq_decide]; omega
  have h2 : decide ((c.toNat : Int) ≤ 57) = decide (c.toNat ≤ 57) := by rw [decide_eq_decide]; omega
  have HD : Kept (isD c = (decide (48 ≤ c.toNat) && decide (c.toNat ≤ 57))) := ⟨rfl⟩
  rcases (show c.toNat < 48 ∨ (48 ≤ c.toNat ∧ c.toNat ≤ 57) ∨ 57 < c.toNat by omega) with h | ⟨h, h'⟩ | h
  · have HR : Kept (isD c = false) := ⟨by rw [HD.out, decide_eq_false (by omega)]; rfl⟩
    have h3 : ¬ (48 : Int) ≤ (c.toNat : Int) := by omega
    clear h1 h2 HD h
    go_enter Tryz.func106, Tryz.ntmps106
    go_wp2
    go_ret
    exact ⟨by rw [HR.out]; rfl, rfl⟩
  · have HR : Kept (isD c = true) := ⟨by rw [HD.out, decide_eq_true h, decide_eq_true h']; rfl⟩
    have h3 : (48 : Int) ≤ (c.toNat : Int) := by omega
    have h4 : (c.toNat : Int) ≤ 57 := by omega
    clear h1 h2 HD h h'
    go_enter Tryz.func106, Tryz.ntmps106
    go_wp2
    go_ret
    exact ⟨by rw [HR.out]; rfl, rfl⟩
  · have HR : Kept (isD c = false) := ⟨by rw [HD.out, decide_eq_true (by omega), decide_eq_false (by omega)]; rfl⟩
    have h3 : (48 : Int) ≤ (c.toNat : Int) := by omega
    have h4 : ¬ (c.toNat : Int) ≤ 57 := by omega
    clear h1 h2 HD h
    go_enter Tryz.func106, Tryz.ntmps106
    go_wp2
    go_ret
    exact ⟨by rw [HR.out]; rfl, rfl⟩
theorem num_eq (c : UInt8) (n : Nat) (hn : n < 256) : ((c.toNat : Int) == (n : Int)) = (c == UInt8.ofNat n) := by
  rw [Bool.eq_iff_iff, beq_iff_eq, beq_iff_eq]
  constructor
  · intro h
    apply UInt8.toNat_inj.1
    simp only [UInt8.toNat_ofNat']
    omega
  · rintro rfl
    simp only [UInt8.toNat_ofNat']
    omega
theorem between_any (c : UInt8) (w : World) : Calls Tryz.prog 107 #[.int .u8 (c.toNat : Int)] w fun e w' => e = .returned (.bool (isB c)) ∧ w = w' := by
  have HB : Kept (isB c = (c == 32 || c == 45 || c == 46 || c == 47 || c == 40 || c == 41)) := ⟨rfl⟩
  have n1 : ((c.toNat : Int) == 32) = (c == 32) := num_eq c 32 (by decide)
  have n2 : ((c.toNat : Int) == 45) = (c == 45) := num_eq c 45 (by decide)
  have n3 : ((c.toNat : Int) == 46) = (c == 46) := num_eq c 46 (by decide)
  have n4 : ((c.toNat : Int) == 47) = (c == 47) := num_eq c 47 (by decide)
  have n5 : ((c.toNat : Int) == 40) = (c == 40) := num_eq c 40 (by decide)
  have n6 : ((c.toNat : Int) == 41) = (c == 41) := num_eq c 41 (by decide)
  generalize (c == 32) = b1 at *
  generalize (c == 45) = b2 at *
  generalize (c == 46) = b3 at *
  generalize (c == 47) = b4 at *
  generalize (c == 40) = b5 at *
  generalize (c == 41) = b6 at *
  go_enter Tryz.func107, Tryz.ntmps107
  cases b1 with
  | true => go_wp2; go_ret; exact ⟨by rw [HB.out]; rfl, rfl⟩
  | false =>
  cases b2 with
  | true => go_wp2; go_ret; exact ⟨by rw [HB.out]; rfl, rfl⟩
  | false =>
  cases b3 with
  | true => go_wp2; go_ret; exact ⟨by rw [HB.out]; rfl, rfl⟩
  | false =>
  cases b4 with
  | true => go_wp2; go_ret; exact ⟨by rw [HB.out]; rfl, rfl⟩
  | false =>
  cases b5 with
  | true => go_wp2; go_ret; exact ⟨by rw [HB.out]; rfl, rfl⟩
  | false =>
  cases b6 with
  | true => go_wp2; go_ret; exact ⟨by rw [HB.out]; rfl, rfl⟩
  | false => go_wp2; go_ret; exact ⟨by rw [HB.out]; rfl, rfl⟩
theorem bOf_extract (l : List UInt8) (k : Nat) : (bOf l).extract 0 k = bOf (l.take k) := by
  apply ByteArray.ext
  simp [bOf]
def plusV (b : Bool) : Value := .string (if b then ⟨#[43]⟩ else ⟨#[]⟩)
theorem take_data (s : ByteArray) (k : Nat) (h : k < s.size) : s.data.toList.take (k + 1) = s.data.toList.take k ++ [s[k]] := by
  rw [List.take_succ_eq_append_getElem (by simpa using h)]; rfl
theorem scan_take {s : ByteArray} {k : Nat} {st : Scan} (h : k < s.size) (hs : scan (s.data.toList.take k) ⟨[], false, false⟩ = some st) : scan (s.data.toList.take (k + 1)) ⟨[], false, false⟩ = step st s[k] := by
  rw [take_data s k h, scan_snoc, hs]; rfl
theorem scan_fail {s : ByteArray} {k : Nat} (hs : scan (s.data.toList.take k) ⟨[], false, false⟩ = none) : scan s.data.toList ⟨[], false, false⟩ = none := by
  have : ∀ (a b : List UInt8) (st : Scan), scan a st = none → scan (a ++ b) st = none := by
    intro a
    induction a with
    | nil => intro b st h; simp [scan] at h
    | cons c a ih =>
      intro b st h
      rw [List.cons_append]
      unfold scan at h ⊢
      cases hst : step st c with
      | none => rfl
      | some s' => rw [hst] at h; exact ih b s' h
  have h2 := this _ (s.data.toList.drop k) _ hs
  rwa [List.take_append_drop] at h2
theorem norm_scan (s : List UInt8) : norm s = (scan s ⟨[], false, false⟩).bind fun r => fin2 (zz r.plus r.d) := by
  have h := scan_all s
  unfold norm
  cases hs : scan s ⟨[], false, false⟩ with
  | none =>
    rw [hs] at h
    split at h
    · cases h
    · rename_i hk
      rw [if_neg hk]; rfl
  | some r =>
    rw [hs] at h
    split at h
    · rename_i hk
      rw [if_pos hk]
      injection h with h
      injection h with h1 h2
      show _ = fin2 (zz r.plus r.d)
      rw [h1, h2]
    · cases h
theorem extract_one (s : ByteArray) (k : Nat) (h : k < s.size) : s.extract k (k + 1) = bOf [s[k]] := by
  have := one_extract s.data.toList k (by rw [bOf_data]; exact h)
  have e : ∀ (u : ByteArray), u = s → ∀ hu : k < u.size, u.extract k (k + 1) = ⟨#[u[k]]⟩ → s.extract k (k + 1) = bOf [s[k]] := by
    rintro u rfl hu h2
    exact h2
  exact e _ (bOf_data s) (by rw [bOf_data]; exact h) this
theorem rnorm_any (s : ByteArray) (w : World) (hs : s.size ≤ 140737488355000) : Calls Tryz.prog 84 #[.string s] w fun e w' => e = .returned (.tuple #[.string (normB s), .bool (normOk s)]) ∧ w = w' := by
  have HN := kept (norm_scan s.data.toList)
  go_enter Tryz.func84, Tryz.ntmps84
  go_wp2_with fail
  go_loop [4, 5, 6, 7] (fun d p b i => ∃ (k : Nat) (st : Scan), k ≤ s.size ∧ i = .int .i64 (k : Int) ∧ Kept (scan (s.data.toList.take k) ⟨[], false, false⟩ = some st) ∧ st.d.length ≤ k ∧ d = .string (bOf st.d) ∧ p = plusV st.plus ∧ b = .bool st.begun) (fun _ _ _ i => s.size - (intOf i).toNat)
  case atStart => exact ⟨0, ⟨[], false, false⟩, Nat.zero_le _, rfl, ⟨rfl⟩, Nat.le_refl _, rfl, rfl, rfl⟩
  case round =>
    obtain ⟨k, st, hk, rfl, hst, hl, rfl, rfl, rfl⟩ := hrel
    by_cases hlt : k < s.size
    · have hsc := scan_take hlt hst.out
      have hex := extract_one s k hlt
      go_wp2_with fail
      generalize s[k] = y at *
      refine (digit_any y _).mono ?_
      rintro e w' ⟨rfl, rfl⟩
      obtain ⟨sd, sp, sb⟩ := st
      dsimp only at *
      cases hD : isD y with
      | true =>
        have HX : Kept (scan (s.data.toList.take (k + 1)) ⟨[], false, false⟩ = some ⟨sd ++ [y], sp, true⟩) := ⟨by rw [hsc]; simp [step, hD]⟩
        have hcz : ¬ 9223372036854775807 < (bOf sd).size + (bOf [y]).size := by rw [bOf_size, bOf_size]; simp; omega
        have hca : Kept (bOf sd ++ bOf [y] = bOf (sd ++ [y])) := ⟨bOf_app _ _⟩
        have hk1 : (k : Int) + 1 ≤ (s.size : Int) := by omega
        clear hD hsc
        go_wp2_with fail
        go_round
        case rel => exact ⟨k + 1, ⟨sd ++ [y], sp, true⟩, by omega, by go_num, HX, by simp; omega, by rw [hca.out], rfl, rfl⟩
        case measure => simp [intOf]; omega
      | false =>
        have hp43 : ((y.toNat : Int) == 43) = (y == 43) := num_eq y 43 (by decide)
        clear hex
        cases h43 : (y == 43 && !sb) with
        | true =>
          obtain ⟨h4, hsb⟩ : y = 43 ∧ sb = false := by simpa using h43
          subst hsb
          rw [h4] at hp43
          have HX : Kept (scan (s.data.toList.take (k + 1)) ⟨[], false, false⟩ = some ⟨sd, true, true⟩) := ⟨by rw [hsc, h4]; simp [step, isD_not_plus]⟩
          have hp : ((y.toNat : Int) == 43) = true := by rw [h4]; rfl
          clear hD hsc h43 hp43 h4
          go_wp2_with fail
          go_round
          case rel => exact ⟨k + 1, ⟨sd, true, true⟩, by omega, by go_num, HX, by show sd.length ≤ k + 1; omega, rfl, rfl, rfl⟩
          case measure => simp [intOf]; omega
        | false =>
          have hbt : ((y.toNat : Int) == 32) = (y == 32) := num_eq y 32 (by decide)
          cases hy : (y == 43) with
          | true =>
            obtain rfl : sb = true := by rw [hy] at h43; simpa using h43
            have hy' : y = 43 := by simpa using hy
            have HF : Kept (normB s = ⟨#[]⟩ ∧ normOk s = false) := ⟨normB_none (by rw [HN.out, scan_fail (k := k + 1) (by rw [hsc, hy']; rfl)]; rfl)⟩
            rw [hy] at hp43
            have CB := kept (show ∀ W : World, Calls Tryz.prog 107 #[.int .u8 43] W fun e w' => e = .returned (.bool false) ∧ W = w' from fun W => between_any 43 W)
            have hyn : (y.toNat : Int) = 43 := by rw [hy']; rfl
            rw [hyn] at hp43 ⊢
            clear hD hsc h43 hy hy' hbt hyn
            go_wp2_with fail
            refine (CB.out _).mono ?_
            rintro e w' ⟨rfl, rfl⟩
            go_wp2_with fail
            go_ret2
            exact ⟨by rw [HF.out.1, HF.out.2]; rfl, rfl⟩
          | false =>
            have hy' : ¬ y = 43 := by simpa using hy
            rw [hy] at hp43
            cases hB : isB y with
            | true =>
              cases h32 : (y == 32) with
              | true =>
                have HX : Kept (scan (s.data.toList.take (k + 1)) ⟨[], false, false⟩ = some ⟨sd, sp, sb⟩) := ⟨by
                  have : y = 32 := by simpa using h32
                  rw [hsc]; subst this; rfl⟩
                rw [h32] at hbt
                have hbt2 : ((y.toNat : Int) != 32) = !((y.toNat : Int) == 32) := rfl
                rw [hbt] at hbt2
                have CB := kept (fun W => between_any y W)
                rw [hB] at CB
                clear hD hsc h43 hy hy' hB h32
                go_wp2_with fail
                refine (CB.out _).mono ?_
                rintro e w' ⟨rfl, rfl⟩
                go_wp2_with fail
                go_round
                case rel => exact ⟨k + 1, ⟨sd, sp, sb⟩, by omega, by go_num, HX, by show sd.length ≤ k + 1; omega, rfl, rfl, rfl⟩
                case measure => simp [intOf]; omega
              | false =>
                have HX : Kept (scan (s.data.toList.take (k + 1)) ⟨[], false, false⟩ = some ⟨sd, sp, true⟩) := ⟨by
                  have : ¬ y = 32 := by simpa using h32
                  rw [hsc]; simp [step, hD, hy', hB, this]⟩
                rw [h32] at hbt
                have hbt2 : ((y.toNat : Int) != 32) = !((y.toNat : Int) == 32) := rfl
                rw [hbt] at hbt2
                have CB := kept (fun W => between_any y W)
                rw [hB] at CB
                clear hD hsc h43 hy hy' hB h32
                go_wp2_with fail
                refine (CB.out _).mono ?_
                rintro e w' ⟨rfl, rfl⟩
                go_wp2_with fail
                go_round
                case rel => exact ⟨k + 1, ⟨sd, sp, true⟩, by omega, by go_num, HX, by show sd.length ≤ k + 1; omega, rfl, rfl, rfl⟩
                case measure => simp [intOf]; omega
            | false =>
              have HF : Kept (normB s = ⟨#[]⟩ ∧ normOk s = false) := ⟨normB_none (by rw [HN.out, scan_fail (k := k + 1) (by rw [hsc]; simp [step, hD, hy', hB])]; rfl)⟩
              have CB := kept (fun W => between_any y W)
              rw [hB] at CB
              clear hD hsc h43 hy hy' hB
              go_wp2_with fail
              refine (CB.out _).mono ?_
              rintro e w' ⟨rfl, rfl⟩
              go_wp2_with fail
              go_ret2
              exact ⟨by rw [HF.out.1, HF.out.2]; rfl, rfl⟩
    · have hall : scan s.data.toList ⟨[], false, false⟩ = some st := by
        rw [← hst.out, List.take_of_length_le (by simp; omega)]
      have hnm : norm s.data.toList = fin2 (zz st.plus st.d) := by rw [HN.out, hall]; rfl
      obtain ⟨sd, sp, sb⟩ := st
      dsimp only at *
      have HM := kept hnm
      have hds := bOf_size sd
      have hsl := hl
      clear HN hst hall hnm
      have hN := kept (fun h => normB_none (s := s) h)
      have hS := kept (fun x h => normB_some (s := s) (x := x) h)
      cases sp with
      | true =>
        have hpv : plusV true = .string ⟨#[43]⟩ := rfl
        rw [hpv]
        clear hpv
        have hzz : zz true sd = (true, sd) := rfl
        rw [hzz] at HM
        by_cases h3 : sd.length < 3
        · have E := kept (hN.out (by rw [HM.out]; unfold fin2; rw [if_pos (.inl h3)]))
          clear hN hS HM hzz
          go_wp2_with fail
          go_ret2
          exact ⟨by rw [E.out.1, E.out.2]; rfl, rfl⟩
        · by_cases h15 : 15 < sd.length
          · have E := kept (hN.out (by rw [HM.out]; unfold fin2; rw [if_pos (.inr h15)]))
            clear hN hS HM hzz
            go_wp2_with fail
            go_ret2
            exact ⟨by rw [E.out.1, E.out.2]; rfl, rfl⟩
          · have E := kept (hS.out (43 :: sd) (by rw [HM.out]; unfold fin2; rw [if_neg (by simp only []; omega)]; rfl))
            have hcz : ¬ 9223372036854775807 < (⟨#[43]⟩ : ByteArray).size + (bOf sd).size := by have : (⟨#[43]⟩ : ByteArray).size = 1 := rfl; omega
            have hca : Kept ((⟨#[43]⟩ : ByteArray) ++ bOf sd = bOf (43 :: sd)) := ⟨by
              have : (⟨#[43]⟩ : ByteArray) = bOf [43] := rfl
              rw [this, bOf_app]; rfl⟩
            clear hN hS HM hzz
            go_wp2_with fail
            go_ret2
            exact ⟨by rw [E.out.1, E.out.2, ← hca.out]; rfl, rfl⟩
      | false =>
        have hpv : plusV false = .string ⟨#[]⟩ := rfl
        rw [hpv]
        clear hpv
        cases hz : ([48, 48] : List UInt8).isPrefixOf sd with
        | true =>
          obtain ⟨r, rfl⟩ : ∃ r, sd = 48 :: 48 :: r := by
            rw [List.isPrefixOf_iff_prefix] at hz
            obtain ⟨r, hr⟩ := hz
            exact ⟨r, hr.symm⟩
          have hzz : zz false (48 :: 48 :: r) = (true, r) := by unfold zz; rw [if_neg (by decide), if_pos hz]; rfl
          rw [hzz] at HM
          have hl2 : (48 :: 48 :: r).length = r.length + 2 := rfl
          rw [hl2] at hds hl hsl
          have hx1 : (bOf (48 :: 48 :: r)).extract 0 2 = ⟨#[48, 48]⟩ := by rw [bOf_extract]; rfl
          have hx2 : (bOf (48 :: 48 :: r)).extract 2 (r.length + 2) = bOf r := by
            apply ByteArray.ext
            simp [bOf]
          have hrs := bOf_size r
          have h2i : (2 : Int) ≤ (r.length : Int) + 2 := by omega
          clear hzz hz hl2
          by_cases h3 : r.length < 3
          · have E := kept (hN.out (by rw [HM.out]; unfold fin2; rw [if_pos (.inl h3)]))
            clear hN hS HM
            go_wp2_with fail
            go_ret2
            exact ⟨by rw [E.out.1, E.out.2]; rfl, rfl⟩
          · by_cases h15 : 15 < r.length
            · have E := kept (hN.out (by rw [HM.out]; unfold fin2; rw [if_pos (.inr h15)]))
              clear hN hS HM
              go_wp2_with fail
              go_ret2
              exact ⟨by rw [E.out.1, E.out.2]; rfl, rfl⟩
            · have E := kept (hS.out (43 :: r) (by rw [HM.out]; unfold fin2; rw [if_neg (by simp only []; omega)]; rfl))
              have hcz : ¬ 9223372036854775807 < (⟨#[43]⟩ : ByteArray).size + (bOf r).size := by have : (⟨#[43]⟩ : ByteArray).size = 1 := rfl; omega
              have hca : Kept ((⟨#[43]⟩ : ByteArray) ++ bOf r = bOf (43 :: r)) := ⟨by
                have : (⟨#[43]⟩ : ByteArray) = bOf [43] := rfl
                rw [this, bOf_app]; rfl⟩
              clear hN hS HM
              go_wp2_with fail
              go_ret2
              exact ⟨by rw [E.out.1, E.out.2, ← hca.out]; rfl, rfl⟩
        | false =>
          have hzz : zz false sd = (false, sd) := by unfold zz; rw [if_neg (by decide), if_neg (by rw [hz]; decide)]
          rw [hzz] at HM
          have hx1 : (bOf sd).extract 0 2 = bOf (sd.take 2) := bOf_extract sd 2
          have hx3 : 2 ≤ sd.length → ((bOf (sd.take 2)).toList == [48, 48]) = false := fun h => by
            rw [bOf_toList, beq_eq_false_iff_ne]
            intro e
            have : ([48, 48] : List UInt8).isPrefixOf sd = true := by rw [List.isPrefixOf_iff_prefix, ← e]; exact List.take_prefix 2 sd
            rw [this] at hz
            cases hz
          clear hzz hz
          by_cases h3 : sd.length < 3
          · have E := kept (hN.out (by rw [HM.out]; unfold fin2; rw [if_pos (.inl h3)]))
            clear hN hS HM
            by_cases h2 : 2 ≤ sd.length
            · have hx4 := hx3 h2
              have h2i : (2 : Int) ≤ (sd.length : Int) := by omega
              clear hx3
              go_wp2_with fail
              go_ret2
              exact ⟨by rw [E.out.1, E.out.2]; rfl, rfl⟩
            · have h2i : ¬ (2 : Int) ≤ (sd.length : Int) := by omega
              clear hx3
              go_wp2_with fail
              go_ret2
              exact ⟨by rw [E.out.1, E.out.2]; rfl, rfl⟩
          · have hx4 := hx3 (by omega)
            have h2i : (2 : Int) ≤ (sd.length : Int) := by omega
            clear hx3
            by_cases h15 : 15 < sd.length
            · have E := kept (hN.out (by rw [HM.out]; unfold fin2; rw [if_pos (.inr h15)]))
              clear hN hS HM
              go_wp2_with fail
              go_ret2
              exact ⟨by rw [E.out.1, E.out.2]; rfl, rfl⟩
            · have E := kept (hS.out sd (by rw [HM.out]; unfold fin2; rw [if_neg (by simp only []; omega)]; rfl))
              have hcz : ¬ 9223372036854775807 < (⟨#[]⟩ : ByteArray).size + (bOf sd).size := by have : (⟨#[]⟩ : ByteArray).size = 0 := rfl; omega
              have hca : Kept ((⟨#[]⟩ : ByteArray) ++ bOf sd = bOf sd) := ⟨by
                have : (⟨#[]⟩ : ByteArray) = bOf [] := rfl
                rw [this, bOf_app]; rfl⟩
              clear hN hS HM
              go_wp2_with fail
              go_ret2
              exact ⟨by rw [E.out.1, E.out.2]; first | rfl | (rw [← hca.out]; rfl), rfl⟩
end Go.Proofs.YtfkfpanhbanljaaGreatDoor.Phone

/- The walks of layer 46, continued: ends of the document; Same of both. -/
namespace Go.Proofs.YtfkfpanhbanljaaGreatDoor.Phone
open Go.RowKit Go.Proofs.YtfkfpanhbanljaaGreatDoor.Mem Go.Proofs.YtfkfpanhbanljaaGreatDoor.Card Go.Proofs.YtfkfpanhbanljaaGreatDoor.Laid Go.Proofs.YtfkfpanhbanljaaGreatDoor.Fold

def strLen : Value → Nat
  | .string s => s.size
  | _ => 0
theorem strLen_mk (s : ByteArray) : strLen (.string s) = s.size := rfl
theorem rends_any (a b : ByteArray) (w : World) (ha : NFB a) (hb : NFB b) : Calls Tryz.prog 85 #[.string a, .string b] w fun e w' => e = .returned (.bool (endsB a b)) ∧ w = w' := by
  obtain ⟨c, t, hx, hc⟩ := nf_cons ha
  obtain ⟨c2, t2, hx2, hc2⟩ := nf_cons hb
  have hal := nf_length ha
  have hbl := nf_length hb
  obtain rfl : a = bOf (c :: t) := by rw [← hx, bOf_data]
  obtain rfl : b = bOf (c2 :: t2) := by rw [← hx2, bOf_data]
  rw [data_bOf] at hal hbl
  clear hx hx2 hc hc2 ha hb
  have HE : Kept (endsB (bOf (c :: t)) (bOf (c2 :: t2)) = (decide (c = 43) && !decide (c2 = 43) && decide (6 ≤ ((c2 :: t2).dropWhile (· == 48)).length) && ((c2 :: t2).dropWhile (· == 48)).isSuffixOf t)) := ⟨by
    unfold endsB ends
    rw [data_bOf, data_bOf]
    simp only [List.head?_cons, List.drop_succ_cons, List.drop_zero]
    rw [show (some c == some 43) = decide (c = 43) by rw [Bool.eq_iff_iff]; simp, show (some c2 == some (43 : UInt8)) = decide (c2 = 43) by rw [Bool.eq_iff_iff]; simp]⟩
  have hz := bOf_size (c :: t)
  have hz2 := bOf_size (c2 :: t2)
  have hh : (bOf (c :: t))[0]'(by rw [bOf_size]; simp) = c := rfl
  have hh2 : (bOf (c2 :: t2))[0]'(by rw [bOf_size]; simp) = c2 := rfl
  have hpos : 0 < (bOf (c :: t)).size := by rw [bOf_size]; simp
  have hpos2 : 0 < (bOf (c2 :: t2)).size := by rw [bOf_size]; simp
  have hn1 : ((c.toNat : Int) == 43) = (c == 43) := num_eq c 43 (by decide)
  have hn2 : ((c2.toNat : Int) == 43) = (c2 == 43) := num_eq c2 43 (by decide)
  have hm1 : ((c.toNat : Int) != 43) = !((c.toNat : Int) == 43) := rfl
  rw [hn1] at hm1
  by_cases h1 : c = 43
  · rw [show (c == 43) = true by simpa using h1] at hn1 hm1
    rw [decide_eq_true h1] at HE
    by_cases h2 : c2 = 43
    · rw [show (c2 == 43) = true by simpa using h2] at hn2
      rw [decide_eq_true h2] at HE
      clear h1 h2
      go_enter Tryz.func85, Tryz.ntmps85
      go_wp2
      go_ret
      exact ⟨by rw [HE.out]; rfl, rfl⟩
    · rw [show (c2 == 43) = false by simpa using h2] at hn2
      rw [decide_eq_false h2] at HE
      subst h1
      clear h2 hz hn1
      have hul : ((c2 :: t2).dropWhile (· == 48)).length ≤ 16 := by
        have := (List.dropWhile_sublist (· == 48) (l := c2 :: t2)).length_le
        omega
      have HE2 : Kept (∀ u, u = (c2 :: t2).dropWhile (· == 48) → endsB (bOf (43 :: t)) (bOf (c2 :: t2)) = (decide (6 ≤ u.length) && u.isSuffixOf t)) := ⟨by rintro u rfl; rw [HE.out]; rfl⟩
      clear HE
      go_enter Tryz.func85, Tryz.ntmps85
      go_wp2
      go_loop [1] (fun v => ∃ u : List UInt8, v = .string (bOf u) ∧ u.length ≤ 16 ∧ Kept (u.dropWhile (· == 48) = (c2 :: t2).dropWhile (· == 48))) (fun v => strLen v)
      case atStart => exact ⟨c2 :: t2, rfl, by omega, ⟨rfl⟩⟩
      case round =>
        obtain ⟨u, rfl, hu16, hu⟩ := hrel
        cases u with
        | nil =>
          have HR := kept (HE2.out [] hu.out)
          have hz0 : (bOf []).size = 0 := rfl
          clear HE2 hu
          go_wp2
          go_ret
          exact ⟨by rw [HR.out]; rfl, rfl⟩
        | cons d u =>
          have hzu := bOf_size (d :: u)
          have hzt := bOf_size ((43 : UInt8) :: t)
          have hlu : (d :: u).length = u.length + 1 := rfl
          have hlt : ((43 : UInt8) :: t).length = t.length + 1 := rfl
          rw [hlu] at hzu hu16
          rw [hlt] at hzt hal
          have hdn : ((d.toNat : Int) == 48) = (d == 48) := num_eq d 48 (by decide)
          have hex : (bOf (d :: u)).extract 1 (u.length + 1) = bOf u := by
            apply ByteArray.ext
            simp [bOf]
          have hposu : 0 < (bOf (d :: u)).size := by rw [bOf_size]; simp
          have hhu : (bOf (d :: u))[0]'hposu = d := rfl
          have hi0 : (0 : Int) < (u.length : Int) + 1 := by omega
          have hi1 : (1 : Int) ≤ (u.length : Int) + 1 := by omega
          by_cases hd : d = 48
          · rw [show (d == 48) = true by simpa using hd] at hdn
            have hu2 : Kept (u.dropWhile (· == 48) = (c2 :: t2).dropWhile (· == 48)) := ⟨by rw [← hu.out, hd]; rfl⟩
            clear hu hd
            go_wp2
            go_round
            case rel => exact ⟨u, rfl, by omega, hu2⟩
            case measure => rw [strLen_mk, strLen_mk, bOf_size, bOf_size]; simp
          · rw [show (d == 48) = false by simpa using hd] at hdn
            have hdw : (d :: u).dropWhile (· == 48) = d :: u := by rw [List.dropWhile_cons_of_neg (by simpa using hd)]
            have HR := kept (HE2.out (d :: u) (by rw [← hu.out, hdw]))
            clear HE2 hu hdw hd
            go_wp2
            · have h6 : (6 : Int) ≤ (u.length : Int) + 1 := by assumption
              have hl : u.length < t.length := by assumption
              have hfin : ((((bOf (43 :: t)).extract (t.length - u.length) (t.length + 1)).toList == (bOf (d :: u)).toList) : Bool) = (decide (6 ≤ (d :: u).length) && (d :: u).isSuffixOf t) := by
                have e1 : (bOf (43 :: t)).extract (t.length - u.length) (t.length + 1) = bOf (t.drop (t.length - (d :: u).length)) := by
                  apply ByteArray.ext
                  apply Array.ext'
                  simp [bOf]
                  rw [show t.length - u.length = (t.length - (u.length + 1)) + 1 by omega, List.drop_succ_cons, List.take_of_length_le (by simp)]
                rw [e1, bOf_toList, bOf_toList, decide_eq_true (show 6 ≤ (d :: u).length by simp; omega), Bool.true_and, Bool.eq_iff_iff, beq_iff_eq, List.isSuffixOf_iff_suffix]
                constructor
                · intro h; rw [← h]; exact List.drop_suffix _ _
                · rintro ⟨r, hr⟩
                  rw [← hr]
                  simp
              go_ret
              exact ⟨by rw [HR.out, ← hfin]; rfl, rfl⟩
            · have hl : ¬ u.length < t.length := by assumption
              have hfin : (decide (6 ≤ (d :: u).length) && (d :: u).isSuffixOf t) = false := by
                rw [Bool.and_eq_false_iff]
                right
                rw [Bool.eq_false_iff]
                intro h
                have := (List.isSuffixOf_iff_suffix.1 h).length_le
                simp at this
                omega
              go_ret
              exact ⟨by rw [HR.out, hfin]; rfl, rfl⟩
            · have h6 : ¬ (6 : Int) ≤ (u.length : Int) + 1 := by first | assumption | omega
              have hfin : (decide (6 ≤ (d :: u).length) && (d :: u).isSuffixOf t) = false := by
                rw [decide_eq_false (by simp; omega)]; rfl
              go_ret
              exact ⟨by rw [HR.out, hfin]; rfl, rfl⟩
  · rw [show (c == 43) = false by simpa using h1] at hn1 hm1
    rw [decide_eq_false h1] at HE
    clear h1
    go_enter Tryz.func85, Tryz.ntmps85
    go_wp2
    go_ret
    exact ⟨by rw [HE.out]; rfl, rfl⟩
end Go.Proofs.YtfkfpanhbanljaaGreatDoor.Phone

/- The walks of layer 46, continued: Same of both (written by a small program of this claim's). -/
namespace Go.Proofs.YtfkfpanhbanljaaGreatDoor.Phone
open Go.RowKit Go.Proofs.YtfkfpanhbanljaaGreatDoor.Mem Go.Proofs.YtfkfpanhbanljaaGreatDoor.Card Go.Proofs.YtfkfpanhbanljaaGreatDoor.Laid Go.Proofs.YtfkfpanhbanljaaGreatDoor.Fold

def sameB (a b : ByteArray) : Bool := same a.data.toList b.data.toList
theorem same_any (a b : ByteArray) (w : World) (ha : a.size ≤ 140737488355000) (hb : b.size ≤ 140737488355000) : Calls Tryz.prog 43 #[.string a, .string b] w fun e w' => e = .returned (.bool (sameB a b)) ∧ Below w.heap.size w w' := by
  have C1 := kept (norm_any a w ha)
  have C2 := kept (fun W => norm_any b W hb)
  have HS : Kept (sameB a b = (match norm a.data.toList, norm b.data.toList with | some x, some y => x == y || ends x y || ends y x | _, _ => false)) := ⟨rfl⟩
  have HA0 := kept (fun h => normB_none (s := a) h)
  have HA1 := kept (fun x h => normB_some (s := a) (x := x) h)
  have HB0 := kept (fun h => normB_none (s := b) h)
  have HB1 := kept (fun x h => normB_some (s := b) (x := x) h)
  have NA := kept (fun x h => norm_nf (s := a.data.toList) (x := x) h)
  have NB := kept (fun x h => norm_nf (s := b.data.toList) (x := x) h)
  cases hA : norm a.data.toList with
  | none =>
    have HR : Kept (sameB a b = false) := ⟨by rw [HS.out, hA]⟩
    obtain ⟨e1, e2⟩ := HA0.out hA
    rw [e1, e2] at C1
    generalize normB b = y at *
    generalize normOk b = yo at *
    clear HS HA0 HA1 HB0 HB1 NA NB hA e1 e2
    go_enter Tryz.func43, Tryz.ntmps43
    go_wp2_with fail
    refine C1.out.mono ?_
    rintro e w1 ⟨rfl, hb1⟩
    go_wp2_with fail
    refine (C2.out _).mono ?_
    rintro e w2 ⟨rfl, hb2⟩
    have hb2 := below_ch hb1 hb2
    go_wp2_with fail
    go_ret
    exact ⟨by rw [HR.out]; rfl, hb2⟩
  | some x =>
    obtain ⟨e1, e2⟩ := HA1.out x hA
    rw [e1, e2] at C1
    cases hB : norm b.data.toList with
    | none =>
      have HR : Kept (sameB a b = false) := ⟨by rw [HS.out, hA, hB]⟩
      obtain ⟨e3, e4⟩ := HB0.out hB
      rw [e3, e4] at C2
      clear HS HA0 HA1 HB0 HB1 NA NB hA hB e1 e2 e3 e4
      go_enter Tryz.func43, Tryz.ntmps43
      go_wp2_with fail
      refine C1.out.mono ?_
      rintro e w1 ⟨rfl, hb1⟩
      go_wp2_with fail
      refine (C2.out _).mono ?_
      rintro e w2 ⟨rfl, hb2⟩
      have hb2 := below_ch hb1 hb2
      go_wp2_with fail
      go_ret
      exact ⟨by rw [HR.out]; rfl, hb2⟩
    | some y =>
      obtain ⟨e3, e4⟩ := HB1.out y hB
      rw [e3, e4] at C2
      have nx : NFB (bOf x) := by unfold NFB; rw [data_bOf]; exact NA.out x hA
      have ny : NFB (bOf y) := by unfold NFB; rw [data_bOf]; exact NB.out y hB
      have L1 := kept (fun W => local_any (bOf x) (bOf y) W nx ny)
      have L2 := kept (fun W => local_any (bOf y) (bOf x) W ny nx)
      have HR : Kept (sameB a b = (decide (bOf x = bOf y) || endsB (bOf x) (bOf y) || endsB (bOf y) (bOf x))) := ⟨by
        rw [HS.out, hA, hB]
        unfold endsB
        rw [data_bOf, data_bOf]
        have : decide (bOf x = bOf y) = (x == y) := by rw [Bool.eq_iff_iff, decide_eq_true_eq, beq_iff_eq]; exact ⟨bOf_inj, fun h => by rw [h]⟩
        rw [this]⟩
      have hq := str_beq (bOf x) (bOf y)
      clear HS HA0 HA1 HB0 HB1 NA NB hA hB e1 e2 e3 e4 nx ny
      generalize endsB (bOf x) (bOf y) = r1 at *
      generalize endsB (bOf y) (bOf x) = r2 at *
      generalize decide (bOf x = bOf y) = r0 at *
      cases r0 with
      | true =>
        go_enter Tryz.func43, Tryz.ntmps43
        go_wp2_with fail
        refine C1.out.mono ?_
        rintro e w1 ⟨rfl, hb1⟩
        go_wp2_with fail
        refine (C2.out _).mono ?_
        rintro e w2 ⟨rfl, hb2⟩
        have hb2 := below_ch hb1 hb2
        go_wp2_with fail
        go_ret
        exact ⟨by rw [HR.out]; rfl, hb2⟩
      | false =>
        cases r1 with
        | true =>
          go_enter Tryz.func43, Tryz.ntmps43
          go_wp2_with fail
          refine C1.out.mono ?_
          rintro e w1 ⟨rfl, hb1⟩
          go_wp2_with fail
          refine (C2.out _).mono ?_
          rintro e w2 ⟨rfl, hb2⟩
          have hb2 := below_ch hb1 hb2
          go_wp2_with fail
          refine (L1.out _).mono ?_
          rintro e w3 ⟨rfl, hw3⟩
          subst hw3
          go_wp2_with fail
          go_ret
          exact ⟨by rw [HR.out]; rfl, hb2⟩
        | false =>
          go_enter Tryz.func43, Tryz.ntmps43
          go_wp2_with fail
          refine C1.out.mono ?_
          rintro e w1 ⟨rfl, hb1⟩
          go_wp2_with fail
          refine (C2.out _).mono ?_
          rintro e w2 ⟨rfl, hb2⟩
          have hb2 := below_ch hb1 hb2
          go_wp2_with fail
          refine (L1.out _).mono ?_
          rintro e w3 ⟨rfl, hw3⟩
          subst hw3
          go_wp2_with fail
          refine (L2.out _).mono ?_
          rintro e w4 ⟨rfl, hw4⟩
          subst hw4
          go_wp2_with fail
          go_ret
          exact ⟨by rw [HR.out]; rfl, hb2⟩
theorem rsame_any (a b : ByteArray) (w : World) (ha : a.size ≤ 140737488355000) (hb : b.size ≤ 140737488355000) : Calls Tryz.prog 48 #[.string a, .string b] w fun e w' => e = .returned (.bool (sameB a b)) ∧ Below w.heap.size w w' := by
  have C1 := kept (rnorm_any a w ha)
  have C2 := kept (fun W => rnorm_any b W hb)
  have HS : Kept (sameB a b = (match norm a.data.toList, norm b.data.toList with | some x, some y => x == y || ends x y || ends y x | _, _ => false)) := ⟨rfl⟩
  have HA0 := kept (fun h => normB_none (s := a) h)
  have HA1 := kept (fun x h => normB_some (s := a) (x := x) h)
  have HB0 := kept (fun h => normB_none (s := b) h)
  have HB1 := kept (fun x h => normB_some (s := b) (x := x) h)
  have NA := kept (fun x h => norm_nf (s := a.data.toList) (x := x) h)
  have NB := kept (fun x h => norm_nf (s := b.data.toList) (x := x) h)
  cases hA : norm a.data.toList with
  | none =>
    have HR : Kept (sameB a b = false) := ⟨by rw [HS.out, hA]⟩
    obtain ⟨e1, e2⟩ := HA0.out hA
    rw [e1, e2] at C1
    generalize normB b = y at *
    generalize normOk b = yo at *
    clear HS HA0 HA1 HB0 HB1 NA NB hA e1 e2
    go_enter Tryz.func48, Tryz.ntmps48
    go_wp2_with fail
    refine C1.out.mono ?_
    rintro e w1 ⟨rfl, hb1⟩
    go_wp2_with fail
    refine (C2.out _).mono ?_
    rintro e w2 ⟨rfl, hb2⟩
    have hb2 : Below w.heap.size w w2 := by subst hb1; subst hb2; exact Below.refl _ _
    go_wp2_with fail
    go_ret
    exact ⟨by rw [HR.out]; rfl, hb2⟩
  | some x =>
    obtain ⟨e1, e2⟩ := HA1.out x hA
    rw [e1, e2] at C1
    cases hB : norm b.data.toList with
    | none =>
      have HR : Kept (sameB a b = false) := ⟨by rw [HS.out, hA, hB]⟩
      obtain ⟨e3, e4⟩ := HB0.out hB
      rw [e3, e4] at C2
      clear HS HA0 HA1 HB0 HB1 NA NB hA hB e1 e2 e3 e4
      go_enter Tryz.func48, Tryz.ntmps48
      go_wp2_with fail
      refine C1.out.mono ?_
      rintro e w1 ⟨rfl, hb1⟩
      go_wp2_with fail
      refine (C2.out _).mono ?_
      rintro e w2 ⟨rfl, hb2⟩
      have hb2 : Below w.heap.size w w2 := by subst hb1; subst hb2; exact Below.refl _ _
      go_wp2_with fail
      go_ret
      exact ⟨by rw [HR.out]; rfl, hb2⟩
    | some y =>
      obtain ⟨e3, e4⟩ := HB1.out y hB
      rw [e3, e4] at C2
      have nx : NFB (bOf x) := by unfold NFB; rw [data_bOf]; exact NA.out x hA
      have ny : NFB (bOf y) := by unfold NFB; rw [data_bOf]; exact NB.out y hB
      have L1 := kept (fun W => rends_any (bOf x) (bOf y) W nx ny)
      have L2 := kept (fun W => rends_any (bOf y) (bOf x) W ny nx)
      have HR : Kept (sameB a b = (decide (bOf x = bOf y) || endsB (bOf x) (bOf y) || endsB (bOf y) (bOf x))) := ⟨by
        rw [HS.out, hA, hB]
        unfold endsB
        rw [data_bOf, data_bOf]
        have : decide (bOf x = bOf y) = (x == y) := by rw [Bool.eq_iff_iff, decide_eq_true_eq, beq_iff_eq]; exact ⟨bOf_inj, fun h => by rw [h]⟩
        rw [this]⟩
      have hq := str_beq (bOf x) (bOf y)
      clear HS HA0 HA1 HB0 HB1 NA NB hA hB e1 e2 e3 e4 nx ny
      generalize endsB (bOf x) (bOf y) = r1 at *
      generalize endsB (bOf y) (bOf x) = r2 at *
      generalize decide (bOf x = bOf y) = r0 at *
      cases r0 with
      | true =>
        go_enter Tryz.func48, Tryz.ntmps48
        go_wp2_with fail
        refine C1.out.mono ?_
        rintro e w1 ⟨rfl, hb1⟩
        go_wp2_with fail
        refine (C2.out _).mono ?_
        rintro e w2 ⟨rfl, hb2⟩
        have hb2 : Below w.heap.size w w2 := by subst hb1; subst hb2; exact Below.refl _ _
        go_wp2_with fail
        go_ret
        exact ⟨by rw [HR.out]; rfl, hb2⟩
      | false =>
        cases r1 with
        | true =>
          go_enter Tryz.func48, Tryz.ntmps48
          go_wp2_with fail
          refine C1.out.mono ?_
          rintro e w1 ⟨rfl, hb1⟩
          go_wp2_with fail
          refine (C2.out _).mono ?_
          rintro e w2 ⟨rfl, hb2⟩
          have hb2 : Below w.heap.size w w2 := by subst hb1; subst hb2; exact Below.refl _ _
          go_wp2_with fail
          refine (L1.out _).mono ?_
          rintro e w3 ⟨rfl, hw3⟩
          subst hw3
          go_wp2_with fail
          go_ret
          exact ⟨by rw [HR.out]; rfl, hb2⟩
        | false =>
          go_enter Tryz.func48, Tryz.ntmps48
          go_wp2_with fail
          refine C1.out.mono ?_
          rintro e w1 ⟨rfl, hb1⟩
          go_wp2_with fail
          refine (C2.out _).mono ?_
          rintro e w2 ⟨rfl, hb2⟩
          have hb2 : Below w.heap.size w w2 := by subst hb1; subst hb2; exact Below.refl _ _
          go_wp2_with fail
          refine (L1.out _).mono ?_
          rintro e w3 ⟨rfl, hw3⟩
          subst hw3
          go_wp2_with fail
          refine (L2.out _).mono ?_
          rintro e w4 ⟨rfl, hw4⟩
          subst hw4
          go_wp2_with fail
          go_ret
          exact ⟨by rw [HR.out]; rfl, hb2⟩
end Go.Proofs.YtfkfpanhbanljaaGreatDoor.Phone
