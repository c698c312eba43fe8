/- The walks of layer 46, continued: the document's Norm. -/
import Derived.Test.YtfkfpanhbanljaaGreatDoorSet20
namespace Go.Proofs.YtfkfpanhbanljaaGreatDoor.Phone
open Go.RowKit Go.Proofs.YtfkfpanhbanljaaGreatDoor.Mem Go.Proofs.YtfkfpanhbanljaaGreatDoor.Card Go.Proofs.YtfkfpanhbanljaaGreatDoor.Laid Go.Proofs.YtfkfpanhbanljaaGreatDoor.Fold

theorem digit_any (c : UInt8) (w : World) : Calls Tryz.prog 106 #[.int .u8 (c.toNat : Int)] w fun e w' => e = .returned (.bool (isD c)) ∧ w = w' := by
  have h1 : decide ((48 : Int) ≤ (c.toNat : Int)) = decide (48 ≤ c.toNat) := by rw [decide_eq_decide]; omega
  have h2 : decide ((c.toNat : Int) ≤ 57) = decide (c.toNat ≤ 57) := by rw [decide_eq_decide]; omega
  have HD : Kept (isD c = (decide (48 ≤ c.toNat) && decide (c.toNat ≤ 57))) := ⟨rfl⟩
  rcases (show c.toNat < 48 ∨ (48 ≤ c.toNat ∧ c.toNat ≤ 57) ∨ 57 < c.toNat by omega) with h | ⟨h, h'⟩ | h
  · have HR : Kept (isD c = false) := ⟨by rw [HD.out, decide_eq_false (by omega)]; rfl⟩
    have h3 : ¬ (48 : Int) ≤ (c.toNat : Int) := by omega
    clear h1 h2 HD h
    go_enter Tryz.func106, Tryz.ntmps106
    go_wp2
    go_ret
    exact ⟨by rw [HR.out]; rfl, rfl⟩
  · have HR : Kept (isD c = true) := ⟨by rw [HD.out, decide_eq_true h, decide_eq_true h']; rfl⟩
    have h3 : (48 : Int) ≤ (c.toNat : Int) := by omega
    have h4 : (c.toNat : Int) ≤ 57 := by omega
    clear h1 h2 HD h h'
    go_enter Tryz.func106, Tryz.ntmps106
    go_wp2
    go_ret
    exact ⟨by rw [HR.out]; rfl, rfl⟩
  · have HR : Kept (isD c = false) := ⟨by rw [HD.out, decide_eq_true (by omega), decide_eq_false (by omega)]; rfl⟩
    have h3 : (48 : Int) ≤ (c.toNat : Int) := by omega
    have h4 : ¬ (c.toNat : Int) ≤ 57 := by omega
    clear h1 h2 HD h
    go_enter Tryz.func106, Tryz.ntmps106
    go_wp2
    go_ret
    exact ⟨by rw [HR.out]; rfl, rfl⟩
theorem num_eq (c : UInt8) (n : Nat) (hn : n < 256) : ((c.toNat : Int) == (n : Int)) = (c == UInt8.ofNat n) := by
  rw [Bool.eq_iff_iff, beq_iff_eq, beq_iff_eq]
  constructor
  · intro h
    apply UInt8.toNat_inj.1
    simp only [UInt8.toNat_ofNat']
    omega
  · rintro rfl
    simp only [UInt8.toNat_ofNat']
    omega
theorem between_any (c : UInt8) (w : World) : Calls Tryz.prog 107 #[.int .u8 (c.toNat : Int)] w fun e w' => e = .returned (.bool (isB c)) ∧ w = w' := by
  have HB : Kept (isB c = (c == 32 || c == 45 || c == 46 || c == 47 || c == 40 || c == 41)) := ⟨rfl⟩
  have n1 : ((c.toNat : Int) == 32) = (c == 32) := num_eq c 32 (by decide)
  have n2 : ((c.toNat : Int) == 45) = (c == 45) := num_eq c 45 (by decide)
  have n3 : ((c.toNat : Int) == 46) = (c == 46) := num_eq c 46 (by decide)
  have n4 : ((c.toNat : Int) == 47) = (c == 47) := num_eq c 47 (by decide)
  have n5 : ((c.toNat : Int) == 40) = (c == 40) := num_eq c 40 (by decide)
  have n6 : ((c.toNat : Int) == 41) = (c == 41) := num_eq c 41 (by decide)
  generalize (c == 32) = b1 at *
  generalize (c == 45) = b2 at *
  generalize (c == 46) = b3 at *
  generalize (c == 47) = b4 at *
  generalize (c == 40) = b5 at *
  generalize (c == 41) = b6 at *
  go_enter Tryz.func107, Tryz.ntmps107
  cases b1 with
  | true => go_wp2; go_ret; exact ⟨by rw [HB.out]; rfl, rfl⟩
  | false =>
  cases b2 with
  | true => go_wp2; go_ret; exact ⟨by rw [HB.out]; rfl, rfl⟩
  | false =>
  cases b3 with
  | true => go_wp2; go_ret; exact ⟨by rw [HB.out]; rfl, rfl⟩
  | false =>
  cases b4 with
  | true => go_wp2; go_ret; exact ⟨by rw [HB.out]; rfl, rfl⟩
  | false =>
  cases b5 with
  | true => go_wp2; go_ret; exact ⟨by rw [HB.out]; rfl, rfl⟩
  | false =>
  cases b6 with
  | true => go_wp2; go_ret; exact ⟨by rw [HB.out]; rfl, rfl⟩
  | false => go_wp2; go_ret; exact ⟨by rw [HB.out]; rfl, rfl⟩
theorem bOf_extract (l : List UInt8) (k : Nat) : (bOf l).extract 0 k = bOf (l.take k) := by
  apply ByteArray.ext
  simp [bOf]
def plusV (b : Bool) : Value := .string (if b then ⟨#[43]⟩ else ⟨#[]⟩)
theorem take_data (s : ByteArray) (k : Nat) (h : k < s.size) : s.data.toList.take (k + 1) = s.data.toList.take k ++ [s[k]] := by
  rw [List.take_succ_eq_append_getElem (by simpa using h)]; rfl
theorem scan_take {s : ByteArray} {k : Nat} {st : Scan} (h : k < s.size) (hs : scan (s.data.toList.take k) ⟨[], false, false⟩ = some st) : scan (s.data.toList.take (k + 1)) ⟨[], false, false⟩ = step st s[k] := by
  rw [take_data s k h, scan_snoc, hs]; rfl
theorem scan_fail {s : ByteArray} {k : Nat} (hs : scan (s.data.toList.take k) ⟨[], false, false⟩ = none) : scan s.data.toList ⟨[], false, false⟩ = none := by
  have : ∀ (a b : List UInt8) (st : Scan), scan a st = none → scan (a ++ b) st = none := by
    intro a
    induction a with
    | nil => intro b st h; simp [scan] at h
    | cons c a ih =>
      intro b st h
      rw [List.cons_append]
      unfold scan at h ⊢
      cases hst : step st c with
      | none => rfl
      | some s' => rw [hst] at h; exact ih b s' h
  have h2 := this _ (s.data.toList.drop k) _ hs
  rwa [List.take_append_drop] at h2
theorem norm_scan (s : List UInt8) : norm s = (scan s ⟨[], false, false⟩).bind fun r => fin2 (zz r.plus r.d) := by
  have h := scan_all s
  unfold norm
  cases hs : scan s ⟨[], false, false⟩ with
  | none =>
    rw [hs] at h
    split at h
    · cases h
    · rename_i hk
      rw [if_neg hk]; rfl
  | some r =>
    rw [hs] at h
    split at h
    · rename_i hk
      rw [if_pos hk]
      injection h with h
      injection h with h1 h2
      show _ = fin2 (zz r.plus r.d)
      rw [h1, h2]
    · cases h
theorem extract_one (s : ByteArray) (k : Nat) (h : k < s.size) : s.extract k (k + 1) = bOf [s[k]] := by
  have := one_extract s.data.toList k (by rw [bOf_data]; exact h)
  have e : ∀ (u : ByteArray), u = s → ∀ hu : k < u.size, u.extract k (k + 1) = ⟨#[u[k]]⟩ → s.extract k (k + 1) = bOf [s[k]] := by
    rintro u rfl hu h2
    exact h2
  exact e _ (bOf_data s) (by rw [bOf_data]; exact h) this
theorem rnorm_any (s : ByteArray) (w : World) (hs : s.size ≤ 140737488355000) : Calls Tryz.prog 84 #[.string s] w fun e w' => e = .returned (.tuple #[.string (normB s), .bool (normOk s)]) ∧ w = w' := by
  have HN := kept (norm_scan s.data.toList)
  go_enter Tryz.func84, Tryz.ntmps84
  go_wp2_with fail
  go_loop [4, 5, 6, 7] (fun d p b i => ∃ (k : Nat) (st : Scan), k ≤ s.size ∧ i = .int .i64 (k : Int) ∧ Kept (scan (s.data.toList.take k) ⟨[], false, false⟩ = some st) ∧ st.d.length ≤ k ∧ d = .string (bOf st.d) ∧ p = plusV st.plus ∧ b = .bool st.begun) (fun _ _ _ i => s.size - (intOf i).toNat)
  case atStart => exact ⟨0, ⟨[], false, false⟩, Nat.zero_le _, rfl, ⟨rfl⟩, Nat.le_refl _, rfl, rfl, rfl⟩
  case round =>
    obtain ⟨k, st, hk, rfl, hst, hl, rfl, rfl, rfl⟩ := hrel
    by_cases hlt : k < s.size
    · have hsc := scan_take hlt hst.out
      have hex := extract_one s k hlt
      go_wp2_with fail
      generalize s[k] = y at *
      refine (digit_any y _).mono ?_
      rintro e w' ⟨rfl, rfl⟩
      obtain ⟨sd, sp, sb⟩ := st
      dsimp only at *
      cases hD : isD y with
      | true =>
        have HX : Kept (scan (s.data.toList.take (k + 1)) ⟨[], false, false⟩ = some ⟨sd ++ [y], sp, true⟩) := ⟨by rw [hsc]; simp [step, hD]⟩
        have hcz : ¬ 9223372036854775807 < (bOf sd).size + (bOf [y]).size := by rw [bOf_size, bOf_size]; simp; omega
        have hca : Kept (bOf sd ++ bOf [y] = bOf (sd ++ [y])) := ⟨bOf_app _ _⟩
        have hk1 : (k : Int) + 1 ≤ (s.size : Int) := by omega
        clear hD hsc
        go_wp2_with fail
        go_round
        case rel => exact ⟨k + 1, ⟨sd ++ [y], sp, true⟩, by omega, by go_num, HX, by simp; omega, by rw [hca.out], rfl, rfl⟩
        case measure => simp [intOf]; omega
      | false =>
        have hp43 : ((y.toNat : Int) == 43) = (y == 43) := num_eq y 43 (by decide)
        clear hex
        cases h43 : (y == 43 && !sb) with
        | true =>
          obtain ⟨h4, hsb⟩ : y = 43 ∧ sb = false := by simpa using h43
          subst hsb
          rw [h4] at hp43
          have HX : Kept (scan (s.data.toList.take (k + 1)) ⟨[], false, false⟩ = some ⟨sd, true, true⟩) := ⟨by rw [hsc, h4]; simp [step, isD_not_plus]⟩
          have hp : ((y.toNat : Int) == 43) = true := by rw [h4]; rfl
          clear hD hsc h43 hp43 h4
          go_wp2_with fail
          go_round
          case rel => exact ⟨k + 1, ⟨sd, true, true⟩, by omega, by go_num, HX, by show sd.length ≤ k + 1; omega, rfl, rfl, rfl⟩
          case measure => simp [intOf]; omega
        | false =>
          have hbt : ((y.toNat : Int) == 32) = (y == 32) := num_eq y 32 (by decide)
          cases hy : (y == 43) with
          | true =>
            obtain rfl : sb = true := by rw [hy] at h43; simpa using h43
            have hy' : y = 43 := by simpa using hy
            have HF : Kept (normB s = ⟨#[]⟩ ∧ normOk s = false) := ⟨normB_none (by rw [HN.out, scan_fail (k := k + 1) (by rw [hsc, hy']; rfl)]; rfl)⟩
            rw [hy] at hp43
            have CB := kept (show ∀ W : World, Calls Tryz.prog 107 #[.int .u8 43] W fun e w' => e = .returned (.bool false) ∧ W = w' from fun W => between_any 43 W)
            have hyn : (y.toNat : Int) = 43 := by rw [hy']; rfl
            rw [hyn] at hp43 ⊢
            clear hD hsc h43 hy hy' hbt hyn
            go_wp2_with fail
            refine (CB.out _).mono ?_
            rintro e w' ⟨rfl, rfl⟩
            go_wp2_with fail
            go_ret2
            exact ⟨by rw [HF.out.1, HF.out.2]; rfl, rfl⟩
          | false =>
            have hy' : ¬ y = 43 := by simpa using hy
            rw [hy] at hp43
            cases hB : isB y with
            | true =>
              cases h32 : (y == 32) with
              | true =>
                have HX : Kept (scan (s.data.toList.take (k + 1)) ⟨[], false, false⟩ = some ⟨sd, sp, sb⟩) := ⟨by
                  have : y = 32 := by simpa using h32
                  rw [hsc]; subst this; rfl⟩
                rw [h32] at hbt
                have hbt2 : ((y.toNat : Int) != 32) = !((y.toNat : Int) == 32) := rfl
                rw [hbt] at hbt2
                have CB := kept (fun W => between_any y W)
                rw [hB] at CB
                clear hD hsc h43 hy hy' hB h32
                go_wp2_with fail
                refine (CB.out _).mono ?_
                rintro e w' ⟨rfl, rfl⟩
                go_wp2_with fail
                go_round
                case rel => exact ⟨k + 1, ⟨sd, sp, sb⟩, by omega, by go_num, HX, by show sd.length ≤ k + 1; omega, rfl, rfl, rfl⟩
                case measure => simp [intOf]; omega
              | false =>
                have HX : Kept (scan (s.data.toList.take (k + 1)) ⟨[], false, false⟩ = some ⟨sd, sp, true⟩) := ⟨by
                  have : ¬ y = 32 := by simpa using h32
                  rw [hsc]; simp [step, hD, hy', hB, this]⟩
                rw [h32] at hbt
                have hbt2 : ((y.toNat : Int) != 32) = !((y.toNat : Int) == 32) := rfl
                rw [hbt] at hbt2
                have CB := kept (fun W => between_any y W)
                rw [hB] at CB
                clear hD hsc h43 hy hy' hB h32
                go_wp2_with fail
                refine (CB.out _).mono ?_
                rintro e w' ⟨rfl, rfl⟩
                go_wp2_with fail
                go_round
                case rel => exact ⟨k + 1, ⟨sd, sp, true⟩, by omega, by go_num, HX, by show sd.length ≤ k + 1; omega, rfl, rfl, rfl⟩
                case measure => simp [intOf]; omega
            | false =>
              have HF : Kept (normB s = ⟨#[]⟩ ∧ normOk s = false) := ⟨normB_none (by rw [HN.out, scan_fail (k := k + 1) (by rw [hsc]; simp [step, hD, hy', hB])]; rfl)⟩
              have CB := kept (fun W => between_any y W)
              rw [hB] at CB
              clear hD hsc h43 hy hy' hB
              go_wp2_with fail
              refine (CB.out _).mono ?_
              rintro e w' ⟨rfl, rfl⟩
              go_wp2_with fail
              go_ret2
              exact ⟨by rw [HF.out.1, HF.out.2]; rfl, rfl⟩
    · have hall : scan s.data.toList ⟨[], false, false⟩ = some st := by
        rw [← hst.out, List.take_of_length_le (by simp; omega)]
      have hnm : norm s.data.toList = fin2 (zz st.plus st.d) := by rw [HN.out, hall]; rfl
      obtain ⟨sd, sp, sb⟩ := st
      dsimp only at *
      have HM := kept hnm
      have hds := bOf_size sd
      have hsl := hl
      clear HN hst hall hnm
      have hN := kept (fun h => normB_none (s := s) h)
      have hS := kept (fun x h => normB_some (s := s) (x := x) h)
      cases sp with
      | true =>
        have hpv : plusV true = .string ⟨#[43]⟩ := rfl
        rw [hpv]
        clear hpv
        have hzz : zz true sd = (true, sd) := rfl
        rw [hzz] at HM
        by_cases h3 : sd.length < 3
        · have E := kept (hN.out (by rw [HM.out]; unfold fin2; rw [if_pos (.inl h3)]))
          clear hN hS HM hzz
          go_wp2_with fail
          go_ret2
          exact ⟨by rw [E.out.1, E.out.2]; rfl, rfl⟩
        · by_cases h15 : 15 < sd.length
          · have E := kept (hN.out (by rw [HM.out]; unfold fin2; rw [if_pos (.inr h15)]))
            clear hN hS HM hzz
            go_wp2_with fail
            go_ret2
            exact ⟨by rw [E.out.1, E.out.2]; rfl, rfl⟩
          · have E := kept (hS.out (43 :: sd) (by rw [HM.out]; unfold fin2; rw [if_neg (by simp only []; omega)]; rfl))
            have hcz : ¬ 9223372036854775807 < (⟨#[43]⟩ : ByteArray).size + (bOf sd).size := by have : (⟨#[43]⟩ : ByteArray).size = 1 := rfl; omega
            have hca : Kept ((⟨#[43]⟩ : ByteArray) ++ bOf sd = bOf (43 :: sd)) := ⟨by
              have : (⟨#[43]⟩ : ByteArray) = bOf [43] := rfl
              rw [this, bOf_app]; rfl⟩
            clear hN hS HM hzz
            go_wp2_with fail
            go_ret2
            exact ⟨by rw [E.out.1, E.out.2, ← hca.out]; rfl, rfl⟩
      | false =>
        have hpv : plusV false = .string ⟨#[]⟩ := rfl
        rw [hpv]
        clear hpv
        cases hz : ([48, 48] : List UInt8).isPrefixOf sd with
        | true =>
          obtain ⟨r, rfl⟩ : ∃ r, sd = 48 :: 48 :: r := by
            rw [List.isPrefixOf_iff_prefix] at hz
            obtain ⟨r, hr⟩ := hz
            exact ⟨r, hr.symm⟩
          have hzz : zz false (48 :: 48 :: r) = (true, r) := by unfold zz; rw [if_neg (by decide), if_pos hz]; rfl
          rw [hzz] at HM
          have hl2 : (48 :: 48 :: r).length = r.length + 2 := rfl
          rw [hl2] at hds hl hsl
          have hx1 : (bOf (48 :: 48 :: r)).extract 0 2 = ⟨#[48, 48]⟩ := by rw [bOf_extract]; rfl
          have hx2 : (bOf (48 :: 48 :: r)).extract 2 (r.length + 2) = bOf r := by
            apply ByteArray.ext
            simp [bOf]
          have hrs := bOf_size r
          have h2i : (2 : Int) ≤ (r.length : Int) + 2 := by omega
          clear hzz hz hl2
          by_cases h3 : r.length < 3
          · have E := kept (hN.out (by rw [HM.out]; unfold fin2; rw [if_pos (.inl h3)]))
            clear hN hS HM
            go_wp2_with fail
            go_ret2
            exact ⟨by rw [E.out.1, E.out.2]; rfl, rfl⟩
          · by_cases h15 : 15 < r.length
            · have E := kept (hN.out (by rw [HM.out]; unfold fin2; rw [if_pos (.inr h15)]))
              clear hN hS HM
              go_wp2_with fail
              go_ret2
              exact ⟨by rw [E.out.1, E.out.2]; rfl, rfl⟩
            · have E := kept (hS.out (43 :: r) (by rw [HM.out]; unfold fin2; rw [if_neg (by simp only []; omega)]; rfl))
              have hcz : ¬ 9223372036854775807 < (⟨#[43]⟩ : ByteArray).size + (bOf r).size := by have : (⟨#[43]⟩ : ByteArray).size = 1 := rfl; omega
              have hca : Kept ((⟨#[43]⟩ : ByteArray) ++ bOf r = bOf (43 :: r)) := ⟨by
                have : (⟨#[43]⟩ : ByteArray) = bOf [43] := rfl
                rw [this, bOf_app]; rfl⟩
              clear hN hS HM
              go_wp2_with fail
              go_ret2
              exact ⟨by rw [E.out.1, E.out.2, ← hca.out]; rfl, rfl⟩
        | false =>
          have hzz : zz false sd = (false, sd) := by unfold zz; rw [if_neg (by decide), if_neg (by rw [hz]; decide)]
          rw [hzz] at HM
          have hx1 : (bOf sd).extract 0 2 = bOf (sd.take 2) := bOf_extract sd 2
          have hx3 : 2 ≤ sd.length → ((bOf (sd.take 2)).toList == [48, 48]) = false := fun h => by
            rw [bOf_toList, beq_eq_false_iff_ne]
            intro e
            have : ([48, 48] : List UInt8).isPrefixOf sd = true := by rw [List.isPrefixOf_iff_prefix, ← e]; exact List.take_prefix 2 sd
            rw [this] at hz
            cases hz
          clear hzz hz
          by_cases h3 : sd.length < 3
          · have E := kept (hN.out (by rw [HM.out]; unfold fin2; rw [if_pos (.inl h3)]))
            clear hN hS HM
            by_cases h2 : 2 ≤ sd.length
            · have hx4 := hx3 h2
              have h2i : (2 : Int) ≤ (sd.length : Int) := by omega
              clear hx3
              go_wp2_with fail
              go_ret2
              exact ⟨by rw [E.out.1, E.out.2]; rfl, rfl⟩
            · have h2i : ¬ (2 : Int) ≤ (sd.length : Int) := by omega
              clear hx3
              go_wp2_with fail
              go_ret2
              exact ⟨by rw [E.out.1, E.out.2]; rfl, rfl⟩
          · have hx4 := hx3 (by omega)
            have h2i : (2 : Int) ≤ (sd.length : Int) := by omega
            clear hx3
            by_cases h15 : 15 < sd.length
            · have E := kept (hN.out (by rw [HM.out]; unfold fin2; rw [if_pos (.inr h15)]))
              clear hN hS HM
              go_wp2_with fail
              go_ret2
              exact ⟨by rw [E.out.1, E.out.2]; rfl, rfl⟩
            · have E := kept (hS.out sd (by rw [HM.out]; unfold fin2; rw [if_neg (by simp only []; omega)]; rfl))
              have hcz : ¬ 9223372036854775807 < (⟨#[]⟩ : ByteArray).size + (bOf sd).size := by have : (⟨#[]⟩ : ByteArray).size = 0 := rfl; omega
              have hca : Kept ((⟨#[]⟩ : ByteArray) ++ bOf sd = bOf sd) := ⟨by
                have : (⟨#[]⟩ : ByteArray) = bOf [] := rfl
                rw [this, bOf_app]; rfl⟩
              clear hN hS HM
              go_wp2_with fail
              go_ret2
              exact ⟨by rw [E.out.1, E.out.2]; first | rfl | (rw [← hca.out]; rfl), rfl⟩
end Go.Proofs.YtfkfpanhbanljaaGreatDoor.Phone
