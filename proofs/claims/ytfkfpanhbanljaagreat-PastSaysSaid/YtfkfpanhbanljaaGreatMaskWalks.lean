/- The walks of layer 40: what the small functions of package mask, and of its reference, give. -/
import Derived.Test.YtfkfpanhbanljaaGreatSetB
import Derived.Test.YtfkfpanhbanljaaGreatMaskMath
import Derived.Laws.BitsAllLaws
import Derived.Deep.QuietTactic
import Derived.BigQuiet
namespace Go.Proofs.YtfkfpanhbanljaaGreat.Mask
open Go.RowKit Go.Proofs.YtfkfpanhbanljaaGreat.Mem

def lenOfV : Value → Nat
  | .slice _ n _ => n
  | _ => 0
theorem take_last (m : List Nat) (j : Nat) (h : j < m.length) : m.take (j + 1) = m.take j ++ [m.getD j 0] := by
  rw [List.take_succ_eq_append_getElem h]; simp [List.getD, h]
theorem order_any (A : Option Addr) (n c : Nat) (m : List Nat) (w : World) (hn : n = m.length) (hr : Rd w w.heap.size A (WB m)) (hc : m.length ≤ c) (hsz : m.length ≤ 9223372036854775807) :
    Calls Tryz.prog 50 #[.slice A n c] w fun e w' => e = .returned (.slice A (trim m).length c) ∧ w = w' := by
  subst hn
  go_enter Tryz.func50, Tryz.ntmps50
  go_wp2
  go_loop [0] (fun v => ∃ k : Nat, k ≤ m.length ∧ v = .slice A k c ∧ Hid (trim (m.take k) = trim m)) (fun v => lenOfV v)
  case atStart => exact ⟨m.length, Nat.le_refl _, rfl, by show trim _ = _; rw [List.take_length]⟩
  case round =>
    obtain ⟨k, hk, rfl, ht⟩ := hrel
    by_cases h0 : k = 0
    · subst h0
      have h1 : Hid ((trim m).length = 0) := by show _ = _; rw [← ht.out]; rfl
      clear ht
      go_wp2
      go_ret
      exact ⟨ret_sl h1.out.symm, rfl⟩
    · obtain ⟨j, rfl⟩ : ∃ t, k = t + 1 := ⟨k - 1, by omega⟩
      obtain ⟨b, o, rfl, hb, hcell⟩ := hr.at_ (WB_get m j (by omega))
      by_cases hz : m.getD j 0 = 0
      · have ht2 : Hid (trim (m.take j) = trim m) := by show _ = _; rw [← ht.out, take_last m j (by omega), hz, trim_zero]
        rw [hz] at hcell
        clear ht hz h0
        go_wp2
        go_round
        case rel => exact ⟨j, by omega, rfl, ht2⟩
        case measure => simp [lenOfV]
      · have hl : Hid ((trim m).length = j + 1) := by show _ = _; rw [← ht.out, take_last m j (by omega), trim_last _ hz, ← take_last m j (by omega)]; simp; omega
        have hz1 : (((m.getD j 0 : Nat) : Int) == 0) = false := by simp; simpa using hz
        generalize m.getD j 0 = x at *
        clear ht h0
        go_wp2
        go_ret
        exact ⟨ret_sl hl.out.symm, rfl⟩
theorem word_any (A : Option Addr) (n c : Nat) (m : List Nat) (i : Nat) (w : World) (hn : n = m.length) (hr : Rd w w.heap.size A (WB m)) :
    Calls Tryz.prog 49 #[.slice A n c, .int .i64 (i : Int)] w fun e w' => e = .returned (.int .u64 (wordN m i : Int)) ∧ w = w' := by
  subst hn
  by_cases h : i < m.length
  · obtain ⟨b, o, rfl, hb, hcell⟩ := hr.at_ (WB_get m i h)
    obtain ⟨x, hx⟩ : ∃ x, x = m.getD i 0 := ⟨_, rfl⟩
    rw [← hx] at hcell
    have HX : Hid (wordN m i = x) := hx.symm
    clear hx
    go_enter Tryz.func49, Tryz.ntmps49
    go_wp2
    go_ret
    exact ⟨ret_num (by rw [HX.out]), rfl⟩
  · have hz := wordN_out (Nat.not_lt.1 h)
    go_enter Tryz.func49, Tryz.ntmps49
    go_wp2
    go_ret
    exact ⟨ret_num (by rw [hz]; rfl), rfl⟩
theorem rword_any (A : Option Addr) (n c : Nat) (m : List Nat) (i : Nat) (w : World) (hn : n = m.length) (hr : Rd w w.heap.size A (WB m)) :
    Calls Tryz.prog 38 #[.slice A n c, .int .i64 (i : Int)] w fun e w' => e = .returned (.int .u64 (wordN m i : Int)) ∧ w = w' := by
  subst hn
  by_cases h : i < m.length
  · obtain ⟨b, o, rfl, hb, hcell⟩ := hr.at_ (WB_get m i h)
    obtain ⟨x, hx⟩ : ∃ x, x = m.getD i 0 := ⟨_, rfl⟩
    rw [← hx] at hcell
    have HX : Hid (wordN m i = x) := hx.symm
    clear hx
    go_enter Tryz.func38, Tryz.ntmps38
    go_wp2
    go_ret
    exact ⟨ret_num (by rw [HX.out]), rfl⟩
  · have hz := wordN_out (Nat.not_lt.1 h)
    go_enter Tryz.func38, Tryz.ntmps38
    go_wp2
    go_ret
    exact ⟨ret_num (by rw [hz]; rfl), rfl⟩
theorem bit_wrap {i : Nat} (h : i < 64) : IntKind.u64.wrap (2 ^ i) = ((2 ^ i : Nat) : Int) := by
  have h1 : 2 ^ i ≤ 2 ^ 63 := Nat.pow_le_pow_right (by decide) (by omega)
  have h2 : (2 : Int) ^ i = ((2 ^ i : Nat) : Int) := by simp
  have h3 : (2 : Nat) ^ 63 = 9223372036854775808 := by decide
  rw [h2, IntKind.wrap_u64]
  generalize 2 ^ i = p at *
  omega
theorem bit_any (i : Nat) (w : World) (hi : i < 64) :
    Calls Tryz.prog 39 #[.int .i64 (i : Int)] w fun e w' => e = .returned (.int .u64 ((2 ^ i : Nat) : Int)) ∧ w = w' := by
  have hb := bit_wrap hi
  go_enter Tryz.func39, Tryz.ntmps39
  go_wp2
  go_ret
  exact ⟨rfl, rfl⟩
theorem and_63 (m : Nat) (hm : m < 18446744073709551616) : bits .and .u64 (m : Int) 63 = ((m % 64 : Nat) : Int) := by
  have h := u64_and_nat m 63 hm (by decide)
  rw [Nat.and_two_pow_sub_one_eq_mod m 6] at h
  exact h
theorem and_1 (q : Nat) (hq : q < 18446744073709551616) : bits .and .u64 (q : Int) 1 = ((q % 2 : Nat) : Int) := by
  have h := u64_and_nat q 1 hq (by decide)
  rw [nat_mask1] at h
  exact h
theorem has_bit (m : List Nat) (k : Nat) : hasN m k = decide (wordN m (k / 64) / 2 ^ (k % 64) % 2 = 1) := by
  unfold hasN
  rw [Nat.testBit_eq_decide_div_mod_eq]
theorem has_any (A : Option Addr) (n c : Nat) (m : List Nat) (i : Int) (w : World) (hn : n = m.length) (hw : AllW m) (hr : Rd w w.heap.size A (WB m)) (hi : i ≤ 9223372036854775807) (hi0 : -9223372036854775808 ≤ i) :
    Calls Tryz.prog 27 #[.slice A n c, .int .i64 i] w fun e w' => e = .returned (.bool (hasI m i)) ∧ w = w' := by
  subst hn
  by_cases h0 : i < 0
  · have hd : hasI m i = false := by unfold hasI; rw [decide_eq_false (by omega)]; rfl
    go_enter Tryz.func27, Tryz.ntmps27
    go_wp2
    go_ret
    exact ⟨rfl, rfl⟩
  · obtain ⟨k, rfl⟩ := Int.eq_ofNat_of_zero_le (Int.not_lt.1 h0)
    have hd : hasI m (k : Int) = hasN m k := by unfold hasI; rw [decide_eq_true (by omega)]; rfl
    by_cases h : k / 64 < m.length
    · obtain ⟨b, o, rfl, hb, hcell⟩ := hr.at_ (WB_get m (k / 64) h)
      have h63 := and_63 k (by omega)
      have hx : m.getD (k / 64) 0 < 18446744073709551616 := wordN_lt hw _
      have hbit := has_bit m k
      have e2 : wordN m (k / 64) = m.getD (k / 64) 0 := rfl
      rw [e2] at hbit
      generalize m.getD (k / 64) 0 = x at *
      have e3 : (x : Int) / 2 ^ (k % 64) = ((x / 2 ^ (k % 64) : Nat) : Int) := by simp
      have h1 := and_1 (x / 2 ^ (k % 64)) (Nat.lt_of_le_of_lt (Nat.div_le_self _ _) hx)
      rw [← e3] at h1
      have HB := Lib.hid hbit
      have HD := Lib.hid hd
      clear hbit hd e2 e3
      go_enter Tryz.func27, Tryz.ntmps27
      go_wp2
      go_ret
      refine ⟨ret_bool ?_, rfl⟩
      rw [HD.out, HB.out]
      rw [show (x : Int) / 2 ^ (k % 64) = ((x / 2 ^ (k % 64) : Nat) : Int) from by simp]
      generalize x / 2 ^ (k % 64) = z
      rw [Bool.eq_iff_iff]
      simp
      omega
    · have hz : hasN m k = false := hasN_out (by omega)
      go_enter Tryz.func27, Tryz.ntmps27
      go_wp2
      go_ret
      exact ⟨rfl, rfl⟩
theorem rhas_any (A : Option Addr) (n c : Nat) (m : List Nat) (i : Int) (w : World) (hn : n = m.length) (hw : AllW m) (hr : Rd w w.heap.size A (WB m)) (hi : i ≤ 9223372036854775807) (hi0 : -9223372036854775808 ≤ i) :
    Calls Tryz.prog 28 #[.slice A n c, .int .i64 i] w fun e w' => e = .returned (.bool (hasI m i)) ∧ w = w' := by
  subst hn
  by_cases h0 : i < 0
  · have hd : hasI m i = false := by unfold hasI; rw [decide_eq_false (by omega)]; rfl
    go_enter Tryz.func28, Tryz.ntmps28
    go_wp2
    go_ret
    exact ⟨rfl, rfl⟩
  · obtain ⟨k, rfl⟩ := Int.eq_ofNat_of_zero_le (Int.not_lt.1 h0)
    have hd : hasI m (k : Int) = hasN m k := by unfold hasI; rw [decide_eq_true (by omega)]; rfl
    have HD := Lib.hid hd
    have HB := Lib.hid (show hasN m k = (wordN m (k / 64)).testBit (k % 64) from rfl)
    have hww := rword_any A _ c m (k / 64) w rfl hr
    have hii := bit_any (k % 64) w (Nat.mod_lt _ (by decide))
    rw [show ((k / 64 : Nat) : Int) = (k : Int) / 64 from by omega] at hww
    rw [show ((k % 64 : Nat) : Int) = (k : Int) % 64 from by omega] at hii
    have HW := Lib.hid hww
    have HI := Lib.hid hii
    clear hww hii
    have hx := wordN_lt hw (k / 64)
    generalize wordN m (k / 64) = x at *
    have hp : 2 ^ (k % 64) < 18446744073709551616 := Nat.lt_of_le_of_lt (Nat.pow_le_pow_right (by decide) (show k % 64 ≤ 63 by omega)) (by decide)
    have ha := u64_and_nat x (2 ^ (k % 64)) hx hp
    rw [and_bit] at ha
    have HA := Lib.hid ha
    clear hd hr ha h0
    go_enter Tryz.func28, Tryz.ntmps28
    go_wp2_with fail
    refine HW.out.mono ?_
    rintro e w' ⟨rfl, rfl⟩
    go_wp2_with fail
    refine HI.out.mono ?_
    rintro e w' ⟨rfl, rfl⟩
    go_wp2
    go_ret
    refine ⟨ret_bool ?_, rfl⟩
    rw [HD.out, HB.out, show ((2 : Int) ^ (k % 64)) = ((2 ^ (k % 64) : Nat) : Int) from by simp, HA.out]
    have hpos : 2 ^ (k % 64) ≠ 0 := Nat.ne_of_gt (Nat.two_pow_pos _)
    generalize 2 ^ (k % 64) = p at *
    cases x.testBit (k % 64)
    · rfl
    · simpa using hpos
theorem rorder_any (A : Option Addr) (n c : Nat) (m : List Nat) (w : World) (hn : n = m.length) (hr : Rd w w.heap.size A (WB m)) (hc : m.length ≤ c) (hsz : m.length ≤ 17592186044416) :
    Calls Tryz.prog 41 #[.slice A n c] w (GivesW w (trim m)) := by
  subst hn
  go_enter Tryz.func41, Tryz.ntmps41
  go_wp2
  go_loop [3] (fun v => ∃ k : Nat, k ≤ m.length ∧ v = .int .i64 (k : Int) ∧ Hid (trim (m.take k) = trim m)) (fun v => (intOf v).toNat)
  case atStart => exact ⟨m.length, Nat.le_refl _, rfl, by show trim _ = _; rw [List.take_length]⟩
  case round =>
    obtain ⟨k, hk, rfl, ht⟩ := hrel
    have fin : (k = 0 ∨ (∃ j, k = j + 1 ∧ m.getD j 0 ≠ 0)) → trim m = m.take k := by
      rintro (rfl | ⟨j, rfl, hz⟩)
      · rw [← ht.out]; rfl
      · rw [← ht.out, take_last m j (by omega), trim_last _ hz]
    by_cases hgo : ∃ j, k = j + 1 ∧ m.getD j 0 = 0
    · obtain ⟨j, rfl, hz⟩ := hgo
      obtain ⟨b, o, rfl, hb, hcell⟩ := hr.at_ (WB_get m j (by omega))
      have ht2 : Hid (trim (m.take j) = trim m) := by show _ = _; rw [← ht.out, take_last m j (by omega), hz, trim_zero]
      rw [hz] at hcell
      clear ht hz fin
      go_wp2
      go_round
      case rel => exact ⟨j, by omega, rfl, ht2⟩
      case measure => simp [intOf]
    · have hcase : k = 0 ∨ (∃ j, k = j + 1 ∧ m.getD j 0 ≠ 0) := by
        rcases k with _ | j
        · exact .inl rfl
        · exact .inr ⟨j, rfl, fun h => hgo ⟨j, rfl, h⟩⟩
      have F := Lib.hid (fin hcase)
      have hown1 : Own (w.alloc (.cells #[] 33)) w.heap.size 33 (.slice (some ⟨w.heap.size, 0, none⟩) 0 0) (WB []) := Own.new w w.heap.size 33 [] (Nat.le_refl _) (by simp)
      have hr1 := (hr.take k).alloc (Nat.le_refl _) (.cells #[] 33)
      rw [WB_take] at hr1
      have hkl : k = (m.take k).length := by rw [List.length_take]; omega
      have hz1 : ([] : List Nat).length + (m.take k).length ≤ 17592186044416 := by simp; omega
      have HK := Lib.hid hkl
      generalize m.take k = t at *
      clear fin hgo ht hkl
      rcases hcase with rfl | ⟨j, rfl, hz⟩
      · go_wp2_with (at_builtin; refine wpl_appW rfl (.tmp 18) (.tmp 21) rfl w.heap.size _ [] rfl hown1 w.heap.size A _ c t rfl HK.out hr1 hz1 (by simp) ?_; intro A2 c2 w2 r2 hr2 hown2 hg2 hb2)
        go_ret
        exact givesW_mk (by rw [hr2.out, F.out]; rfl) hown2 (((Below.refl _ _).alloc (Nat.le_refl _) _).trans hb2)
      · obtain ⟨b, o, rfl, hb, hcell⟩ := hr.at_ (WB_get m j (by omega))
        have hz2 : (((m.getD j 0 : Nat) : Int) == 0) = false := by simp; simpa using hz
        generalize m.getD j 0 = x at *
        go_wp2_with (at_builtin; refine wpl_appW rfl (.tmp 18) (.tmp 21) rfl w.heap.size _ [] rfl hown1 w.heap.size _ _ c t rfl HK.out hr1 hz1 (by simp) ?_; intro A2 c2 w2 r2 hr2 hown2 hg2 hb2)
        go_ret
        exact givesW_mk (by rw [hr2.out, F.out]; rfl) hown2 (((Below.refl _ _).alloc (Nat.le_refl _) _).trans hb2)
end Go.Proofs.YtfkfpanhbanljaaGreat.Mask
