/- The walks of layer 40: what the small functions of package mask, and of its reference, give. -/
import Derived.Test.YtnmcclkpgbdenaaWords
import Derived.Test.YtnmcclkpgbdenaaMaskMath
import Derived.Laws.BitsAllLaws
import Derived.Deep.QuietTactic
import Derived.BigQuiet
namespace Go.Proofs.Ytnmcclkpgbdenaa.Mask
open Go.RowKit Go.Proofs.Ytnmcclkpgbdenaa.Mem

def lenOfV : Value → Nat
  | .slice _ n _ => n
  | _ => 0
theorem take_last (m : List Nat) (j : Nat) (h : j < m.length) : m.take (j + 1) = m.take j ++ [m.getD j 0] := by
  rw [List.take_succ_eq_append_getElem h]; simp [List.getD, h]
theorem order_any (A : Option Addr) (n c : Nat) (m : List Nat) (w : World) (hn : n = m.length) (hr : Rd w w.heap.size A (WB m)) (hc : m.length ≤ c) (hsz : m.length ≤ 9223372036854775807) :
    Calls Try.prog 127 #[.slice A n c] w fun e w' => e = .returned (.slice A (trim m).length c) ∧ w = w' := by
  subst hn
  go_enter Try.func127, Try.ntmps127
  go_wp2
  go_loop [0] (fun v => ∃ k : Nat, k ≤ m.length ∧ v = .slice A k c ∧ Hid (trim (m.take k) = trim m)) (fun v => lenOfV v)
  case atStart => exact ⟨m.length, Nat.le_refl _, rfl, by show trim _ = _; rw [List.take_length]⟩
  case round =>
    obtain ⟨k, hk, rfl, ht⟩ := hrel
    by_cases h0 : k = 0
    · subst h0
      have h1 : Hid ((trim m).length = 0) := by show _ = _; rw [← ht.out]; rfl
      clear ht
      go_wp2
      go_ret
      exact ⟨ret_sl h1.out.symm, rfl⟩
    · obtain ⟨j, rfl⟩ : ∃ t, k = t + 1 := ⟨k - 1, by omega⟩
      obtain ⟨b, o, rfl, hb, hcell⟩ := hr.at_ (WB_get m j (by omega))
      by_cases hz : m.getD j 0 = 0
      · have ht2 : Hid (trim (m.take j) = trim m) := by show _ = _; rw [← ht.out, take_last m j (by omega), hz, trim_zero]
        rw [hz] at hcell
        clear ht hz h0
        go_wp2
        go_round
        case rel => exact ⟨j, by omega, rfl, ht2⟩
        case measure => simp [lenOfV]
      · have hl : Hid ((trim m).length = j + 1) := by show _ = _; rw [← ht.out, take_last m j (by omega), trim_last _ hz, ← take_last m j (by omega)]; simp; omega
        have hz1 : (((m.getD j 0 : Nat) : Int) == 0) = false := by simp; simpa using hz
        generalize m.getD j 0 = x at *
        clear ht h0
        go_wp2
        go_ret
        exact ⟨ret_sl hl.out.symm, rfl⟩
theorem word_any (A : Option Addr) (n c : Nat) (m : List Nat) (i : Nat) (w : World) (hn : n = m.length) (hr : Rd w w.heap.size A (WB m)) :
    Calls Try.prog 126 #[.slice A n c, .int .i64 (i : Int)] w fun e w' => e = .returned (.int .u64 (wordN m i : Int)) ∧ w = w' := by
  subst hn
  by_cases h : i < m.length
  · obtain ⟨b, o, rfl, hb, hcell⟩ := hr.at_ (WB_get m i h)
    obtain ⟨x, hx⟩ : ∃ x, x = m.getD i 0 := ⟨_, rfl⟩
    rw [← hx] at hcell
    have HX : Hid (wordN m i = x) := hx.symm
    clear hx
    go_enter Try.func126, Try.ntmps126
    go_wp2
    go_ret
    exact ⟨ret_num (by rw [HX.out]), rfl⟩
  · have hz := wordN_out (Nat.not_lt.1 h)
    go_enter Try.func126, Try.ntmps126
    go_wp2
    go_ret
    exact ⟨ret_num (by rw [hz]; rfl), rfl⟩
theorem bit_wrap {i : Nat} (h : i < 64) : IntKind.u64.wrap (2 ^ i) = ((2 ^ i : Nat) : Int) := by
  have h1 : 2 ^ i ≤ 2 ^ 63 := Nat.pow_le_pow_right (by decide) (by omega)
  have h2 : (2 : Int) ^ i = ((2 ^ i : Nat) : Int) := by simp
  have h3 : (2 : Nat) ^ 63 = 9223372036854775808 := by decide
  rw [h2, IntKind.wrap_u64]
  generalize 2 ^ i = p at *
  omega
theorem and_63 (m : Nat) (hm : m < 18446744073709551616) : bits .and .u64 (m : Int) 63 = ((m % 64 : Nat) : Int) := by
  have h := u64_and_nat m 63 hm (by decide)
  rw [Nat.and_two_pow_sub_one_eq_mod m 6] at h
  exact h
theorem and_1 (q : Nat) (hq : q < 18446744073709551616) : bits .and .u64 (q : Int) 1 = ((q % 2 : Nat) : Int) := by
  have h := u64_and_nat q 1 hq (by decide)
  rw [nat_mask1] at h
  exact h
theorem has_bit (m : List Nat) (k : Nat) : hasN m k = decide (wordN m (k / 64) / 2 ^ (k % 64) % 2 = 1) := by
  unfold hasN
  rw [Nat.testBit_eq_decide_div_mod_eq]
theorem has_any (A : Option Addr) (n c : Nat) (m : List Nat) (i : Int) (w : World) (hn : n = m.length) (hw : AllW m) (hr : Rd w w.heap.size A (WB m)) (hi : i ≤ 9223372036854775807) (hi0 : -9223372036854775808 ≤ i) :
    Calls Try.prog 62 #[.slice A n c, .int .i64 i] w fun e w' => e = .returned (.bool (hasI m i)) ∧ w = w' := by
  subst hn
  by_cases h0 : i < 0
  · have hd : hasI m i = false := by unfold hasI; rw [decide_eq_false (by omega)]; rfl
    go_enter Try.func62, Try.ntmps62
    go_wp2
    go_ret
    exact ⟨rfl, rfl⟩
  · obtain ⟨k, rfl⟩ := Int.eq_ofNat_of_zero_le (Int.not_lt.1 h0)
    have hd : hasI m (k : Int) = hasN m k := by unfold hasI; rw [decide_eq_true (by omega)]; rfl
    by_cases h : k / 64 < m.length
    · obtain ⟨b, o, rfl, hb, hcell⟩ := hr.at_ (WB_get m (k / 64) h)
      have h63 := and_63 k (by omega)
      have hx : m.getD (k / 64) 0 < 18446744073709551616 := wordN_lt hw _
      have hbit := has_bit m k
      have e2 : wordN m (k / 64) = m.getD (k / 64) 0 := rfl
      rw [e2] at hbit
      generalize m.getD (k / 64) 0 = x at *
      have e3 : (x : Int) / 2 ^ (k % 64) = ((x / 2 ^ (k % 64) : Nat) : Int) := by simp
      have h1 := and_1 (x / 2 ^ (k % 64)) (Nat.lt_of_le_of_lt (Nat.div_le_self _ _) hx)
      rw [← e3] at h1
      have HB := Lib.hid hbit
      have HD := Lib.hid hd
      clear hbit hd e2 e3
      go_enter Try.func62, Try.ntmps62
      go_wp2
      go_ret
      refine ⟨ret_bool ?_, rfl⟩
      rw [HD.out, HB.out]
      rw [show (x : Int) / 2 ^ (k % 64) = ((x / 2 ^ (k % 64) : Nat) : Int) from by simp]
      generalize x / 2 ^ (k % 64) = z
      rw [Bool.eq_iff_iff]
      simp
      omega
    · have hz : hasN m k = false := hasN_out (by omega)
      go_enter Try.func62, Try.ntmps62
      go_wp2
      go_ret
      exact ⟨rfl, rfl⟩
end Go.Proofs.Ytnmcclkpgbdenaa.Mask
