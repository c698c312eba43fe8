/- The walks of layer 1, continued: the bytes of a number. -/
import Derived.Test.YtfbchegfkilhpaaShiftWalks
namespace Go.Proofs.Ytfbchegfkilhpaa.Shift
open Go.RowKit

def byteI (v : Nat) (i : Int) : Nat := if 0 ≤ i ∧ i ≤ 7 then byteN v i.toNat else 0
def withI (v : Nat) (i : Int) (b : Nat) : Nat := if 0 ≤ i ∧ i ≤ 7 then withN v i.toNat b else v
theorem byteI_lt (v : Nat) (i : Int) : byteI v i < 256 := by unfold byteI; split; exact byteN_lt _ _; decide
theorem byteI_nat {v k : Nat} (hk : k ≤ 7) : byteI v k = byteN v k := by unfold byteI; rw [if_pos (by omega)]; rfl
theorem withI_nat {v k b : Nat} (hk : k ≤ 7) : withI v k b = withN v k b := by unfold withI; rw [if_pos (by omega)]; rfl
theorem withI_lt {v b : Nat} {i : Int} (hv : v < 18446744073709551616) (hb : b < 256) : withI v i b < 18446744073709551616 := by
  unfold withI; split
  · exact withN_lt hv (by omega) hb
  · exact hv
theorem u64_big {i : Int} (h1 : -9223372036854775808 ≤ i) (h2 : i ≤ 9223372036854775807) (h : ¬(0 ≤ i ∧ i ≤ 7)) : 7 < IntKind.u64.wrap i := by
  rw [IntKind.wrap_u64]; omega
theorem byte_any (v : Nat) (i : Int) (w : World) (h1 : -9223372036854775808 ≤ i) (h2 : i ≤ 9223372036854775807) :
    Calls Try.prog 24 #[.int .u64 v, .int .i64 i] w fun e w' => e = .returned (.int .u8 (byteI v i : Int)) ∧ w = w' := by
  by_cases h : 0 ≤ i ∧ i ≤ 7
  · obtain ⟨ha, hb7⟩ := h
    obtain ⟨k, rfl⟩ := Int.eq_ofNat_of_zero_le ha
    have hk : k ≤ 7 := by omega
    clear ha hb7
    go_enter Try.func24, Try.ntmps24
    go_wp2
    go_ret
    exact ⟨ret_int (by rw [byteI_nat hk]; exact byte_raw v k), rfl⟩
  · have hb := u64_big h1 h2 h
    go_enter Try.func24, Try.ntmps24
    go_wp2
    go_ret
    exact ⟨ret_int (by unfold byteI; rw [if_neg h]; rfl), rfl⟩
theorem with_any (v : Nat) (i : Int) (b : Nat) (w : World) (hv : v < 18446744073709551616) (hb : b < 256) (h1 : -9223372036854775808 ≤ i) (h2 : i ≤ 9223372036854775807) :
    Calls Try.prog 23 #[.int .u64 v, .int .i64 i, .int .u8 b] w fun e w' => e = .returned (.int .u64 (withI v i b : Int)) ∧ w = w' := by
  by_cases h : 0 ≤ i ∧ i ≤ 7
  · obtain ⟨ha, hb7⟩ := h
    obtain ⟨k, rfl⟩ := Int.eq_ofNat_of_zero_le ha
    have hk : k ≤ 7 := by omega
    clear ha hb7
    go_enter Try.func23, Try.ntmps23
    go_wp2
    go_ret
    exact ⟨ret_int (by rw [withI_nat hk]; exact with_raw v k b hv hk hb), rfl⟩
  · have hb := u64_big h1 h2 h
    go_enter Try.func23, Try.ntmps23
    go_wp2
    go_ret
    exact ⟨ret_int (by unfold withI; rw [if_neg h]), rfl⟩
theorem len_any (v : Nat) (w : World) (hv : v < 18446744073709551616) :
    Calls Try.prog 34 #[.int .u64 v] w fun e w' => e = .returned (.int .i64 (lenB v : Int)) ∧ w = w' := by
  go_enter Try.func34, Try.ntmps34
  go_wp2
  go_loop [0, 3] (fun x c => ∃ u j : Nat, u < 18446744073709551616 ∧ j + lenB u = lenB v ∧ c = .int .i64 j ∧ x = .int .u64 u) (fun x _ => (intOf x).toNat)
  case atStart => exact ⟨v, 0, hv, by omega, rfl, rfl⟩
  case round =>
    obtain ⟨u, j, hu, hj, rfl, rfl⟩ := hrel
    have hl := lenB_le v
    by_cases h0 : 0 < u
    · have hs := lenB_step hu h0
      have Hs := Lib.hid hs
      have Hj := Lib.hid hj
      have hj8 : j ≤ 8 := by omega
      clear hs hj hl
      go_wp2
      go_round
      case rel => exact ⟨u / 256, j + 1, by omega, by have := Hs.out; have := Hj.out; omega, by go_num, val_int (by omega)⟩
      case measure => simp [intOf]; omega
    · have hu0 : u = 0 := by omega
      have hj' : j = lenB v := by rw [← hj, hu0, lenB_zero]; rfl
      have Hj := Lib.hid hj'
      clear hj' hj hu0 hl
      go_wp2
      go_ret
      exact ⟨ret_int (by rw [Hj.out]), rfl⟩
theorem rlen_any (v : Nat) (w : World) (hv : v < 18446744073709551616) :
    Calls Try.prog 35 #[.int .u64 v] w fun e w' => e = .returned (.int .i64 (lenB v : Int)) ∧ w = w' := by
  go_enter Try.func35, Try.ntmps35
  go_wp2
  go_loop [0, 3] (fun x c => ∃ u j : Nat, u < 18446744073709551616 ∧ j + lenB u = lenB v ∧ c = .int .i64 j ∧ x = .int .u64 u) (fun x _ => (intOf x).toNat)
  case atStart => exact ⟨v, 0, hv, by omega, rfl, rfl⟩
  case round =>
    obtain ⟨u, j, hu, hj, rfl, rfl⟩ := hrel
    have hl := lenB_le v
    by_cases h0 : 0 < u
    · have hs := lenB_step hu h0
      have Hs := Lib.hid hs
      have Hj := Lib.hid hj
      have hj8 : j ≤ 8 := by omega
      clear hs hj hl
      go_wp2
      go_round
      case rel => exact ⟨u / 256, j + 1, by omega, by have := Hs.out; have := Hj.out; omega, by go_num, val_int (by omega)⟩
      case measure => simp [intOf]; omega
    · have hu0 : u = 0 := by omega
      have hj' : j = lenB v := by rw [← hj, hu0, lenB_zero]; rfl
      have Hj := Lib.hid hj'
      clear hj' hj hu0 hl
      go_wp2
      go_ret
      exact ⟨ret_int (by rw [Hj.out]), rfl⟩
theorem rbyte_any (v : Nat) (i : Int) (w : World) (hv : v < 18446744073709551616) :
    Calls Try.prog 32 #[.int .u64 v, .int .i64 i] w fun e w' => e = .returned (.int .u8 (byteI v i : Int)) ∧ w = w' := by
  by_cases h : 0 ≤ i ∧ i ≤ 7
  · obtain ⟨ha, hb7⟩ := h
    obtain ⟨k, rfl⟩ := Int.eq_ofNat_of_zero_le ha
    have hk : k ≤ 7 := by omega
    clear ha hb7
    go_enter Try.func32, Try.ntmps32
    go_wp2
    go_loop [0, 5] (fun x c => ∃ u j : Nat, u < 18446744073709551616 ∧ j ≤ k ∧ byteN u (k - j) = byteN v k ∧ c = .int .i64 j ∧ x = .int .u64 u) (fun _ c => k - (intOf c).toNat)
    case atStart => exact ⟨v, 0, hv, by omega, rfl, rfl, rfl⟩
    case round =>
      obtain ⟨u, j, hu, hj, hby, rfl, rfl⟩ := hrel
      have Hby := Lib.hid hby
      clear hby
      by_cases h0 : j < k
      · go_wp2
        go_round
        case rel =>
          refine ⟨u / 256, j + 1, by omega, by omega, ?_, by go_num, val_int (by omega)⟩
          rw [← Hby.out, show k - j = k - (j + 1) + 1 from by omega, byteN_succ]
        case measure => simp [intOf]; omega
      · go_wp2
        go_ret
        refine ⟨ret_int ?_, rfl⟩
        rw [byteI_nat hk, ← Hby.out, show k - j = 0 from by omega, byteN_zero]; omega
  · by_cases ha : 0 ≤ i
    · go_enter Try.func32, Try.ntmps32
      have h7 : 7 < i := by omega
      go_wp2
      go_ret
      exact ⟨ret_int (by unfold byteI; rw [if_neg (by omega)]; rfl), rfl⟩
    · have hd : decide (i < 0) = true := by simp; omega
      go_enter Try.func32, Try.ntmps32
      go_wp2
      go_ret
      exact ⟨ret_int (by unfold byteI; rw [if_neg (by omega)]; rfl), rfl⟩
theorem byteN_withI {v b : Nat} {i : Int} (hb : b < 256) (k : Nat) (hk : k ≤ 7) : byteN (withI v i b) k = if (k : Int) = i then b else byteN v k := by
  unfold withI
  split
  · rw [byteN_withN hb]
    by_cases h : (k : Int) = i
    · rw [if_pos h, if_pos (by omega)]
    · rw [if_neg h, if_neg (by omega)]
  · rw [if_neg (by omega)]
theorem horner_in {p q c : Nat} (hp : p < 18446744073709551616) (h : p = q * 256 + c) : IntKind.u64.wrap (IntKind.u64.wrap ((q : Int) * 256) + (c : Int)) = (p : Int) := by
  rw [IntKind.wrap_u64, IntKind.wrap_u64]; omega
theorem rwith_any (v : Nat) (i : Int) (b : Nat) (w : World) (hv : v < 18446744073709551616) (hb : b < 256) :
    Calls Try.prog 33 #[.int .u64 v, .int .i64 i, .int .u8 b] w fun e w' => e = .returned (.int .u64 (withI v i b : Int)) ∧ w = w' := by
  have hX := withI_lt (v := v) (i := i) hv hb
  have hby := @byteN_withI v b i hb
  generalize withI v i b = X at *
  go_enter Try.func33, Try.ntmps33
  have Hby := Lib.hid hby
  clear hby
  go_wp2
  go_loop [7, 8] (fun x c => ∃ j : Nat, j ≤ 8 ∧ c = .int .i64 ((j : Int) - 1) ∧ x = .int .u64 (X / 256 ^ j : Nat)) (fun _ c => (intOf c + 1).toNat)
  case atStart => exact ⟨8, by omega, rfl, val_int (by simp; omega)⟩
  case round =>
    obtain ⟨j, hj, rfl, rfl⟩ := hrel
    by_cases h0 : j = 0
    · subst h0
      go_wp2
      go_ret
      exact ⟨ret_int (by simp), rfl⟩
    · obtain ⟨j, rfl⟩ : ∃ t, j = t + 1 := ⟨j - 1, by omega⟩
      have hc : ((j + 1 : Nat) : Int) - 1 = (j : Int) := by omega
      rw [hc]
      have hdp := div_pow_byte X j
      have hlt := Nat.lt_of_le_of_lt (Nat.div_le_self X (256 ^ j)) hX
      have hbl := byteN_lt X j
      have hby := Hby.out j (by omega)
      generalize X / 256 ^ (j + 1) = q at *
      generalize hp : X / 256 ^ j = p at *
      have HP := Lib.hid hp
      clear hp
      by_cases hi : (j : Int) = i
      · rw [if_pos hi] at hby
        rw [hby] at hdp
        have Hh := Lib.hid (horner_in hlt hdp)
        subst hi
        clear hdp hby hc h0
        go_wp2_with (go_at_call 32; refine (rbyte_any v _ _ hv).mono ?_; rintro e w' ⟨rfl, rfl⟩)
        go_round
        case rel => exact ⟨j, by omega, rfl, val_int (by rw [HP.out]; exact Hh.out)⟩
        case measure => simp [intOf]
      · rw [if_neg hi, ← byteI_nat (v := v) (k := j) (by omega)] at hby
        rw [hby] at hdp
        have hbi := byteI_lt v (j : Int)
        have hne : ((j : Int) == i) = false := by simpa using hi
        have Hh := Lib.hid (horner_in hlt hdp)
        clear hdp hby hc h0 hi
        go_wp2_with (go_at_call 32; refine (rbyte_any v _ _ hv).mono ?_; rintro e w' ⟨rfl, rfl⟩)
        go_round
        case rel => exact ⟨j, by omega, rfl, val_int (by rw [HP.out]; exact Hh.out)⟩
        case measure => simp [intOf]
end Go.Proofs.Ytfbchegfkilhpaa.Shift
