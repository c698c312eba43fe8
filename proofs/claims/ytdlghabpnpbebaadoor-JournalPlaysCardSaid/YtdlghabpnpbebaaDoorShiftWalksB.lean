/- The walks of layer 1, continued: the bytes of a number. -/
import Derived.Test.YtdlghabpnpbebaaDoorShiftWalks
namespace Go.Proofs.YtdlghabpnpbebaaDoor.Shift
open Go.RowKit

def byteI (v : Nat) (i : Int) : Nat := if 0 ≤ i ∧ i ≤ 7 then byteN v i.toNat else 0
def withI (v : Nat) (i : Int) (b : Nat) : Nat := if 0 ≤ i ∧ i ≤ 7 then withN v i.toNat b else v
theorem byteI_lt (v : Nat) (i : Int) : byteI v i < 256 := by unfold byteI; split; exact byteN_lt _ _; decide
theorem byteI_nat {v k : Nat} (hk : k ≤ 7) : byteI v k = byteN v k := by unfold byteI; rw [if_pos (by omega)]; rfl
theorem withI_nat {v k b : Nat} (hk : k ≤ 7) : withI v k b = withN v k b := by unfold withI; rw [if_pos (by omega)]; rfl
theorem withI_lt {v b : Nat} {i : Int} (hv : v < 18446744073709551616) (hb : b < 256) : withI v i b < 18446744073709551616 := by
  unfold withI; split
  · exact withN_lt hv (by omega) hb
  · exact hv
theorem u64_big {i : Int} (h1 : -9223372036854775808 ≤ i) (h2 : i ≤ 9223372036854775807) (h : ¬(0 ≤ i ∧ i ≤ 7)) : 7 < IntKind.u64.wrap i := by
  rw [IntKind.wrap_u64]; omega
theorem byte_any (v : Nat) (i : Int) (w : World) (h1 : -9223372036854775808 ≤ i) (h2 : i ≤ 9223372036854775807) :
    Calls Tryd.prog 71 #[.int .u64 v, .int .i64 i] w fun e w' => e = .returned (.int .u8 (byteI v i : Int)) ∧ w = w' := by
  by_cases h : 0 ≤ i ∧ i ≤ 7
  · obtain ⟨ha, hb7⟩ := h
    obtain ⟨k, rfl⟩ := Int.eq_ofNat_of_zero_le ha
    have hk : k ≤ 7 := by omega
    clear ha hb7
    go_enter Tryd.func71, Tryd.ntmps71
    go_wp2
    go_ret
    exact ⟨ret_int (by rw [byteI_nat hk]; exact byte_raw v k), rfl⟩
  · have hb := u64_big h1 h2 h
    go_enter Tryd.func71, Tryd.ntmps71
    go_wp2
    go_ret
    exact ⟨ret_int (by unfold byteI; rw [if_neg h]; rfl), rfl⟩
theorem len_any (v : Nat) (w : World) (hv : v < 18446744073709551616) :
    Calls Tryd.prog 70 #[.int .u64 v] w fun e w' => e = .returned (.int .i64 (lenB v : Int)) ∧ w = w' := by
  go_enter Tryd.func70, Tryd.ntmps70
  go_wp2
  go_loop [0, 3] (fun x c => ∃ u j : Nat, u < 18446744073709551616 ∧ j + lenB u = lenB v ∧ c = .int .i64 j ∧ x = .int .u64 u) (fun x _ => (intOf x).toNat)
  case atStart => exact ⟨v, 0, hv, by omega, rfl, rfl⟩
  case round =>
    obtain ⟨u, j, hu, hj, rfl, rfl⟩ := hrel
    have hl := lenB_le v
    by_cases h0 : 0 < u
    · have hs := lenB_step hu h0
      have Hs := Lib.hid hs
      have Hj := Lib.hid hj
      have hj8 : j ≤ 8 := by omega
      clear hs hj hl
      go_wp2
      go_round
      case rel => exact ⟨u / 256, j + 1, by omega, by have := Hs.out; have := Hj.out; omega, by go_num, val_int (by omega)⟩
      case measure => simp [intOf]; omega
    · have hu0 : u = 0 := by omega
      have hj' : j = lenB v := by rw [← hj, hu0, lenB_zero]; rfl
      have Hj := Lib.hid hj'
      clear hj' hj hu0 hl
      go_wp2
      go_ret
      exact ⟨ret_int (by rw [Hj.out]), rfl⟩
theorem rlen_any (v : Nat) (w : World) (hv : v < 18446744073709551616) :
    Calls Tryd.prog 79 #[.int .u64 v] w fun e w' => e = .returned (.int .i64 (lenB v : Int)) ∧ w = w' := by
  go_enter Tryd.func79, Tryd.ntmps79
  go_wp2
  go_loop [0, 3] (fun x c => ∃ u j : Nat, u < 18446744073709551616 ∧ j + lenB u = lenB v ∧ c = .int .i64 j ∧ x = .int .u64 u) (fun x _ => (intOf x).toNat)
  case atStart => exact ⟨v, 0, hv, by omega, rfl, rfl⟩
  case round =>
    obtain ⟨u, j, hu, hj, rfl, rfl⟩ := hrel
    have hl := lenB_le v
    by_cases h0 : 0 < u
    · have hs := lenB_step hu h0
      have Hs := Lib.hid hs
      have Hj := Lib.hid hj
      have hj8 : j ≤ 8 := by omega
      clear hs hj hl
      go_wp2
      go_round
      case rel => exact ⟨u / 256, j + 1, by omega, by have := Hs.out; have := Hj.out; omega, by go_num, val_int (by omega)⟩
      case measure => simp [intOf]; omega
    · have hu0 : u = 0 := by omega
      have hj' : j = lenB v := by rw [← hj, hu0, lenB_zero]; rfl
      have Hj := Lib.hid hj'
      clear hj' hj hu0 hl
      go_wp2
      go_ret
      exact ⟨ret_int (by rw [Hj.out]), rfl⟩
theorem rbyte_any (v : Nat) (i : Int) (w : World) (hv : v < 18446744073709551616) :
    Calls Tryd.prog 80 #[.int .u64 v, .int .i64 i] w fun e w' => e = .returned (.int .u8 (byteI v i : Int)) ∧ w = w' := by
  by_cases h : 0 ≤ i ∧ i ≤ 7
  · obtain ⟨ha, hb7⟩ := h
    obtain ⟨k, rfl⟩ := Int.eq_ofNat_of_zero_le ha
    have hk : k ≤ 7 := by omega
    clear ha hb7
    go_enter Tryd.func80, Tryd.ntmps80
    go_wp2
    go_loop [0, 5] (fun x c => ∃ u j : Nat, u < 18446744073709551616 ∧ j ≤ k ∧ byteN u (k - j) = byteN v k ∧ c = .int .i64 j ∧ x = .int .u64 u) (fun _ c => k - (intOf c).toNat)
    case atStart => exact ⟨v, 0, hv, by omega, rfl, rfl, rfl⟩
    case round =>
      obtain ⟨u, j, hu, hj, hby, rfl, rfl⟩ := hrel
      have Hby := Lib.hid hby
      clear hby
      by_cases h0 : j < k
      · go_wp2
        go_round
        case rel =>
          refine ⟨u / 256, j + 1, by omega, by omega, ?_, by go_num, val_int (by omega)⟩
          rw [← Hby.out, show k - j = k - (j + 1) + 1 from by omega, byteN_succ]
        case measure => simp [intOf]; omega
      · go_wp2
        go_ret
        refine ⟨ret_int ?_, rfl⟩
        rw [byteI_nat hk, ← Hby.out, show k - j = 0 from by omega, byteN_zero]; omega
  · by_cases ha : 0 ≤ i
    · go_enter Tryd.func80, Tryd.ntmps80
      have h7 : 7 < i := by omega
      go_wp2
      go_ret
      exact ⟨ret_int (by unfold byteI; rw [if_neg (by omega)]; rfl), rfl⟩
    · have hd : decide (i < 0) = true := by simp; omega
      go_enter Tryd.func80, Tryd.ntmps80
      go_wp2
      go_ret
      exact ⟨ret_int (by unfold byteI; rw [if_neg (by omega)]; rfl), rfl⟩
theorem byteN_withI {v b : Nat} {i : Int} (hb : b < 256) (k : Nat) (hk : k ≤ 7) : byteN (withI v i b) k = if (k : Int) = i then b else byteN v k := by
  unfold withI
  split
  · rw [byteN_withN hb]
    by_cases h : (k : Int) = i
    · rw [if_pos h, if_pos (by omega)]
    · rw [if_neg h, if_neg (by omega)]
  · rw [if_neg (by omega)]
theorem horner_in {p q c : Nat} (hp : p < 18446744073709551616) (h : p = q * 256 + c) : IntKind.u64.wrap (IntKind.u64.wrap ((q : Int) * 256) + (c : Int)) = (p : Int) := by
  rw [IntKind.wrap_u64, IntKind.wrap_u64]; omega
end Go.Proofs.YtdlghabpnpbebaaDoor.Shift
