/- The laws of layer 1, as walks. -/
import Derived.Test.YtfbchegfkilhpaaShiftWalksB
namespace Go.Proofs.Ytfbchegfkilhpaa.Shift
open Go.RowKit

theorem not_raw (v : Nat) (hv : v < 18446744073709551616) : bits .xor .u64 IntKind.u64.max (v : Int) = ((18446744073709551615 - v : Nat) : Int) := by
  have h := u64_xor_nat 18446744073709551615 v (by decide) hv
  rw [Nat.xor_comm] at h
  exact h.trans ((u64_xor_nat v 18446744073709551615 hv (by decide)).symm.trans (bits_xor_ones_u64 v hv))
theorem works_any (w : World) : Calls Try.prog 13 #[] w fun e w' => e = .returned (.bool true) ∧ w = w' := by
  have p1 : packN 3 17 = 844424930131985 := rfl
  have p2 : foldI (-1) = 1 := rfl
  have p3 : foldI 1 = 2 := rfl
  have p4 : rotN ((-1 : Int) % 64).toNat 1 = 9223372036854775808 := by rw [show ((-1 : Int) % 64).toNat = 63 from rfl, ← rotl_eq (by decide) 63 (by decide)]; decide
  have c1 := fun w => pack_any 3 17 w (by decide) (by decide)
  have c2 := fun w => fold_any (-1) w (by decide) (by decide)
  have c3 := fun w => fold_any 1 w (by decide) (by decide)
  have c4 := fun w => turn_any 1 (-1) w (by decide)
  rw [p1] at c1; rw [p2] at c2; rw [p3] at c3; rw [p4] at c4
  have C1 := Lib.hid c1
  have C2 := Lib.hid c2
  have C3 := Lib.hid c3
  have C4 := Lib.hid c4
  clear p1 p2 p3 p4 c1 c2 c3 c4
  go_enter Try.func13, Try.ntmps13
  go_wp2_with fail
  refine (C1.out _).mono ?_
  rintro e w' ⟨rfl, rfl⟩
  go_wp2_with fail
  refine (C2.out _).mono ?_
  rintro e w' ⟨rfl, rfl⟩
  go_wp2_with fail
  refine (C3.out _).mono ?_
  rintro e w' ⟨rfl, rfl⟩
  go_wp2_with fail
  refine (C4.out _).mono ?_
  rintro e w' ⟨rfl, rfl⟩
  go_wp2_with fail
  go_ret
  exact ⟨rfl, rfl⟩
theorem rotN_zero (v : Nat) : rotN 0 v = v := rfl
theorem round_law (v : Nat) (a b : Int) (w : World) (hv : v < 18446744073709551616) :
    Calls Try.prog 3 #[.int .u64 v, .int .i64 a, .int .i64 b] w fun e w' => e = .returned (.bool true) ∧ w = w' := by
  go_enter Try.func3, Try.ntmps3
  go_wp2_with fail
  refine (turn_any v a _ hv).mono ?_
  rintro e w' ⟨rfl, rfl⟩
  go_wp2_with fail
  go_loop [7, 8] (fun x c => ∃ j : Nat, j ≤ 63 ∧ c = .int .i64 j ∧ x = .int .u64 (rotN ((j + 1) * (a % 64).toNat) v : Nat)) (fun _ c => 63 - (intOf c).toNat)
  case atStart => exact ⟨0, by omega, rfl, by simp⟩
  case round =>
    obtain ⟨j, hj, rfl, rfl⟩ := hrel
    have hx := rotN_lt ((j + 1) * (a % 64).toNat) hv
    by_cases h0 : j < 63
    · go_wp2_with fail
      refine (turn_any _ a _ hx).mono ?_
      rintro e w' ⟨rfl, rfl⟩
      go_wp2_with fail
      go_round
      case rel => exact ⟨j + 1, by omega, by go_num, val_int (by rw [← rotN_add, show (a % 64).toNat + (j + 1) * (a % 64).toNat = (j + 1 + 1) * (a % 64).toNat from by rw [Nat.succ_mul (j + 1)]; omega])⟩
      case measure => simp [intOf]; omega
    · have e64 : rotN ((j + 1) * (a % 64).toNat) v = v := by rw [show j + 1 = 64 from by omega]; exact rotN_64mul _ hv
      rw [e64]
      have hc := rotN_comm (b % 64).toNat (a % 64).toNat v
      have hn := rotN_not (a % 64).toNat hv
      have ha := rotN_lt (a % 64).toNat hv
      have hb := rotN_lt (b % 64).toNat hv
      have hxn := xor_not ha
      clear e64 hx
      go_wp2_with fail
      refine (turn_any _ _ _ (by assumption)).mono ?_
      rintro e w' ⟨rfl, rfl⟩
      go_wp2_with fail
      refine (turn_any _ _ _ (by assumption)).mono ?_
      rintro e w' ⟨rfl, rfl⟩
      go_wp2_with fail
      refine (turn_any _ _ _ (by assumption)).mono ?_
      rintro e w' ⟨rfl, rfl⟩
      go_wp2_with fail
      refine (turn_any _ _ _ (by assumption)).mono ?_
      rintro e w' ⟨rfl, rfl⟩
      go_wp2_with fail
      refine (turn_any _ _ _ (by assumption)).mono ?_
      rintro e w' ⟨rfl, rfl⟩
      have h64 : rotN ((64 : Int) % 64).toNat v = v := rfl
      rw [h64]
      go_wp2_with fail
      refine (turn_any _ _ _ (by assumption)).mono ?_
      rintro e w' ⟨rfl, rfl⟩
      go_wp2_with fail
      rw [not_raw v hv]
      refine (turn_any _ _ _ (by omega)).mono ?_
      rintro e w' ⟨rfl, rfl⟩
      rw [hn]
      have hx2 : bits .xor .u64 (rotN (a % 64).toNat v : Int) ((18446744073709551615 - rotN (a % 64).toNat v : Nat) : Int) = 18446744073709551615 := by
        rw [u64_xor_nat _ _ ha (by omega), hxn]; rfl
      go_wp2_with fail
      refine (works_any _).mono ?_
      rintro e w' ⟨rfl, rfl⟩
      go_wp2_with fail
      go_ret
      exact ⟨rfl, rfl⟩
theorem turns_law (v : Nat) (n s : Int) (w : World) (hv : v < 18446744073709551616) (h1 : -9223372036854775808 ≤ n) (h2 : n ≤ 9223372036854775807) (h3 : -9223372036854775808 ≤ s) (h4 : s ≤ 9223372036854775807) :
    Calls Try.prog 4 #[.int .u64 v, .int .i64 n, .int .i64 s] w fun e w' => e = .returned (.bool true) ∧ w = w' := by
  go_enter Try.func4, Try.ntmps4
  go_wp2_with (first
    | (go_at_call 14; refine (narrow_any _ _ h1 h2).mono ?_; rintro e w' ⟨rfl, rfl⟩)
    | (go_at_call 15; refine (rnarrow_any _ _ h1 h2).mono ?_; rintro e w' ⟨rfl, rfl⟩)
    | (go_at_call 12; refine (turn_any _ _ _ hv).mono ?_; rintro e w' ⟨rfl, rfl⟩)
    | (go_at_call 16; refine (rturn_any _ _ _ hv).mono ?_; rintro e w' ⟨rfl, rfl⟩)
    | (go_at_call 17; refine (fold_any _ _ h3 h4).mono ?_; rintro e w' ⟨rfl, rfl⟩)
    | (go_at_call 18; refine (rfold_any _ _ h3 h4).mono ?_; rintro e w' ⟨rfl, rfl⟩)
    | (go_at_call 19; refine (unfold_any _ _ hv).mono ?_; rintro e w' ⟨rfl, rfl⟩)
    | (go_at_call 20; refine (runfold_any _ _ hv).mono ?_; rintro e w' ⟨rfl, rfl⟩)
    | (go_at_call 13; refine (works_any _).mono ?_; rintro e w' ⟨rfl, rfl⟩))
  go_ret
  exact ⟨rfl, rfl⟩
theorem parts_law (d v : Nat) (i : Int) (w : World) (hd : d < 65536) (hv : v < 18446744073709551616) (h1 : -9223372036854775808 ≤ i) (h2 : i ≤ 9223372036854775807) :
    Calls Try.prog 8 #[.int .u16 d, .int .u64 v, .int .i64 i] w fun e w' => e = .returned (.bool true) ∧ w = w' := by
  go_enter Try.func8, Try.ntmps8
  have hb : d % 256 < 256 := by omega
  have e8 : (d : Int) % 256 = ((d % 256 : Nat) : Int) := by omega
  generalize d % 256 = b at *
  go_wp2_with (first
    | (go_at_call 21; refine (split_any _ _ hv).mono ?_; rintro e w' ⟨rfl, rfl⟩)
    | (go_at_call 30; refine (rsplit_any _ _ hv).mono ?_; rintro e w' ⟨rfl, rfl⟩)
    | (go_at_call 22; refine (pack_any _ _ _ hd hv).mono ?_; rintro e w' ⟨rfl, rfl⟩)
    | (go_at_call 31; refine (rpack_any _ _ _ hd hv).mono ?_; rintro e w' ⟨rfl, rfl⟩)
    | (go_at_call 24; refine (byte_any _ _ _ h1 h2).mono ?_; rintro e w' ⟨rfl, rfl⟩)
    | (go_at_call 32; refine (rbyte_any _ _ _ hv).mono ?_; rintro e w' ⟨rfl, rfl⟩)
    | (go_at_call 23; refine (with_any _ _ _ _ hv hb h1 h2).mono ?_; rintro e w' ⟨rfl, rfl⟩)
    | (go_at_call 33; refine (rwith_any _ _ _ _ hv hb).mono ?_; rintro e w' ⟨rfl, rfl⟩)
    | (go_at_call 34; refine (len_any _ _ hv).mono ?_; rintro e w' ⟨rfl, rfl⟩)
    | (go_at_call 35; refine (rlen_any _ _ hv).mono ?_; rintro e w' ⟨rfl, rfl⟩)
    | (go_at_call 13; refine (works_any _).mono ?_; rintro e w' ⟨rfl, rfl⟩))
  go_ret
  exact ⟨rfl, rfl⟩
theorem back_law (d v : Nat) (s : Int) (w : World) (hd : d < 65536) (hv : v < 18446744073709551616) (h3 : -9223372036854775808 ≤ s) (h4 : s ≤ 9223372036854775807) :
    Calls Try.prog 5 #[.int .u16 d, .int .u64 v, .int .i64 s] w fun e w' => e = .returned (.bool true) ∧ w = w' := by
  have hp := packN_lt (n := v) hd
  have e1 := devN_pack d v
  have e2 := lowN_pack d v
  have hdv := devN_lt hv
  have hlv := lowN_lt v
  have e3 := packN_parts v
  have hl : ((lowN v : Nat) : Int) = (v : Int) % 281474976710656 := by unfold lowN; omega
  have E1 := Lib.hid e1
  have E2 := Lib.hid e2
  have E3 := Lib.hid e3
  have HL := Lib.hid hl
  clear e1 e2 e3 hl
  go_enter Try.func5, Try.ntmps5
  go_wp2_with fail
  refine (pack_any _ _ _ hd hv).mono ?_
  rintro e w' ⟨rfl, rfl⟩
  go_wp2_with fail
  refine (split_any _ _ hp).mono ?_
  rintro e w' ⟨rfl, rfl⟩
  rw [E1.out, E2.out]
  go_wp2_with fail
  refine (split_any _ _ hv).mono ?_
  rintro e w' ⟨rfl, rfl⟩
  go_wp2_with fail
  go_loop [11, 12] (fun x c => ∃ j : Nat, j ≤ 8 ∧ c = .int .i64 j ∧ x = .int .u64 (v % 256 ^ j : Nat)) (fun _ c => 8 - (intOf c).toNat)
  case atStart => exact ⟨0, by omega, rfl, val_int (by omega)⟩
  case round =>
    obtain ⟨j, hj, rfl, rfl⟩ := hrel
    by_cases h0 : j < 8
    · have hm := withN_mod v j
      have hlt := Nat.lt_of_le_of_lt (Nat.mod_le v (256 ^ j)) hv
      have hb := byteI_lt v (j : Int)
      have hw : withI (v % 256 ^ j) (j : Int) (byteI v (j : Int)) = v % 256 ^ (j + 1) := by rw [withI_nat (by omega), byteI_nat (by omega), hm]
      generalize hx : v % 256 ^ j = x at *
      have HW := Lib.hid hw
      have HX := Lib.hid hx
      clear hw hx hm
      go_wp2_with fail
      refine (byte_any _ _ _ (by omega) (by omega)).mono ?_
      rintro e w' ⟨rfl, rfl⟩
      go_wp2_with fail
      refine (with_any _ _ _ _ hlt hb (by omega) (by omega)).mono ?_
      rintro e w' ⟨rfl, rfl⟩
      go_wp2_with fail
      go_round
      case rel => exact ⟨j + 1, by omega, by go_num, val_int (by rw [HW.out])⟩
      case measure => simp [intOf]; omega
    · have ev : v % 256 ^ j = v := by rw [show j = 8 from by omega]; exact Nat.mod_eq_of_lt hv
      rw [ev]
      have hcmp : ((lowN v : Int) == (v : Int) % 281474976710656) = true := by rw [HL.out]; simp
      have hfo := foldI_lt h3 h4
      have HUF := Lib.hid (unfold_fold s)
      have HFU := Lib.hid (fold_unfold v)
      obtain ⟨hb1, hb2⟩ := unfoldN_bd hv
      clear ev
      go_wp2_with fail
      refine (pack_any _ _ _ hdv hlv).mono ?_
      rintro e w' ⟨rfl, rfl⟩
      rw [E3.out]
      go_wp2_with fail
      refine (fold_any _ _ h3 h4).mono ?_
      rintro e w' ⟨rfl, rfl⟩
      go_wp2_with fail
      refine (unfold_any _ _ hfo).mono ?_
      rintro e w' ⟨rfl, rfl⟩
      rw [HUF.out]
      go_wp2_with fail
      refine (unfold_any _ _ hv).mono ?_
      rintro e w' ⟨rfl, rfl⟩
      go_wp2_with fail
      refine (fold_any _ _ hb1 hb2).mono ?_
      rintro e w' ⟨rfl, rfl⟩
      rw [HFU.out]
      go_wp2_with fail
      refine (works_any _).mono ?_
      rintro e w' ⟨rfl, rfl⟩
      go_wp2_with fail
      go_ret
      exact ⟨rfl, rfl⟩
end Go.Proofs.Ytfbchegfkilhpaa.Shift
