/- The walks of layer 1: what each function of package shift, and of its reference, computes. -/
import Derived.Test.YtfbchegfkilhpaaProg
import Derived.WalkKit
import Derived.WalkLawsBesides
import Derived.WalkSpells
import Derived.Outline
import Derived.Lib.Hide
import Derived.Test.YtfbchegfkilhpaaShiftRaw
namespace Go.Proofs.Ytfbchegfkilhpaa.Shift
open Go.RowKit

theorem ret_int {k : IntKind} {a b : Int} (h : a = b) : Ending.returned (.int k a) = .returned (.int k b) := by rw [h]
theorem val_int {k : IntKind} {a b : Int} (h : a = b) : Value.int k a = Value.int k b := by rw [h]
theorem ret2_int {k l : IntKind} {a b c d : Int} (h : a = b) (h2 : c = d) : Ending.returned (.tuple #[.int k a, .int l c]) = .returned (.tuple #[.int k b, .int l d]) := by rw [h, h2]
theorem pack_any (d n : Nat) (w : World) (hd : d < 65536) (hn : n < 18446744073709551616) :
    Calls Try.prog 22 #[.int .u16 d, .int .u64 n] w fun e w' => e = .returned (.int .u64 (packN d n : Int)) ∧ w = w' := by
  go_enter Try.func22, Try.ntmps22
  go_wp2
  go_ret
  exact ⟨ret_int (pack_raw d n hd hn), rfl⟩
theorem rpack_any (d n : Nat) (w : World) (hd : d < 65536) (hn : n < 18446744073709551616) :
    Calls Try.prog 31 #[.int .u16 d, .int .u64 n] w fun e w' => e = .returned (.int .u64 (packN d n : Int)) ∧ w = w' := by
  go_enter Try.func31, Try.ntmps31
  go_wp2
  go_ret
  exact ⟨ret_int (by unfold packN; omega), rfl⟩
theorem split_any (v : Nat) (w : World) (hv : v < 18446744073709551616) :
    Calls Try.prog 21 #[.int .u64 v] w fun e w' => e = .returned (.tuple #[.int .u16 (devN v : Int), .int .u64 (lowN v : Int)]) ∧ w = w' := by
  have hl := and_low48 v hv
  go_enter Try.func21, Try.ntmps21
  go_wp2
  go_ret2
  exact ⟨ret2_int (by unfold devN; omega) (by unfold lowN; omega), rfl⟩
theorem rsplit_any (v : Nat) (w : World) (hv : v < 18446744073709551616) :
    Calls Try.prog 30 #[.int .u64 v] w fun e w' => e = .returned (.tuple #[.int .u16 (devN v : Int), .int .u64 (lowN v : Int)]) ∧ w = w' := by
  go_enter Try.func30, Try.ntmps30
  go_wp2
  go_ret2
  exact ⟨ret2_int (by unfold devN; omega) (by unfold lowN; omega), rfl⟩
theorem turn_any (v : Nat) (n : Int) (w : World) (hv : v < 18446744073709551616) :
    Calls Try.prog 12 #[.int .u64 v, .int .i64 n] w fun e w' => e = .returned (.int .u64 (rotN (n % 64).toNat v : Int)) ∧ w = w' := by
  have hk := and_63 n
  obtain ⟨k, hkk⟩ : ∃ k, (n % 64).toNat = k := ⟨_, rfl⟩
  have hk64 : k < 64 := by omega
  rw [hkk] at hk ⊢
  clear hkk
  have h2 : (64 : Int) - (k : Int) = ((64 - k : Nat) : Int) := by omega
  go_enter Try.func12, Try.ntmps12
  go_wp2
  go_ret
  exact ⟨ret_int (turn_raw v k hv hk64), rfl⟩
theorem rturn_any (v : Nat) (n : Int) (w : World) (hv : v < 18446744073709551616) :
    Calls Try.prog 16 #[.int .u64 v, .int .i64 n] w fun e w' => e = .returned (.int .u64 (rotN (n % 64).toNat v : Int)) ∧ w = w' := by
  obtain ⟨k, hkk⟩ : ∃ k, (n % 64).toNat = k := ⟨_, rfl⟩
  have hk64 : k < 64 := by omega
  have hm : (n.tmod 64 + 64) % 64 = (k : Int) := by rw [Int.tmod_eq_emod]; split <;> omega
  have hlo : -64 ≤ n.tmod 64 := by rw [Int.tmod_eq_emod]; split <;> omega
  have hhi : n.tmod 64 ≤ 64 := by rw [Int.tmod_eq_emod]; split <;> omega
  rw [hkk]
  clear hkk
  go_enter Try.func16, Try.ntmps16
  go_wp2
  go_loop [0, 5] (fun x c => ∃ j : Nat, j ≤ k ∧ c = .int .i64 j ∧ x = .int .u64 (rotN (k - j) v : Int)) (fun _ c => (intOf c).toNat)
  case atStart => exact ⟨k, Nat.le_refl _, val_int hm, by simp [rotN]⟩
  case round =>
    obtain ⟨j, hj, rfl, rfl⟩ := hrel
    have hlt := rotN_lt (k - j) hv
    by_cases h0 : 0 < j
    · have hs : IntKind.u64.wrap (IntKind.u64.wrap ((rotN (k - j) v : Int) * 2) + (rotN (k - j) v : Int) / 9223372036854775808) = (rotN (k - (j - 1)) v : Int) := by
        rw [show k - (j - 1) = k - j + 1 from by omega, IntKind.wrap_u64, IntKind.wrap_u64]
        show _ = ((rot1 (rotN (k - j) v) : Nat) : Int)
        unfold rot1; omega
      have HS := Lib.hid hs
      clear hs
      go_wp2
      go_round
      case rel => exact ⟨j - 1, by omega, val_int (by omega), val_int HS.out⟩
      case measure => simp [intOf]; omega
    · go_wp2
      go_ret
      exact ⟨ret_int (by rw [show k - j = k from by omega]), rfl⟩
theorem fold_any (n : Int) (w : World) (h1 : -9223372036854775808 ≤ n) (h2 : n ≤ 9223372036854775807) :
    Calls Try.prog 17 #[.int .i64 n] w fun e w' => e = .returned (.int .u64 (foldI n : Int)) ∧ w = w' := by
  go_enter Try.func17, Try.ntmps17
  go_wp2
  go_ret
  exact ⟨ret_int (fold_raw n h1 h2), rfl⟩
theorem rfold_any (n : Int) (w : World) (h1 : -9223372036854775808 ≤ n) (h2 : n ≤ 9223372036854775807) :
    Calls Try.prog 18 #[.int .i64 n] w fun e w' => e = .returned (.int .u64 (foldI n : Int)) ∧ w = w' := by
  by_cases h0 : 0 ≤ n
  · go_enter Try.func18, Try.ntmps18
    go_wp2
    go_ret
    exact ⟨ret_int (by unfold foldI; rw [if_pos h0]; omega), rfl⟩
  · go_enter Try.func18, Try.ntmps18
    go_wp2
    go_ret
    exact ⟨ret_int (by unfold foldI; rw [if_neg (by omega)]; omega), rfl⟩
theorem unfold_any (v : Nat) (w : World) (hv : v < 18446744073709551616) :
    Calls Try.prog 19 #[.int .u64 v] w fun e w' => e = .returned (.int .i64 (unfoldN v)) ∧ w = w' := by
  go_enter Try.func19, Try.ntmps19
  go_wp2
  go_ret
  exact ⟨ret_int (unfold_raw v hv), rfl⟩
theorem runfold_any (v : Nat) (w : World) (hv : v < 18446744073709551616) :
    Calls Try.prog 20 #[.int .u64 v] w fun e w' => e = .returned (.int .i64 (unfoldN v)) ∧ w = w' := by
  by_cases h : v % 2 = 0
  · have hb : ((v : Int) % 2 == 0) = true := by simp; omega
    go_enter Try.func20, Try.ntmps20
    go_wp2
    go_ret
    exact ⟨ret_int (by unfold unfoldN; rw [if_pos h]; omega), rfl⟩
  · have hb : ((v : Int) % 2 == 0) = false := by simp; omega
    go_enter Try.func20, Try.ntmps20
    go_wp2
    go_ret
    exact ⟨ret_int (by unfold unfoldN; rw [if_neg h]; omega), rfl⟩
def narrowB (n : Int) : Bool := decide (0 ≤ n ∧ n ≤ 65535)
def narrowN (n : Int) : Int := if 0 ≤ n ∧ n ≤ 65535 then n else 0
theorem ret_ib {k : IntKind} {a b : Int} {c d : Bool} (h : a = b) (h2 : c = d) : Ending.returned (.tuple #[.int k a, .bool c]) = .returned (.tuple #[.int k b, .bool d]) := by rw [h, h2]
theorem narrow_any (n : Int) (w : World) (h1 : -9223372036854775808 ≤ n) (h2 : n ≤ 9223372036854775807) :
    Calls Try.prog 14 #[.int .i64 n] w fun e w' => e = .returned (.tuple #[.int .u16 (narrowN n), .bool (narrowB n)]) ∧ w = w' := by
  by_cases h : 0 ≤ n ∧ n ≤ 65535
  · obtain ⟨ha, hb⟩ := h
    go_enter Try.func14, Try.ntmps14
    go_wp2
    go_ret2
    exact ⟨ret_ib (by unfold narrowN; rw [if_pos ⟨ha, hb⟩]) (by unfold narrowB; simp [ha, hb]), rfl⟩
  · have hb : (wrap64 (IntKind.u16.wrap n) == n) = false := by
      rw [IntKind.wrap_u16, IntWalk.wrap64_in _ ⟨by omega, by omega⟩]; simp; omega
    go_enter Try.func14, Try.ntmps14
    go_wp2
    go_ret2
    exact ⟨ret_ib (by unfold narrowN; rw [if_neg h]) (by unfold narrowB; simp [h]), rfl⟩
theorem rnarrow_any (n : Int) (w : World) (h1 : -9223372036854775808 ≤ n) (h2 : n ≤ 9223372036854775807) :
    Calls Try.prog 15 #[.int .i64 n] w fun e w' => e = .returned (.tuple #[.int .u16 (narrowN n), .bool (narrowB n)]) ∧ w = w' := by
  by_cases ha : 0 ≤ n
  · by_cases hb : n ≤ 65535
    · go_enter Try.func15, Try.ntmps15
      go_wp2
      go_ret2
      exact ⟨ret_ib (by unfold narrowN; rw [if_pos ⟨ha, hb⟩]) (by unfold narrowB; simp [ha, hb]), rfl⟩
    · go_enter Try.func15, Try.ntmps15
      go_wp2
      go_ret2
      exact ⟨ret_ib (by unfold narrowN; rw [if_neg (by omega)]) (by unfold narrowB; simp [hb]), rfl⟩
  · have hd : decide (n < 0) = true := by simp; omega
    go_enter Try.func15, Try.ntmps15
    go_wp2
    go_ret2
    exact ⟨ret_ib (by unfold narrowN; rw [if_neg (by omega)]) (by unfold narrowB; simp; omega), rfl⟩
end Go.Proofs.Ytfbchegfkilhpaa.Shift
