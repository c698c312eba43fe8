/- The walks of layer 1: what each function of package shift, and of its reference, computes. -/
import Derived.Test.YtijdkbejlaebhaaProg
import Derived.WalkKit
import Derived.WalkLawsBesides
import Derived.WalkSpells
import Derived.Outline
import Derived.Lib.Hide
import Derived.Test.YtijdkbejlaebhaaShiftRaw
namespace Go.Proofs.Ytijdkbejlaebhaa.Shift
open Go.RowKit

theorem ret_int {k : IntKind} {a b : Int} (h : a = b) : Ending.returned (.int k a) = .returned (.int k b) := by rw [h]
theorem val_int {k : IntKind} {a b : Int} (h : a = b) : Value.int k a = Value.int k b := by rw [h]
theorem ret2_int {k l : IntKind} {a b c d : Int} (h : a = b) (h2 : c = d) : Ending.returned (.tuple #[.int k a, .int l c]) = .returned (.tuple #[.int k b, .int l d]) := by rw [h, h2]
theorem split_any (v : Nat) (w : World) (hv : v < 18446744073709551616) :
    Calls Try.prog 155 #[.int .u64 v] w fun e w' => e = .returned (.tuple #[.int .u16 (devN v : Int), .int .u64 (lowN v : Int)]) ∧ w = w' := by
  have hl := and_low48 v hv
  go_enter Try.func155, Try.ntmps155
  go_wp2
  go_ret2
  exact ⟨ret2_int (by unfold devN; omega) (by unfold lowN; omega), rfl⟩
theorem rsplit_any (v : Nat) (w : World) (hv : v < 18446744073709551616) :
    Calls Try.prog 157 #[.int .u64 v] w fun e w' => e = .returned (.tuple #[.int .u16 (devN v : Int), .int .u64 (lowN v : Int)]) ∧ w = w' := by
  go_enter Try.func157, Try.ntmps157
  go_wp2
  go_ret2
  exact ⟨ret2_int (by unfold devN; omega) (by unfold lowN; omega), rfl⟩
theorem fold_any (n : Int) (w : World) (h1 : -9223372036854775808 ≤ n) (h2 : n ≤ 9223372036854775807) :
    Calls Try.prog 162 #[.int .i64 n] w fun e w' => e = .returned (.int .u64 (foldI n : Int)) ∧ w = w' := by
  go_enter Try.func162, Try.ntmps162
  go_wp2
  go_ret
  exact ⟨ret_int (fold_raw n h1 h2), rfl⟩
theorem rfold_any (n : Int) (w : World) (h1 : -9223372036854775808 ≤ n) (h2 : n ≤ 9223372036854775807) :
    Calls Try.prog 166 #[.int .i64 n] w fun e w' => e = .returned (.int .u64 (foldI n : Int)) ∧ w = w' := by
  by_cases h0 : 0 ≤ n
  · go_enter Try.func166, Try.ntmps166
    go_wp2
    go_ret
    exact ⟨ret_int (by unfold foldI; rw [if_pos h0]; omega), rfl⟩
  · go_enter Try.func166, Try.ntmps166
    go_wp2
    go_ret
    exact ⟨ret_int (by unfold foldI; rw [if_neg (by omega)]; omega), rfl⟩
theorem unfold_any (v : Nat) (w : World) (hv : v < 18446744073709551616) :
    Calls Try.prog 164 #[.int .u64 v] w fun e w' => e = .returned (.int .i64 (unfoldN v)) ∧ w = w' := by
  go_enter Try.func164, Try.ntmps164
  go_wp2
  go_ret
  exact ⟨ret_int (unfold_raw v hv), rfl⟩
theorem runfold_any (v : Nat) (w : World) (hv : v < 18446744073709551616) :
    Calls Try.prog 165 #[.int .u64 v] w fun e w' => e = .returned (.int .i64 (unfoldN v)) ∧ w = w' := by
  by_cases h : v % 2 = 0
  · have hb : ((v : Int) % 2 == 0) = true := by simp; omega
    go_enter Try.func165, Try.ntmps165
    go_wp2
    go_ret
    exact ⟨ret_int (by unfold unfoldN; rw [if_pos h]; omega), rfl⟩
  · have hb : ((v : Int) % 2 == 0) = false := by simp; omega
    go_enter Try.func165, Try.ntmps165
    go_wp2
    go_ret
    exact ⟨ret_int (by unfold unfoldN; rw [if_neg h]; omega), rfl⟩
def narrowB (n : Int) : Bool := decide (0 ≤ n ∧ n ≤ 65535)
def narrowN (n : Int) : Int := if 0 ≤ n ∧ n ≤ 65535 then n else 0
theorem ret_ib {k : IntKind} {a b : Int} {c d : Bool} (h : a = b) (h2 : c = d) : Ending.returned (.tuple #[.int k a, .bool c]) = .returned (.tuple #[.int k b, .bool d]) := by rw [h, h2]
end Go.Proofs.Ytijdkbejlaebhaa.Shift
