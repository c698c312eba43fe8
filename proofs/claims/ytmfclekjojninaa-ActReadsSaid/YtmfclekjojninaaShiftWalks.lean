/- The walks of layer 1: what each function of package shift, and of its reference, computes. -/
import Derived.Test.YtmfclekjojninaaProg
import Derived.WalkKit
import Derived.WalkLawsBesides
import Derived.WalkSpells
import Derived.Outline
import Derived.Lib.Hide
import Derived.Test.YtmfclekjojninaaShiftRaw
namespace Go.Proofs.Ytmfclekjojninaa.Shift
open Go.RowKit

theorem ret_int {k : IntKind} {a b : Int} (h : a = b) : Ending.returned (.int k a) = .returned (.int k b) := by rw [h]
theorem val_int {k : IntKind} {a b : Int} (h : a = b) : Value.int k a = Value.int k b := by rw [h]
theorem ret2_int {k l : IntKind} {a b c d : Int} (h : a = b) (h2 : c = d) : Ending.returned (.tuple #[.int k a, .int l c]) = .returned (.tuple #[.int k b, .int l d]) := by rw [h, h2]
theorem fold_any (n : Int) (w : World) (h1 : -9223372036854775808 ≤ n) (h2 : n ≤ 9223372036854775807) :
    Calls Try.prog 66 #[.int .i64 n] w fun e w' => e = .returned (.int .u64 (foldI n : Int)) ∧ w = w' := by
  go_enter Try.func66, Try.ntmps66
  go_wp2
  go_ret
  exact ⟨ret_int (fold_raw n h1 h2), rfl⟩
theorem rfold_any (n : Int) (w : World) (h1 : -9223372036854775808 ≤ n) (h2 : n ≤ 9223372036854775807) :
    Calls Try.prog 87 #[.int .i64 n] w fun e w' => e = .returned (.int .u64 (foldI n : Int)) ∧ w = w' := by
  by_cases h0 : 0 ≤ n
  · go_enter Try.func87, Try.ntmps87
    go_wp2
    go_ret
    exact ⟨ret_int (by unfold foldI; rw [if_pos h0]; omega), rfl⟩
  · go_enter Try.func87, Try.ntmps87
    go_wp2
    go_ret
    exact ⟨ret_int (by unfold foldI; rw [if_neg (by omega)]; omega), rfl⟩
theorem unfold_any (v : Nat) (w : World) (hv : v < 18446744073709551616) :
    Calls Try.prog 73 #[.int .u64 v] w fun e w' => e = .returned (.int .i64 (unfoldN v)) ∧ w = w' := by
  go_enter Try.func73, Try.ntmps73
  go_wp2
  go_ret
  exact ⟨ret_int (unfold_raw v hv), rfl⟩
theorem runfold_any (v : Nat) (w : World) (hv : v < 18446744073709551616) :
    Calls Try.prog 79 #[.int .u64 v] w fun e w' => e = .returned (.int .i64 (unfoldN v)) ∧ w = w' := by
  by_cases h : v % 2 = 0
  · have hb : ((v : Int) % 2 == 0) = true := by simp; omega
    go_enter Try.func79, Try.ntmps79
    go_wp2
    go_ret
    exact ⟨ret_int (by unfold unfoldN; rw [if_pos h]; omega), rfl⟩
  · have hb : ((v : Int) % 2 == 0) = false := by simp; omega
    go_enter Try.func79, Try.ntmps79
    go_wp2
    go_ret
    exact ⟨ret_int (by unfold unfoldN; rw [if_neg h]; omega), rfl⟩
def narrowB (n : Int) : Bool := decide (0 ≤ n ∧ n ≤ 65535)
def narrowN (n : Int) : Int := if 0 ≤ n ∧ n ≤ 65535 then n else 0
theorem ret_ib {k : IntKind} {a b : Int} {c d : Bool} (h : a = b) (h2 : c = d) : Ending.returned (.tuple #[.int k a, .bool c]) = .returned (.tuple #[.int k b, .bool d]) := by rw [h, h2]
end Go.Proofs.Ytmfclekjojninaa.Shift
