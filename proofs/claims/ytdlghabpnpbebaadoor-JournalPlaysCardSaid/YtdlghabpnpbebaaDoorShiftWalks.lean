/- The walks of layer 1: what each function of package shift, and of its reference, computes. -/
import Derived.Test.YtdlghabpnpbebaaDoorProg
import Derived.WalkKit
import Derived.WalkLawsBesides
import Derived.WalkSpells
import Derived.Outline
import Derived.Lib.Hide
import Derived.Test.YtdlghabpnpbebaaDoorShiftRaw
namespace Go.Proofs.YtdlghabpnpbebaaDoor.Shift
open Go.RowKit

theorem ret_int {k : IntKind} {a b : Int} (h : a = b) : Ending.returned (.int k a) = .returned (.int k b) := by rw [h]
theorem val_int {k : IntKind} {a b : Int} (h : a = b) : Value.int k a = Value.int k b := by rw [h]
theorem ret2_int {k l : IntKind} {a b c d : Int} (h : a = b) (h2 : c = d) : Ending.returned (.tuple #[.int k a, .int l c]) = .returned (.tuple #[.int k b, .int l d]) := by rw [h, h2]
def narrowB (n : Int) : Bool := decide (0 ≤ n ∧ n ≤ 65535)
def narrowN (n : Int) : Int := if 0 ≤ n ∧ n ≤ 65535 then n else 0
theorem ret_ib {k : IntKind} {a b : Int} {c d : Bool} (h : a = b) (h2 : c = d) : Ending.returned (.tuple #[.int k a, .bool c]) = .returned (.tuple #[.int k b, .bool d]) := by rw [h, h2]
end Go.Proofs.YtdlghabpnpbebaaDoor.Shift
