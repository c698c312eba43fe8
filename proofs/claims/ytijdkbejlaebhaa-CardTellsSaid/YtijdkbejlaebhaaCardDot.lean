/- Dots of a card's number: shift.Split, dot.Good, dot.Unpack, and the document's. -/
import Derived.Test.YtijdkbejlaebhaaCardText
import Derived.Test.YtijdkbejlaebhaaShiftRaw
namespace Go.Proofs.Ytijdkbejlaebhaa.Card
open Go.RowKit Go.Proofs.Ytijdkbejlaebhaa.Mem Go.Proofs.Ytijdkbejlaebhaa.Shift

theorem ret2_ints {k l : IntKind} {a b c d : Int} (h : a = b) (h2 : c = d) : Ending.returned (.tuple #[.int k a, .int l c]) = .returned (.tuple #[.int k b, .int l d]) := by rw [h, h2]
theorem split_any (v : Nat) (w : World) (hv : v < 18446744073709551616) :
    Calls Try.prog 155 #[.int .u64 v] w fun e w' => e = .returned (.tuple #[.int .u16 (devN v : Int), .int .u64 (lowN v : Int)]) ∧ w = w' := by
  have hl := and_low48 v hv
  go_enter Try.func155, Try.ntmps155
  go_wp2
  go_ret2
  exact ⟨ret2_ints (by unfold devN; omega) (by unfold lowN; omega), rfl⟩
theorem rsplit_any (v : Nat) (w : World) (hv : v < 18446744073709551616) :
    Calls Try.prog 157 #[.int .u64 v] w fun e w' => e = .returned (.tuple #[.int .u16 (devN v : Int), .int .u64 (lowN v : Int)]) ∧ w = w' := by
  go_enter Try.func157, Try.ntmps157
  go_wp2
  go_ret2
  exact ⟨ret2_ints (by unfold devN; omega) (by unfold lowN; omega), rfl⟩
def dotOk (d n : Nat) : Bool := decide (1 ≤ d) && decide (1 ≤ n)
theorem dgood_any (d n : Nat) (w : World) (hn : n < 281474976710656) :
    Calls Try.prog 156 #[.agg #[.int .u16 (d : Int), .int .u64 (n : Int)]] w fun e w' => e = .returned (.bool (dotOk d n)) ∧ Below w.heap.size w w' := by
  have hb0 := (Below.refl w.heap.size w).alloc (Nat.le_refl _) (.cells #[.int .u16 (d : Int), .int .u64 (n : Int)] 154)
  have HB := kept hb0
  have e3 : ((n : Int) ≤ 281474976710655) := by omega
  by_cases h1 : 1 ≤ d
  · by_cases h2 : 1 ≤ n
    · have e1 : ((d : Int) > 0) := by omega
      have e2 : ((n : Int) > 0) := by omega
      have HD : Kept (dotOk d n = true) := ⟨by unfold dotOk; rw [decide_eq_true h1, decide_eq_true h2]; rfl⟩
      clear h1 h2 hb0
      go_enter Try.func156, Try.ntmps156
      go_wp2
      go_ret
      exact ⟨ret_bool HD.out.symm, HB.out⟩
    · have e1 : ((d : Int) > 0) := by omega
      have e2 : ¬ ((n : Int) > 0) := by omega
      have HD : Kept (dotOk d n = false) := ⟨by unfold dotOk; rw [decide_eq_false h2, Bool.and_false]⟩
      clear h1 h2 hb0
      go_enter Try.func156, Try.ntmps156
      go_wp2
      go_ret
      exact ⟨ret_bool HD.out.symm, HB.out⟩
  · have e1 : ¬ ((d : Int) > 0) := by omega
    have HD : Kept (dotOk d n = false) := ⟨by unfold dotOk; rw [decide_eq_false h1, Bool.false_and]⟩
    clear h1 hb0
    go_enter Try.func156, Try.ntmps156
    go_wp2
    go_ret
    exact ⟨ret_bool HD.out.symm, HB.out⟩
theorem rdgood_any (d n : Nat) (w : World) (hn : n < 281474976710656) :
    Calls Try.prog 158 #[.agg #[.int .u16 (d : Int), .int .u64 (n : Int)]] w fun e w' => e = .returned (.bool (dotOk d n)) ∧ Below w.heap.size w w' := by
  have hb0 := (Below.refl w.heap.size w).alloc (Nat.le_refl _) (.cells #[.int .u16 (d : Int), .int .u64 (n : Int)] 154)
  have HB := kept hb0
  have e3 : ((n : Int) < 281474976710656) := by omega
  by_cases h1 : 1 ≤ d
  · by_cases h2 : 1 ≤ n
    · have e1 : ((d : Int) ≥ 1) := by omega
      have e2 : ((n : Int) ≥ 1) := by omega
      have HD : Kept (dotOk d n = true) := ⟨by unfold dotOk; rw [decide_eq_true h1, decide_eq_true h2]; rfl⟩
      clear h1 h2 hb0
      go_enter Try.func158, Try.ntmps158
      go_wp2
      go_ret
      exact ⟨ret_bool HD.out.symm, HB.out⟩
    · have e1 : ((d : Int) ≥ 1) := by omega
      have e2 : ¬ ((n : Int) ≥ 1) := by omega
      have HD : Kept (dotOk d n = false) := ⟨by unfold dotOk; rw [decide_eq_false h2, Bool.and_false]⟩
      clear h1 h2 hb0
      go_enter Try.func158, Try.ntmps158
      go_wp2
      go_ret
      exact ⟨ret_bool HD.out.symm, HB.out⟩
  · have e1 : ¬ ((d : Int) ≥ 1) := by omega
    have HD : Kept (dotOk d n = false) := ⟨by unfold dotOk; rw [decide_eq_false h1, Bool.false_and]⟩
    clear h1 hb0
    go_enter Try.func158, Try.ntmps158
    go_wp2
    go_ret
    exact ⟨ret_bool HD.out.symm, HB.out⟩
end Go.Proofs.Ytijdkbejlaebhaa.Card
