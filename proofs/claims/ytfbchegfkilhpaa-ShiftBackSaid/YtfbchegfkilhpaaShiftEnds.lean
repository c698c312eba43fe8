/- The laws of layer 1 in the form that the frames ask: integers that fit their kinds. -/
import Derived.Test.YtfbchegfkilhpaaShiftLaws
import Derived.OpenShut
namespace Go.Proofs.Ytfbchegfkilhpaa.Shift
open Go.RowKit
theorem wf_u64 {a : Int} (h : (Lit.int .u64 a).wf = true) : ∃ v : Nat, a = (v : Int) ∧ v < 18446744073709551616 := by
  have := bounds_u64 h
  exact ⟨a.toNat, by omega, by omega⟩
theorem wf_u16 {a : Int} (h : (Lit.int .u16 a).wf = true) : ∃ v : Nat, a = (v : Int) ∧ v < 65536 := by
  have := bounds_u16 h
  exact ⟨a.toNat, by omega, by omega⟩
theorem wf_i64 {a : Int} (h : (Lit.int .i64 a).wf = true) : -9223372036854775808 ≤ a ∧ a ≤ 9223372036854775807 := by
  have := bounds_i64 h
  omega
theorem round_end (a0 a1 a2 : Int) (w0 : (Lit.int .u64 a0).wf = true) (w : World) :
    Calls Try.prog 3 #[.int .u64 a0, .int .i64 a1, .int .i64 a2] w fun e w' => e = .returned (.bool true) ∧ Grown w w' := by
  obtain ⟨v, rfl, hv⟩ := wf_u64 w0
  exact (round_law v a1 a2 w hv).mono fun e w' ⟨he, hw⟩ => ⟨he, by rw [← hw]; exact Grown.refl _⟩
theorem turns_end (a0 a1 a2 : Int) (w0 : (Lit.int .u64 a0).wf = true) (w1 : (Lit.int .i64 a1).wf = true) (w2 : (Lit.int .i64 a2).wf = true) (w : World) :
    Calls Try.prog 4 #[.int .u64 a0, .int .i64 a1, .int .i64 a2] w fun e w' => e = .returned (.bool true) ∧ Grown w w' := by
  obtain ⟨v, rfl, hv⟩ := wf_u64 w0
  obtain ⟨h1, h2⟩ := wf_i64 w1
  obtain ⟨h3, h4⟩ := wf_i64 w2
  exact (turns_law v a1 a2 w hv h1 h2 h3 h4).mono fun e w' ⟨he, hw⟩ => ⟨he, by rw [← hw]; exact Grown.refl _⟩
theorem parts_end (a0 a1 a2 : Int) (w0 : (Lit.int .u16 a0).wf = true) (w1 : (Lit.int .u64 a1).wf = true) (w2 : (Lit.int .i64 a2).wf = true) (w : World) :
    Calls Try.prog 8 #[.int .u16 a0, .int .u64 a1, .int .i64 a2] w fun e w' => e = .returned (.bool true) ∧ Grown w w' := by
  obtain ⟨d, rfl, hd⟩ := wf_u16 w0
  obtain ⟨v, rfl, hv⟩ := wf_u64 w1
  obtain ⟨h1, h2⟩ := wf_i64 w2
  exact (parts_law d v a2 w hd hv h1 h2).mono fun e w' ⟨he, hw⟩ => ⟨he, by rw [← hw]; exact Grown.refl _⟩
theorem back_end (a0 a1 a2 : Int) (w0 : (Lit.int .u16 a0).wf = true) (w1 : (Lit.int .u64 a1).wf = true) (w2 : (Lit.int .i64 a2).wf = true) (w : World) :
    Calls Try.prog 5 #[.int .u16 a0, .int .u64 a1, .int .i64 a2] w fun e w' => e = .returned (.bool true) ∧ Grown w w' := by
  obtain ⟨d, rfl, hd⟩ := wf_u16 w0
  obtain ⟨v, rfl, hv⟩ := wf_u64 w1
  obtain ⟨h1, h2⟩ := wf_i64 w2
  exact (back_law d v a2 w hd hv h1 h2).mono fun e w' ⟨he, hw⟩ => ⟨he, by rw [← hw]; exact Grown.refl _⟩
end Go.Proofs.Ytfbchegfkilhpaa.Shift
