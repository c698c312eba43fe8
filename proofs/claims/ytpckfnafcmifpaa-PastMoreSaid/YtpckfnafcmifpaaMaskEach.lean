/- The walks of layer 40, continued: what is done with all words of two masks. -/
import Derived.Test.YtpckfnafcmifpaaMaskEq
import Derived.Lib.MinMax
namespace Go.Proofs.Ytpckfnafcmifpaa.Mask
open Go.RowKit Go.Proofs.Ytpckfnafcmifpaa.Mem

/-- the beginning of a row of the call's own -/
theorem own_trim {w : World} {base : Nat} {A : Option Addr} {n c : Nat} {m : List Nat} (h : Own w base 32 (.slice A n c) (WB m)) : Own w base 32 (.slice A (trim m).length c) (WB (trim m)) := by
  obtain ⟨z, he, _⟩ := trim_spec m
  have hw : WB m = WB (trim m) ++ WB (List.replicate z 0) := by rw [← WB_append, ← he]
  have hl := trim_length m
  unfold Own at h ⊢
  rw [WB_length] at h ⊢
  refine ⟨by rw [WB_length]; omega, ?_⟩
  rcases h.2 with ⟨h1, h0⟩ | ⟨g, cap, cur, h1, hb, hg, hnc, hcm, hcs, htake⟩
  · injection h1 with e1 e2 e3
    have : m = [] := List.eq_nil_of_length_eq_zero h0
    subst this e1 e3
    exact .inl ⟨rfl, rfl⟩
  · injection h1 with e1 e2 e3
    subst e1 e3
    refine .inr ⟨g, c, cur, rfl, hb, hg, by omega, hcm, hcs, ?_⟩
    rw [Nat.mul_one] at htake ⊢
    have h2 := congrArg (List.take (trim m).length) htake
    rw [List.take_take, Nat.min_eq_left hl, hw] at h2
    rw [h2, ← WB_length (trim m), List.take_left]
theorem andNot_raw (x y : Nat) (hx : x < 18446744073709551616) (hy : y < 18446744073709551616) : bits .andNot .u64 (x : Int) (y : Int) = ((andNot x y : Nat) : Int) := by
  rw [u64_andNot_nat x y hx hy]
  congr 1
  apply Nat.eq_of_testBit_eq
  intro j
  rw [andNot_bit, Nat.testBit_and, show 18446744073709551615 - y = 2 ^ 64 - (y + 1) from by omega, Nat.testBit_two_pow_sub_succ hy]
  by_cases hj : j < 64
  · simp [hj]
  · rw [Nat.testBit_lt_two_pow (Nat.lt_of_lt_of_le (show x < 2 ^ 64 from hx) (Nat.pow_le_pow_right (by decide) (by omega)))]
    rfl
end Go.Proofs.Ytpckfnafcmifpaa.Mask
