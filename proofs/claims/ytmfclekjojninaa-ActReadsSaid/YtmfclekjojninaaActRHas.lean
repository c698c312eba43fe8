/- Layer 37 (act): the walk of the document's Has. -/
import Derived.Test.YtmfclekjojninaaActHas
namespace Go.Proofs.Ytmfclekjojninaa.Act
open Go.RowKit Go.Proofs.Ytmfclekjojninaa.Mem

theorem hasN_1 (k : Nat) : hasN k 1 = decide ((1 ≤ k ∧ k ≤ 8) ∨ (15 ≤ k ∧ k ≤ 19)) := by
  by_cases h : k < 20
  · have : ∀ k : Nat, k < 20 → hasN k 1 = decide ((1 ≤ k ∧ k ≤ 8) ∨ (15 ≤ k ∧ k ≤ 19)) := by decide
    exact this k h
  · unfold hasN hasL
    rw [named_big (by omega), decide_eq_false (by omega)]; rfl
theorem hasN_2 (k : Nat) : hasN k 2 = decide (k = 2 ∨ k = 3) := by
  by_cases h : k < 20
  · have : ∀ k : Nat, k < 20 → hasN k 2 = decide (k = 2 ∨ k = 3) := by decide
    exact this k h
  · unfold hasN hasL
    rw [named_big (by omega), decide_eq_false (by omega)]; rfl
theorem hasN_3 (k : Nat) : hasN k 3 = decide (k = 2) := by
  by_cases h : k < 20
  · have : ∀ k : Nat, k < 20 → hasN k 3 = decide (k = 2) := by decide
    exact this k h
  · unfold hasN hasL
    rw [named_big (by omega), decide_eq_false (by omega)]; rfl
theorem hasN_4 (k : Nat) : hasN k 4 = decide (k = 1 ∨ k = 2) := by
  by_cases h : k < 20
  · have : ∀ k : Nat, k < 20 → hasN k 4 = decide (k = 1 ∨ k = 2) := by decide
    exact this k h
  · unfold hasN hasL
    rw [named_big (by omega), decide_eq_false (by omega)]; rfl
theorem hasN_5 (k : Nat) : hasN k 5 = decide (k = 6 ∨ (9 ≤ k ∧ k ≤ 14) ∨ k = 16 ∨ k = 17 ∨ k = 19) := by
  by_cases h : k < 20
  · have : ∀ k : Nat, k < 20 → hasN k 5 = decide (k = 6 ∨ (9 ≤ k ∧ k ≤ 14) ∨ k = 16 ∨ k = 17 ∨ k = 19) := by decide
    exact this k h
  · unfold hasN hasL
    rw [named_big (by omega), decide_eq_false (by omega)]; rfl
theorem hasN_6 (k : Nat) : hasN k 6 = decide (k = 12) := by
  by_cases h : k < 20
  · have : ∀ k : Nat, k < 20 → hasN k 6 = decide (k = 12) := by decide
    exact this k h
  · unfold hasN hasL
    rw [named_big (by omega), decide_eq_false (by omega)]; rfl
theorem hasN_7 (k : Nat) : hasN k 7 = decide (k = 12 ∨ k = 17) := by
  by_cases h : k < 20
  · have : ∀ k : Nat, k < 20 → hasN k 7 = decide (k = 12 ∨ k = 17) := by decide
    exact this k h
  · unfold hasN hasL
    rw [named_big (by omega), decide_eq_false (by omega)]; rfl
theorem rhas_1 (k : Nat) (w : World) (hk : k < 256) :
    Calls Try.prog 45 #[.int .u8 (k : Int), .int .i64 1] w fun e w' => e = .returned (.bool (hasN k 1)) ∧ w = w' := by
  rw [hasN_1]
  by_cases c0 : k = 0
  · subst c0
    rw [decide_eq_false (by omega)]
    go_enter Try.func45, Try.ntmps45
    go_wp2
    go_ret
    exact ⟨ret_bool (by first | rfl | (simp; done) | (simp; omega)), rfl⟩
  by_cases c1 : 1 ≤ k ∧ k ≤ 8
  · have cc := c1
    rw [decide_eq_true (by omega)]
    have hk0 : (0 : Int) ≤ (k : Int) := by omega
    obtain ⟨q0, q1⟩ := cc
    go_enter Try.func45, Try.ntmps45
    go_wp2
    go_ret
    exact ⟨ret_bool (by first | rfl | (simp; done) | (simp; omega)), rfl⟩
  by_cases c2 : 9 ≤ k ∧ k ≤ 14
  · have cc := c2
    rw [decide_eq_false (by omega)]
    have hk0 : (0 : Int) ≤ (k : Int) := by omega
    obtain ⟨q0, q1⟩ := cc
    go_enter Try.func45, Try.ntmps45
    go_wp2
    go_ret
    exact ⟨ret_bool (by first | rfl | (simp; done) | (simp; omega)), rfl⟩
  by_cases c3 : 15 ≤ k ∧ k ≤ 19
  · have cc := c3
    rw [decide_eq_true (by omega)]
    have hk0 : (0 : Int) ≤ (k : Int) := by omega
    obtain ⟨q0, q1⟩ := cc
    go_enter Try.func45, Try.ntmps45
    go_wp2
    go_ret
    exact ⟨ret_bool (by first | rfl | (simp; done) | (simp; omega)), rfl⟩
  have cc : 20 ≤ k := by omega
  rw [decide_eq_false (by omega)]
  have hk0 : (0 : Int) ≤ (k : Int) := by omega
  go_enter Try.func45, Try.ntmps45
  go_wp2
  go_ret
  exact ⟨ret_bool (by first | rfl | (simp; done) | (simp; omega)), rfl⟩
theorem rhas_2 (k : Nat) (w : World) (hk : k < 256) :
    Calls Try.prog 45 #[.int .u8 (k : Int), .int .i64 2] w fun e w' => e = .returned (.bool (hasN k 2)) ∧ w = w' := by
  rw [hasN_2]
  by_cases c0 : k = 2
  · subst c0
    rw [decide_eq_true (by omega)]
    go_enter Try.func45, Try.ntmps45
    go_wp2
    go_ret
    exact ⟨ret_bool (by first | rfl | (simp; done) | (simp; omega)), rfl⟩
  by_cases c1 : k = 3
  · subst c1
    rw [decide_eq_true (by omega)]
    go_enter Try.func45, Try.ntmps45
    go_wp2
    go_ret
    exact ⟨ret_bool (by first | rfl | (simp; done) | (simp; omega)), rfl⟩
  have cc : k ≠ 2 ∧ k ≠ 3 := by omega
  rw [decide_eq_false (by omega)]
  have b2 : ((k : Int) == 2) = false := by rw [beq_eq_false_iff_ne]; omega
  have b3 : ((k : Int) == 3) = false := by rw [beq_eq_false_iff_ne]; omega
  have hk0 : (0 : Int) ≤ (k : Int) := by omega
  obtain ⟨q0, q1⟩ := cc
  clear q0
  clear q1
  go_enter Try.func45, Try.ntmps45
  go_wp2
  go_ret
  exact ⟨ret_bool (by first | rfl | (simp; done) | (simp; omega)), rfl⟩
theorem rhas_3 (k : Nat) (w : World) (hk : k < 256) :
    Calls Try.prog 45 #[.int .u8 (k : Int), .int .i64 3] w fun e w' => e = .returned (.bool (hasN k 3)) ∧ w = w' := by
  rw [hasN_3]
  by_cases c0 : k = 2
  · subst c0
    rw [decide_eq_true (by omega)]
    go_enter Try.func45, Try.ntmps45
    go_wp2
    go_ret
    exact ⟨ret_bool (by first | rfl | (simp; done) | (simp; omega)), rfl⟩
  have cc : k ≠ 2 := by omega
  rw [decide_eq_false (by omega)]
  have b2 : ((k : Int) == 2) = false := by rw [beq_eq_false_iff_ne]; omega
  have hk0 : (0 : Int) ≤ (k : Int) := by omega
  clear cc
  go_enter Try.func45, Try.ntmps45
  go_wp2
  go_ret
  exact ⟨ret_bool (by first | rfl | (simp; done) | (simp; omega)), rfl⟩
theorem rhas_4 (k : Nat) (w : World) (hk : k < 256) :
    Calls Try.prog 45 #[.int .u8 (k : Int), .int .i64 4] w fun e w' => e = .returned (.bool (hasN k 4)) ∧ w = w' := by
  rw [hasN_4]
  by_cases c0 : k = 1
  · subst c0
    rw [decide_eq_true (by omega)]
    go_enter Try.func45, Try.ntmps45
    go_wp2
    go_ret
    exact ⟨ret_bool (by first | rfl | (simp; done) | (simp; omega)), rfl⟩
  by_cases c1 : k = 2
  · subst c1
    rw [decide_eq_true (by omega)]
    go_enter Try.func45, Try.ntmps45
    go_wp2
    go_ret
    exact ⟨ret_bool (by first | rfl | (simp; done) | (simp; omega)), rfl⟩
  have cc : k ≠ 1 ∧ k ≠ 2 := by omega
  rw [decide_eq_false (by omega)]
  have b1 : ((k : Int) == 1) = false := by rw [beq_eq_false_iff_ne]; omega
  have b2 : ((k : Int) == 2) = false := by rw [beq_eq_false_iff_ne]; omega
  have hk0 : (0 : Int) ≤ (k : Int) := by omega
  obtain ⟨q0, q1⟩ := cc
  clear q0
  clear q1
  go_enter Try.func45, Try.ntmps45
  go_wp2
  go_ret
  exact ⟨ret_bool (by first | rfl | (simp; done) | (simp; omega)), rfl⟩
theorem rhas_5 (k : Nat) (w : World) (hk : k < 256) :
    Calls Try.prog 45 #[.int .u8 (k : Int), .int .i64 5] w fun e w' => e = .returned (.bool (hasN k 5)) ∧ w = w' := by
  rw [hasN_5]
  by_cases c0 : k = 6
  · subst c0
    rw [decide_eq_true (by omega)]
    go_enter Try.func45, Try.ntmps45
    go_wp2
    go_ret
    exact ⟨ret_bool (by first | rfl | (simp; done) | (simp; omega)), rfl⟩
  by_cases c1 : 9 ≤ k ∧ k ≤ 14
  · have cc := c1
    rw [decide_eq_true (by omega)]
    have b6 : ((k : Int) == 6) = false := by rw [beq_eq_false_iff_ne]; omega
    have b16 : ((k : Int) == 16) = false := by rw [beq_eq_false_iff_ne]; omega
    have b17 : ((k : Int) == 17) = false := by rw [beq_eq_false_iff_ne]; omega
    have b19 : ((k : Int) == 19) = false := by rw [beq_eq_false_iff_ne]; omega
    have hk0 : (0 : Int) ≤ (k : Int) := by omega
    obtain ⟨q0, q1⟩ := cc
    go_enter Try.func45, Try.ntmps45
    go_wp2
    go_ret
    exact ⟨ret_bool (by first | rfl | (simp; done) | (simp; omega)), rfl⟩
  by_cases c2 : k = 16
  · subst c2
    rw [decide_eq_true (by omega)]
    go_enter Try.func45, Try.ntmps45
    go_wp2
    go_ret
    exact ⟨ret_bool (by first | rfl | (simp; done) | (simp; omega)), rfl⟩
  by_cases c3 : k = 17
  · subst c3
    rw [decide_eq_true (by omega)]
    go_enter Try.func45, Try.ntmps45
    go_wp2
    go_ret
    exact ⟨ret_bool (by first | rfl | (simp; done) | (simp; omega)), rfl⟩
  by_cases c4 : k = 19
  · subst c4
    rw [decide_eq_true (by omega)]
    go_enter Try.func45, Try.ntmps45
    go_wp2
    go_ret
    exact ⟨ret_bool (by first | rfl | (simp; done) | (simp; omega)), rfl⟩
  by_cases c5 : k < 9 ∧ k ≠ 6
  · have cc := c5
    rw [decide_eq_false (by omega)]
    have b6 : ((k : Int) == 6) = false := by rw [beq_eq_false_iff_ne]; omega
    have b16 : ((k : Int) == 16) = false := by rw [beq_eq_false_iff_ne]; omega
    have b17 : ((k : Int) == 17) = false := by rw [beq_eq_false_iff_ne]; omega
    have b19 : ((k : Int) == 19) = false := by rw [beq_eq_false_iff_ne]; omega
    have hk0 : (0 : Int) ≤ (k : Int) := by omega
    obtain ⟨q0, q1⟩ := cc
    clear q1
    go_enter Try.func45, Try.ntmps45
    go_wp2
    go_ret
    exact ⟨ret_bool (by first | rfl | (simp; done) | (simp; omega)), rfl⟩
  have cc : 14 < k ∧ k ≠ 16 ∧ k ≠ 17 ∧ k ≠ 19 := by omega
  rw [decide_eq_false (by omega)]
  have b6 : ((k : Int) == 6) = false := by rw [beq_eq_false_iff_ne]; omega
  have b16 : ((k : Int) == 16) = false := by rw [beq_eq_false_iff_ne]; omega
  have b17 : ((k : Int) == 17) = false := by rw [beq_eq_false_iff_ne]; omega
  have b19 : ((k : Int) == 19) = false := by rw [beq_eq_false_iff_ne]; omega
  have hk0 : (0 : Int) ≤ (k : Int) := by omega
  obtain ⟨q0, q1, q2, q3⟩ := cc
  clear q1
  clear q2
  clear q3
  go_enter Try.func45, Try.ntmps45
  go_wp2
  go_ret
  exact ⟨ret_bool (by first | rfl | (simp; done) | (simp; omega)), rfl⟩
theorem rhas_6 (k : Nat) (w : World) (hk : k < 256) :
    Calls Try.prog 45 #[.int .u8 (k : Int), .int .i64 6] w fun e w' => e = .returned (.bool (hasN k 6)) ∧ w = w' := by
  rw [hasN_6]
  by_cases c0 : k = 12
  · subst c0
    rw [decide_eq_true (by omega)]
    go_enter Try.func45, Try.ntmps45
    go_wp2
    go_ret
    exact ⟨ret_bool (by first | rfl | (simp; done) | (simp; omega)), rfl⟩
  have cc : k ≠ 12 := by omega
  rw [decide_eq_false (by omega)]
  have b12 : ((k : Int) == 12) = false := by rw [beq_eq_false_iff_ne]; omega
  have hk0 : (0 : Int) ≤ (k : Int) := by omega
  clear cc
  go_enter Try.func45, Try.ntmps45
  go_wp2
  go_ret
  exact ⟨ret_bool (by first | rfl | (simp; done) | (simp; omega)), rfl⟩
theorem rhas_7 (k : Nat) (w : World) (hk : k < 256) :
    Calls Try.prog 45 #[.int .u8 (k : Int), .int .i64 7] w fun e w' => e = .returned (.bool (hasN k 7)) ∧ w = w' := by
  rw [hasN_7]
  by_cases c0 : k = 12
  · subst c0
    rw [decide_eq_true (by omega)]
    go_enter Try.func45, Try.ntmps45
    go_wp2
    go_ret
    exact ⟨ret_bool (by first | rfl | (simp; done) | (simp; omega)), rfl⟩
  by_cases c1 : k = 17
  · subst c1
    rw [decide_eq_true (by omega)]
    go_enter Try.func45, Try.ntmps45
    go_wp2
    go_ret
    exact ⟨ret_bool (by first | rfl | (simp; done) | (simp; omega)), rfl⟩
  have cc : k ≠ 12 ∧ k ≠ 17 := by omega
  rw [decide_eq_false (by omega)]
  have b12 : ((k : Int) == 12) = false := by rw [beq_eq_false_iff_ne]; omega
  have b17 : ((k : Int) == 17) = false := by rw [beq_eq_false_iff_ne]; omega
  have hk0 : (0 : Int) ≤ (k : Int) := by omega
  obtain ⟨q0, q1⟩ := cc
  clear q0
  clear q1
  go_enter Try.func45, Try.ntmps45
  go_wp2
  go_ret
  exact ⟨ret_bool (by first | rfl | (simp; done) | (simp; omega)), rfl⟩
end Go.Proofs.Ytmfclekjojninaa.Act
