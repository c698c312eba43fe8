/- Layer 22 (disk): what a crash leaves of a file that was synced in its middle. -/
import Derived.Test.YtdlghabpnpbebaaDoorDiskMath
namespace Go.Proofs.YtdlghabpnpbebaaDoor.Disk
open Go.Proofs.YtdlghabpnpbebaaDoor.Mem

theorem keepN_ab (a b : List Nat) (keep : Int) : keepN (a ++ b) a.length keep = keepN b 0 keep := by
  unfold keepN
  rw [List.length_append]
  omega
theorem keepN_min (b : List Nat) (keep : Int) : min (max keep 0) (b.length : Int) = (keepN b 0 keep : Int) := by unfold keepN; omega
theorem keepN_b (b : List Nat) (keep : Int) : keepN b 0 keep ≤ b.length := by unfold keepN; omega
theorem crash_ab (a b : List Nat) (keep : Int) (t : Bool) : crashB (a ++ b) a.length keep t = a ++ crashB b 0 keep t := by
  unfold crashB
  rw [keepN_ab, Nat.zero_add]
  have hk := keepN_b b keep
  generalize keepN b 0 keep = k at *
  have h1 : (a ++ b).take (a.length + k) = a ++ b.take k := by rw [List.take_length_add_append]
  rw [h1]
  unfold turnL
  by_cases h : (t && decide (0 < k)) = true
  · rw [if_pos h, if_pos h]
    have hpos : 0 < k := by simp only [Bool.and_eq_true, decide_eq_true_eq] at h; exact h.2
    have hl : (b.take k).length = k := by rw [List.length_take]; omega
    have e1 : (a ++ b.take k).length - 1 = a.length + (k - 1) := by rw [List.length_append, hl]; omega
    rw [e1, hl, List.set_append_right _ _ (by omega), Nat.add_sub_cancel_left]
    have e2 : (a ++ b.take k).getD (a.length + (k - 1)) 0 = (b.take k).getD (k - 1) 0 := by
      rw [List.getD_eq_getElem?_getD, List.getD_eq_getElem?_getD, List.getElem?_append_right (by omega), Nat.add_sub_cancel_left]
    rw [e2]
  · rw [if_neg h, if_neg h]
theorem crash_len (b : List Nat) (keep : Int) (t : Bool) : (crashB b 0 keep t).length = keepN b 0 keep := by
  rw [crashB_length b (Nat.zero_le _), Nat.zero_add]
theorem crash_get (b : List Nat) (keep : Int) (t : Bool) {i : Nat} (hi : i < keepN b 0 keep) : (crashB b 0 keep t).getD i 0 = if t = true ∧ i = keepN b 0 keep - 1 then b.getD i 0 ^^^ 1 else b.getD i 0 := by
  unfold crashB
  rw [Nat.zero_add]
  have hk := keepN_b b keep
  generalize keepN b 0 keep = k at *
  have hl : (b.take k).length = k := by rw [List.length_take]; omega
  have hg : ∀ j, j < k → (b.take k).getD j 0 = b.getD j 0 := fun j hj => by
    rw [List.getD_eq_getElem?_getD, List.getD_eq_getElem?_getD, List.getElem?_take_of_lt hj]
  unfold turnL
  cases t with
  | false => simp only [Bool.false_and, Bool.false_eq_true, if_false, false_and]; exact hg i hi
  | true =>
    rw [if_pos (by simp; omega), hl]
    by_cases h : i = k - 1
    · rw [if_pos ⟨rfl, h⟩, h, List.getD_eq_getElem?_getD, List.getElem?_set_self (by omega), Option.getD_some, hg _ (by omega)]
    · rw [if_neg (fun e => h e.2), List.getD_eq_getElem?_getD, List.getElem?_set_ne (fun e => h e.symm), ← List.getD_eq_getElem?_getD]; exact hg i hi
end Go.Proofs.YtdlghabpnpbebaaDoor.Disk
