/- The walks of layer 2: what each function of package crc, and of its reference, computes. -/
import Derived.Test.YtenkccfglmkdmaaBytes
import Derived.Test.YtenkccfglmkdmaaCrcMath
import Derived.Laws.BitsAllLaws
namespace Go.Proofs.Ytenkccfglmkdmaa.Crc
open Go.RowKit Go.Proofs.Ytenkccfglmkdmaa.Mem

theorem ret_int {k : IntKind} {a b : Int} (h : a = b) : Ending.returned (.int k a) = .returned (.int k b) := by rw [h]
theorem val_int {k : IntKind} {a b : Int} (h : a = b) : Value.int k a = Value.int k b := by rw [h]
theorem xor32 (a b : Nat) (ha : a < 4294967296) (hb : b < 4294967296) : bits .xor .u32 (a : Int) (b : Int) = ((a ^^^ b : Nat) : Int) := u32_xor_nat a b ha hb
theorem and15 (a : Nat) (ha : a < 4294967296) : bits .and .u32 (a : Int) 15 = ((a % 16 : Nat) : Int) := by
  have h := u32_and_nat a 15 ha (by decide)
  rw [nat_mask4] at h
  exact h
theorem not32 (a : Nat) (ha : a < 4294967296) : bits .xor .u32 IntKind.u32.max (a : Int) = ((a ^^^ full : Nat) : Int) := by
  have h := u32_xor_nat 4294967295 a (by decide) ha
  rw [Nat.xor_comm] at h
  exact h
theorem xorfull (a : Nat) (ha : a < 4294967296) : bits .xor .u32 (a : Int) 4294967295 = ((a ^^^ full : Nat) : Int) := u32_xor_nat a 4294967295 ha (by decide)
theorem take_snoc (m : List Nat) (j : Nat) (h : j < m.length) : m.take (j + 1) = m.take j ++ [m.getD j 0] := by
  rw [List.take_succ_eq_append_getElem h]; simp [List.getD, h]
theorem run_take (c : Nat) (m : List Nat) (j : Nat) (h : j < m.length) : run c (m.take (j + 1)) = stepB (run c (m.take j)) (m.getD j 0) := by
  rw [take_snoc m j h, run_append]; rfl
theorem get_byte {m : List Nat} (hm : AllB m) {j : Nat} (h : j < m.length) : m.getD j 0 < 256 := hm _ (by simp [List.getD, h])
theorem all_take {m : List Nat} (hm : AllB m) (j : Nat) : AllB (m.take j) := fun z hz => hm z (List.mem_of_mem_take hz)
end Go.Proofs.Ytenkccfglmkdmaa.Crc
