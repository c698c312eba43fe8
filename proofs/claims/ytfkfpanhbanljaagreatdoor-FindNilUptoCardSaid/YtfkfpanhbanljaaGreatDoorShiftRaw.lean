/- Raw terms of the walks of layer 1, as plain numbers: and, or, xor, shifts at 64 bits. No program in sight. -/
import Derived.WalkKit
import Derived.Laws.BitsAllLaws
import Derived.PlainAid
import Derived.Test.YtfkfpanhbanljaaGreatDoorSet10
namespace Go.Proofs.YtfkfpanhbanljaaGreatDoor.Shift

theorem and_low48 (n : Nat) (hn : n < 18446744073709551616) : bits .and .u64 (n : Int) 281474976710655 = ((n % 281474976710656 : Nat) : Int) := by
  have h := u64_and_nat n 281474976710655 hn (by decide)
  rw [Nat.and_two_pow_sub_one_eq_mod n 48] at h
  exact h
theorem nat_or_add (i a b : Nat) (h : b < 2 ^ i) : 2 ^ i * a ||| b = 2 ^ i * a + b := by
  rw [nat_join i _ _ (Nat.mul_mod_right _ _) h]
theorem pack_raw (d n : Nat) (hd : d < 65536) (hn : n < 18446744073709551616) :
    bits .or .u64 ((d : Int) * 281474976710656) (bits .and .u64 (n : Int) 281474976710655) = ((d * 281474976710656 + n % 281474976710656 : Nat) : Int) := by
  rw [and_low48 n hn, show ((d : Int) * 281474976710656) = ((d * 281474976710656 : Nat) : Int) from by omega, u64_or_nat _ _ (by omega) (by omega)]
  have := nat_or_add 48 d (n % 281474976710656) (Nat.mod_lt _ (by decide))
  rw [Nat.mul_comm] at this
  exact congrArg _ this
theorem and_63 (n : Int) : bits .and .u64 (IntKind.u64.wrap n) 63 = (((n % 64).toNat : Nat) : Int) := by
  rw [IntKind.wrap_u64]
  obtain ⟨m, hm⟩ : ∃ m : Nat, n % 18446744073709551616 = (m : Int) := ⟨(n % 18446744073709551616).toNat, by omega⟩
  rw [hm]
  have h := u64_and_nat m 63 (by omega) (by decide)
  rw [Nat.and_two_pow_sub_one_eq_mod m 6] at h
  refine h.trans ?_
  omega
theorem shl_raw (v k : Nat) : IntKind.u64.wrap ((v : Int) * 2 ^ k) = ((v * 2 ^ k % 18446744073709551616 : Nat) : Int) := by
  rw [IntKind.wrap_u64]
  have : (v : Int) * 2 ^ k = ((v * 2 ^ k : Nat) : Int) := by simp
  rw [this]; omega
theorem shr_raw (v k : Nat) : (v : Int) / 2 ^ k = ((v / 2 ^ k : Nat) : Int) := by simp
theorem or_rot (v k : Nat) (hv : v < 18446744073709551616) (hk : k < 64) : v * 2 ^ k % 18446744073709551616 ||| v / 2 ^ (64 - k) = rotl v k := by
  unfold rotl
  obtain ⟨j, hj⟩ : ∃ j, 64 = k + j := ⟨64 - k, by omega⟩
  have e1 : 64 - k = j := by omega
  rw [e1]
  have hp : 18446744073709551616 = 2 ^ j * 2 ^ k := by rw [← Nat.pow_add, Nat.add_comm, ← hj]
  rw [hp, Nat.mul_mod_mul_right, Nat.mul_comm (v % 2 ^ j)]
  apply nat_or_add
  rw [hp] at hv
  exact Nat.div_lt_of_lt_mul hv
theorem rotl_lt {v k : Nat} (hv : v < 18446744073709551616) (hk : k ≤ 64) : rotl v k < 18446744073709551616 := by rw [rotl_eq hv k hk]; exact rotN_lt k hv
theorem turn_raw (v k : Nat) (hv : v < 18446744073709551616) (hk : k < 64) :
    bits .or .u64 (IntKind.u64.wrap ((v : Int) * 2 ^ k)) ((v : Int) / 2 ^ (64 - k)) = (rotN k v : Int) := by
  have h1 : v / 2 ^ (64 - k) < 18446744073709551616 := Nat.lt_of_le_of_lt (Nat.div_le_self _ _) hv
  rw [shl_raw, shr_raw, u64_or_nat _ _ (Nat.mod_lt _ (by decide)) h1, or_rot v k hv hk, rotl_eq hv k (by omega)]
/-- two parts put together; the upper part, the lower part -/
def packN (d n : Nat) : Nat := d * 281474976710656 + n % 281474976710656
def devN (v : Nat) : Nat := v / 281474976710656
def lowN (v : Nat) : Nat := v % 281474976710656
theorem packN_lt {d n : Nat} (hd : d < 65536) : packN d n < 18446744073709551616 := by unfold packN; omega
theorem devN_lt {v : Nat} (hv : v < 18446744073709551616) : devN v < 65536 := by unfold devN; omega
theorem lowN_lt (v : Nat) : lowN v < 18446744073709551616 := by unfold lowN; omega
theorem devN_pack (d n : Nat) : devN (packN d n) = d := by unfold devN packN; omega
theorem lowN_pack (d n : Nat) : lowN (packN d n) = lowN n := by unfold lowN packN; omega
theorem packN_parts (v : Nat) : packN (devN v) (lowN v) = v := by unfold devN lowN packN; omega
/-- the mask of a byte -/
theorem mask_bit (k j : Nat) : (2 ^ k * 255).testBit j = (decide (k ≤ j) && decide (j < k + 8)) := by
  rw [Nat.testBit_two_pow_mul, show 255 = 2 ^ 8 - 1 from rfl, Nat.testBit_two_pow_sub_one]
  by_cases h : k ≤ j
  · have : (j - k < 8) = (j < k + 8) := by apply propext; omega
    simp [h, this]
  · simp [h]
theorem with_or (v k b : Nat) (hv : v < 18446744073709551616) (hk : k + 8 ≤ 64) (hb : b < 256) :
    (v &&& (18446744073709551615 - 2 ^ k * 255)) ||| 2 ^ k * b = v / 2 ^ (k + 8) * 2 ^ (k + 8) + b * 2 ^ k + v % 2 ^ k := by
  have hm : 2 ^ k * 255 < 2 ^ 64 := by
    obtain ⟨j, hj⟩ : ∃ j, 64 = k + 8 + j := ⟨56 - k, by omega⟩
    have e : (2 : Nat) ^ 64 = 2 ^ k * 256 * 2 ^ j := by
      have h256 : (256 : Nat) = 2 ^ 8 := rfl
      rw [h256, ← Nat.pow_add, ← Nat.pow_add, ← hj]
    have h1 : 0 < 2 ^ j := Nat.two_pow_pos j
    have h2 : 0 < 2 ^ k := Nat.two_pow_pos k
    have h3 : 2 ^ k * 256 * 1 ≤ 2 ^ k * 256 * 2 ^ j := Nat.mul_le_mul_left _ h1
    omega
  have e : v / 2 ^ (k + 8) * 2 ^ (k + 8) + b * 2 ^ k + v % 2 ^ k = 2 ^ k * (2 ^ 8 * (v / 2 ^ (k + 8)) + b) + v % 2 ^ k := by
    rw [Nat.mul_add, ← Nat.mul_assoc, ← Nat.pow_add, Nat.mul_comm (2 ^ (k + 8)), Nat.mul_comm (2 ^ k) b]
  rw [e]
  apply Nat.eq_of_testBit_eq
  intro j
  rw [Nat.testBit_two_pow_mul_add _ (Nat.mod_lt _ (Nat.two_pow_pos k)), Nat.testBit_two_pow_mul_add _ (show b < 2 ^ 8 from hb), Nat.testBit_or, Nat.testBit_and,
    show 18446744073709551615 - 2 ^ k * 255 = 2 ^ 64 - (2 ^ k * 255 + 1) from by omega, Nat.testBit_two_pow_sub_succ hm, mask_bit, Nat.testBit_two_pow_mul, Nat.testBit_mod_two_pow, Nat.testBit_div_two_pow]
  by_cases h1 : j < k
  · have h2 : ¬ k ≤ j := by omega
    have h3 : j < 64 := by omega
    simp [h1, h2, h3]
  · have h2 : k ≤ j := by omega
    rw [if_neg h1]
    by_cases h3 : j < k + 8
    · have h4 : j - k < 8 := by omega
      simp [h2, h3, h4]
    · have h4 : ¬ j - k < 8 := by omega
      have e2 : j - k - 8 + (k + 8) = j := by omega
      have hb0 : b.testBit (j - k) = false := Nat.testBit_lt_two_pow (Nat.lt_of_lt_of_le (show b < 2 ^ 8 from hb) (Nat.pow_le_pow_right (by decide) (by omega)))
      rw [if_neg h4, e2, hb0]
      by_cases h5 : j < 64
      · simp [h2, h3, h5]
      · have : v.testBit j = false := Nat.testBit_lt_two_pow (Nat.lt_of_lt_of_le (show v < 2 ^ 64 from hv) (Nat.pow_le_pow_right (by decide) (by omega)))
        simp [this]
theorem pow256 (i : Nat) : 256 ^ i = 2 ^ (8 * i) := by rw [Nat.pow_mul]
theorem withN_or (v i b : Nat) (hv : v < 18446744073709551616) (hi : i ≤ 7) (hb : b < 256) :
    (v &&& (18446744073709551615 - 2 ^ (8 * i) * 255)) ||| 2 ^ (8 * i) * b = withN v i b := by
  rw [with_or v (8 * i) b hv (by omega) hb]
  unfold withN
  rw [pow256, pow256, Nat.mul_add]
theorem bits_xor_ones_u64 (x : Nat) (hx : x < 18446744073709551616) : bits .xor .u64 (x : Int) 18446744073709551615 = ((18446744073709551615 - x : Nat) : Int) := by
  have h := u64_xor_nat x 18446744073709551615 hx (by decide)
  refine h.trans (congrArg _ ?_)
  have h1 := xor_not (v := x) hx
  have h2 : x ^^^ (x ^^^ (18446744073709551615 - x)) = x ^^^ 18446744073709551615 := by rw [h1]
  rw [← Nat.xor_assoc, Nat.xor_self, Nat.zero_xor] at h2
  exact h2.symm
theorem bits_xor_zero_u64 (x : Nat) (hx : x < 18446744073709551616) : bits .xor .u64 (x : Int) 0 = (x : Int) := by
  have h := u64_xor_nat x 0 hx (by decide)
  rw [Nat.xor_zero] at h
  exact h
theorem bits_xor_zero_i64 (x : Nat) (hx : x < 9223372036854775808) : bits .xor .i64 (x : Int) 0 = (x : Int) := by
  show IntKind.i64.wrap ((BitVec.ofInt 64 (x : Int) ^^^ BitVec.ofInt 64 0).toNat : Int) = _
  rw [BitVec.toNat_xor, ofInt_u64 x (by omega)]
  rw [show (BitVec.ofInt 64 0).toNat = 0 from rfl, Nat.xor_zero, IntKind.wrap_i64]
  omega
theorem bits_xor_ones_i64 (x : Nat) (hx : x < 9223372036854775808) : bits .xor .i64 (x : Int) (-1) = -(x : Int) - 1 := by
  show IntKind.i64.wrap ((BitVec.ofInt 64 (x : Int) ^^^ BitVec.ofInt 64 (-1)).toNat : Int) = _
  rw [BitVec.toNat_xor, ofInt_u64 x (by omega)]
  have h := u64_xor_nat x 18446744073709551615 (by omega) (by decide)
  have h2 := bits_xor_ones_u64 x (by omega)
  have h3 : (x ^^^ 18446744073709551615) = 18446744073709551615 - x := by
    have : ((x ^^^ 18446744073709551615 : Nat) : Int) = ((18446744073709551615 - x : Nat) : Int) := h.symm.trans h2
    omega
  rw [show (BitVec.ofInt 64 (-1)).toNat = 18446744073709551615 from rfl, h3, IntKind.wrap_i64]
  omega
/-- a number below 0 or not, as one that is not -/
def foldI (n : Int) : Nat := if 0 ≤ n then 2 * n.toNat else 2 * (-n - 1).toNat + 1
def unfoldN (v : Nat) : Int := if v % 2 = 0 then (v / 2 : Nat) else -((v / 2 : Nat) : Int) - 1
theorem foldI_lt {n : Int} (h1 : -9223372036854775808 ≤ n) (h2 : n ≤ 9223372036854775807) : foldI n < 18446744073709551616 := by unfold foldI; split <;> omega
theorem unfoldN_bd {v : Nat} (h : v < 18446744073709551616) : -9223372036854775808 ≤ unfoldN v ∧ unfoldN v ≤ 9223372036854775807 := by unfold unfoldN; split <;> omega
theorem unfold_fold (n : Int) : unfoldN (foldI n) = n := by
  unfold foldI
  split
  · unfold unfoldN; rw [if_pos (by omega)]; omega
  · unfold unfoldN; rw [if_neg (by omega)]; omega
theorem fold_unfold (v : Nat) : foldI (unfoldN v) = v := by
  unfold unfoldN
  split
  · unfold foldI; rw [if_pos (by omega)]; omega
  · unfold foldI; rw [if_neg (by omega)]; omega
theorem fold_raw (n : Int) (h1 : -9223372036854775808 ≤ n) (h2 : n ≤ 9223372036854775807) :
    bits .xor .u64 (IntKind.u64.wrap (IntKind.u64.wrap n * 2)) (IntKind.u64.wrap (n / 9223372036854775808)) = (foldI n : Int) := by
  unfold foldI
  by_cases h0 : 0 ≤ n
  · rw [if_pos h0, show n / 9223372036854775808 = 0 from by omega, IntKind.wrap_u64, IntKind.wrap_u64, show n % 18446744073709551616 * 2 % 18446744073709551616 = ((2 * n.toNat : Nat) : Int) from by omega]
    exact bits_xor_zero_u64 _ (by omega)
  · rw [if_neg h0, show n / 9223372036854775808 = -1 from by omega, IntKind.wrap_u64, IntKind.wrap_u64, show n % 18446744073709551616 * 2 % 18446744073709551616 = ((2 * n + 18446744073709551616).toNat : Int) from by omega,
      show IntKind.u64.wrap (-1) = 18446744073709551615 from rfl, bits_xor_ones_u64 _ (by omega)]
    omega
theorem unfold_raw (v : Nat) (hv : v < 18446744073709551616) :
    bits .xor .i64 ((v : Int) / 2) (RowKit.wrap64 (-RowKit.wrap64 (bits .and .u64 (v : Int) 1))) = unfoldN v := by
  have hb := u64_and_nat v 1 hv (by decide)
  rw [nat_mask1] at hb
  have e : bits .and .u64 (v : Int) 1 = ((v % 2 : Nat) : Int) := hb
  rw [e]
  unfold unfoldN
  by_cases h : v % 2 = 0
  · rw [if_pos h, h, show RowKit.wrap64 (-RowKit.wrap64 ((0 : Nat) : Int)) = 0 from by unfold RowKit.wrap64; decide, show (v : Int) / 2 = ((v / 2 : Nat) : Int) from by omega]
    exact bits_xor_zero_i64 (v / 2) (by omega)
  · rw [if_neg h, show v % 2 = 1 from by omega, show RowKit.wrap64 (-RowKit.wrap64 ((1 : Nat) : Int)) = -1 from by unfold RowKit.wrap64; decide, show (v : Int) / 2 = ((v / 2 : Nat) : Int) from by omega]
    exact bits_xor_ones_i64 (v / 2) (by omega)
theorem byte_raw (v k : Nat) : (v : Int) / 2 ^ (8 * k) % 256 = (byteN v k : Int) := by
  unfold byteN
  rw [pow256]
  simp
theorem with_raw (v k b : Nat) (hv : v < 18446744073709551616) (hk : k ≤ 7) (hb : b < 256) :
    bits .or .u64 (bits .andNot .u64 (v : Int) (IntKind.u64.wrap (255 * 2 ^ (8 * k)))) (IntKind.u64.wrap ((b : Int) * 2 ^ (8 * k))) = (withN v k b : Int) := by
  have hp : 2 ^ (8 * k) ≤ 2 ^ 56 := Nat.pow_le_pow_right (by decide) (by omega)
  have hp' : 2 ^ (8 * k) ≤ 72057594037927936 := hp
  have h1 : IntKind.u64.wrap (255 * 2 ^ (8 * k)) = ((2 ^ (8 * k) * 255 : Nat) : Int) := by
    have e : (255 : Int) * 2 ^ (8 * k) = ((2 ^ (8 * k) * 255 : Nat) : Int) := by rw [Int.natCast_mul, Int.mul_comm]; simp
    rw [e, IntKind.wrap_u64]; omega
  have hbm : 2 ^ (8 * k) * b < 18446744073709551616 := by
    have : 2 ^ (8 * k) * b ≤ 72057594037927936 * 255 := Nat.mul_le_mul hp' (by omega)
    omega
  have h2 : IntKind.u64.wrap ((b : Int) * 2 ^ (8 * k)) = ((2 ^ (8 * k) * b : Nat) : Int) := by
    have e : (b : Int) * 2 ^ (8 * k) = ((2 ^ (8 * k) * b : Nat) : Int) := by rw [Int.natCast_mul, Int.mul_comm]; simp
    rw [e, IntKind.wrap_u64]; omega
  rw [h1, h2, u64_andNot_nat _ _ hv (by omega), u64_or_nat _ _ (Nat.lt_of_le_of_lt Nat.and_le_left hv) hbm, withN_or v k b hv hk hb]
end Go.Proofs.YtfkfpanhbanljaaGreatDoor.Shift
