/- Contracts of slices.Sort, slices.Compact on texts off the kit's shelf, laid at this translation (written by the kit's lay-plain.mjs, turned into a template by tools/mklaid.py). -/
import Derived.Shelf.Sort.Plain
import Derived.Shelf.Slices.CompactS
import Derived.Shelf.Slices.In.SortNone
import Derived.Lib.OwnBridge
import Derived.Sort.OwnSorted
import Derived.Test.YtnmcclkpgbdenaaCardMem
namespace Go.Proofs.Ytnmcclkpgbdenaa.LaidS
open Go.Shelf Go.RowKit Go.Lib Go.Sort
def lays190_ren : Go.Shelf.Ren := ⟨fun | 190 => 53 | 125 => 88 | 258 => 87 | 128 => 124 | 129 => 125 | 302 => 115 | 303 => 116 | 304 => 117 | 305 => 118 | 306 => 119 | 307 => 120 | 308 => 121 | 309 => 122 | 310 => 123 | 333 => 135 | 329 => 136 | 330 => 137 | 334 => 138 | 335 => 139 | 336 => 140 | 344 => 155 | n => n, fun | 31 => 39 | 9 => 9 | 3 => 3 | 46 => 131 | 0 => 0 | 51 => 160 | 53 => 35 | 4 => 4 | 183 => 153 | 182 => 152 | 131 => 123 | 5 => 5 | 218 => 171 | 222 => 175 | 228 => 185 | 229 => 186 | n => n, fun | n => n⟩
theorem lays190 : Go.Proofs.Lays.n190 Try.prog lays190_ren := {
  mixed := by kernel_rfl
  f125 := Try.func88.trans (congrArg some (by kernel_rfl))
  f128 := Try.func124.trans (congrArg some (by kernel_rfl))
  f129 := Try.func125.trans (congrArg some (by kernel_rfl))
  f190 := Try.func53.trans (congrArg some (by kernel_rfl))
  f258 := Try.func87.trans (congrArg some (by kernel_rfl))
  f302 := Try.func115.trans (congrArg some (by kernel_rfl))
  f303 := Try.func116.trans (congrArg some (by kernel_rfl))
  f304 := Try.func117.trans (congrArg some (by kernel_rfl))
  f305 := Try.func118.trans (congrArg some (by kernel_rfl))
  f306 := Try.func119.trans (congrArg some (by kernel_rfl))
  f307 := Try.func120.trans (congrArg some (by kernel_rfl))
  f308 := Try.func121.trans (congrArg some (by kernel_rfl))
  f309 := Try.func122.trans (congrArg some (by kernel_rfl))
  f310 := Try.func123.trans (congrArg some (by kernel_rfl))
  f329 := Try.func136.trans (congrArg some (by kernel_rfl))
  f330 := Try.func137.trans (congrArg some (by kernel_rfl))
  f333 := Try.func135.trans (congrArg some (by kernel_rfl))
  f334 := Try.func138.trans (congrArg some (by kernel_rfl))
  f335 := Try.func139.trans (congrArg some (by kernel_rfl))
  f336 := Try.func140.trans (congrArg some (by kernel_rfl))
  f344 := Try.func155.trans (congrArg some (by kernel_rfl))
  t0 := Try.underlying0
  a0 := Try.isAgg0
  z0 := Try.sizeOf0
  v0 := Try.zeroValue0
  t3 := Try.underlying3
  a3 := Try.isAgg3
  z3 := Try.sizeOf3
  v3 := Try.zeroValue3
  t4 := Try.underlying4
  a4 := Try.isAgg4
  z4 := Try.sizeOf4
  v4 := Try.zeroValue4
  t5 := Try.underlying5
  a5 := Try.isAgg5
  z5 := Try.sizeOf5
  v5 := Try.zeroValue5
  t9 := Try.underlying9
  a9 := Try.isAgg9
  z9 := Try.sizeOf9
  v9 := Try.zeroValue9
  t31 := Try.underlying39
  a31 := Try.isAgg39
  z31 := Try.sizeOf39
  v31 := Try.zeroValue39
  t46 := Try.underlying131
  a46 := Try.isAgg131
  z46 := Try.sizeOf131
  v46 := Try.zeroValue131
  t51 := Try.underlying160
  a51 := Try.isAgg160
  z51 := Try.sizeOf160
  v51 := Try.zeroValue160
  t53 := Try.underlying35
  a53 := Try.isAgg35
  z53 := Try.sizeOf35
  v53 := Try.zeroValue35
  t131 := Try.underlying123
  a131 := Try.isAgg123
  z131 := Try.sizeOf123
  v131 := Try.zeroValue123
  t182 := Try.underlying152
  a182 := Try.isAgg152
  z182 := Try.sizeOf152
  v182 := Try.zeroValue152
  t183 := Try.underlying153
  a183 := Try.isAgg153
  z183 := Try.sizeOf153
  v183 := Try.zeroValue153
  t218 := Try.underlying171
  a218 := Try.isAgg171
  z218 := Try.sizeOf171
  v218 := Try.zeroValue171
  t222 := Try.underlying175
  a222 := Try.isAgg175
  z222 := Try.sizeOf175
  v222 := Try.zeroValue175
  t228 := Try.underlying185
  a228 := Try.isAgg185
  z228 := Try.sizeOf185
  v228 := Try.zeroValue185
  t229 := Try.underlying186
  a229 := Try.isAgg186
  z229 := Try.sizeOf186
  v229 := Try.zeroValue186 }
def lays194_ren : Go.Shelf.Ren := ⟨fun | 194 => 54 | n => n, fun | 31 => 39 | 9 => 9 | 3 => 3 | 4 => 4 | 0 => 0 | n => n, fun | n => n⟩
theorem lays194 : Go.Proofs.Lays.n194 Try.prog lays194_ren := {
  mixed := by kernel_rfl
  f194 := Try.func54.trans (congrArg some (by kernel_rfl))
  t0 := Try.underlying0
  a0 := Try.isAgg0
  z0 := Try.sizeOf0
  v0 := Try.zeroValue0
  t3 := Try.underlying3
  a3 := Try.isAgg3
  z3 := Try.sizeOf3
  v3 := Try.zeroValue3
  t4 := Try.underlying4
  a4 := Try.isAgg4
  z4 := Try.sizeOf4
  v4 := Try.zeroValue4
  t9 := Try.underlying9
  a9 := Try.isAgg9
  z9 := Try.sizeOf9
  v9 := Try.zeroValue9
  t31 := Try.underlying39
  a31 := Try.isAgg39
  z31 := Try.sizeOf39
  v31 := Try.zeroValue39 }
open Go.Proofs.Ytnmcclkpgbdenaa.Mem Go.Proofs.Ytnmcclkpgbdenaa.Card

/-- a text's bytes -/
def tb (s : ByteArray) : List UInt8 := s.data.toList
def ofb (l : List UInt8) : ByteArray := ⟨l.toArray⟩
theorem ofb_tb (s : ByteArray) : ofb (tb s) = s := by obtain ⟨⟨x⟩⟩ := s; rfl
theorem tb_ofb (l : List UInt8) : tb (ofb l) = l := by simp [tb, ofb]
theorem SB_enc (l : List ByteArray) : SB l = (l.map tb).map encStr := (map_encStr l).symm
theorem enc_SB (l : List (List UInt8)) : l.map encStr = SB (l.map ofb) := by
  unfold SB
  rw [List.map_map]
  rfl
/-- sorted, as the library does -/
def sortT (l : List ByteArray) : List ByteArray := ((l.map tb).mergeSort fun x y => decide (x ≤ y)).map ofb
def compT (l : List ByteArray) : List ByteArray := (Lib.compact (l.map tb)).map ofb
theorem sortT_length (l : List ByteArray) : (sortT l).length = l.length := by simp [sortT]
theorem compact_le {α : Type} [Inhabited α] [DecidableEq α] (l : List α) : (Lib.compact l).length ≤ l.length := by
  unfold Lib.compact compactUpTo
  rw [List.length_map]
  refine Nat.le_trans (List.length_filter_le _ _) ?_
  simp
/-- slices.Sort of a row of the call's own -/
theorem sort_own (base : Nat) (A : Option Addr) (c : Nat) (l : List ByteArray) (w : World) (h : Own w base 9 (.slice A l.length c) (SB l)) (hsz : l.length < 4611686018427387904) :
    Calls Try.prog 53 #[.slice A l.length c] w fun e w' => e = .returned (.tuple #[]) ∧ Own w' base 9 (.slice A l.length c) (SB (sortT l)) ∧ Below base w w' := by
  have hn : (SB l).length = l.length := SB_length l
  have hm : (l.map tb).length = l.length := List.length_map ..
  have h0 : w.ownsRow base 9 1 (.slice A l.length c) l.length ((l.map tb).map encStr) := by unfold Own at h; rw [hn, SB_enc] at h; exact h
  rcases h0.2 with ⟨h1, h2⟩ | ⟨g, cap, cur, h1, hbase, hb, hc1, hc2, hc3, hc4⟩
  · have hl : l = [] := List.eq_nil_of_length_eq_zero h2
    subst hl
    injection h1 with e1 _ e3
    subst e1
    refine (Any.slices_Sort_string_none lays190 none c w).mono ?_
    rintro e w' ⟨rfl, rfl⟩
    refine ⟨rfl, ?_, Below.refl _ _⟩
    have e : sortT [] = [] := by simp [sortT]
    rw [e]
    exact h
  · injection h1 with e1 _ e3
    subst e1 e3
    have hH : Holds encStr w g 0 (l.map tb).toArray := holds_of_block hb (by rw [hm]; simpa using hc4)
    have hC := Any.slices_Sort_string lays190 g 0 c (l.map tb) w hH (Array.getElem?_eq_some_iff.1 hb).1 (by rw [hm]; exact hsz)
    rw [hm] at hC
    refine hC.mono ?_
    rintro e w' ⟨rfl, n, os, rfl⟩
    have ho := ownsRow_sorted (os := os) (n := n) (ss := l.map tb) (ts := (l.map tb).mergeSort fun x y => decide (x ≤ y)) (by simp) hbase hb (by rw [hm]; exact hc1) hc2 hc3
    refine ⟨rfl, ?_, below_grown h (grownBy_sorted _) ?_⟩
    · unfold Own
      rw [SB_length, sortT_length]
      unfold sortT
      rw [← enc_SB]
      rw [hm] at ho
      exact ho
    · exact Nat.le_of_lt (Nat.lt_of_le_of_lt hbase (Array.getElem?_eq_some_iff.1 hb).1)
theorem compact_own (base : Nat) (A : Option Addr) (c : Nat) (l : List ByteArray) (w : World) (h : Own w base 9 (.slice A l.length c) (SB l)) (hsz : l.length < 4611686018427387904) :
    Calls Try.prog 54 #[.slice A l.length c] w fun e w' => e = .returned (.slice A (compT l).length c) ∧ Own w' base 9 (.slice A (compT l).length c) (SB (compT l)) ∧ Below base w w' := by
  have hn : (SB l).length = l.length := SB_length l
  have hm : (l.map tb).length = l.length := List.length_map ..
  have h0 : w.ownsRow base 9 1 (.slice A l.length c) l.length ((l.map tb).map encStr) := by unfold Own at h; rw [hn, SB_enc] at h; exact h
  rcases h0.2 with ⟨h1, h2⟩ | ⟨g, cap, cur, h1, hbase, hb, hc1, hc2, hc3, hc4⟩
  · have hl : l = [] := List.eq_nil_of_length_eq_zero h2
    subst hl
    injection h1 with e1 _ e3
    subst e1
    refine (Any.slices_Compact_string_empty lays194 none c w).mono ?_
    rintro e w' ⟨rfl, rfl⟩
    have e : compT [] = [] := by simp [compT, Lib.compact, compactUpTo]
    rw [e]
    exact ⟨rfl, h, Below.refl _ _⟩
  · injection h1 with e1 _ e3
    subst e1 e3
    have hH : Holds encStr w g 0 (l.map tb).toArray := holds_of_block hb (by rw [hm]; simpa using hc4)
    have hC := Any.slices_Compact_string lays194 g 0 c (l.map tb) w hH (by rw [hm]; omega) (by rw [hm]; exact hc1)
    rw [hm] at hC
    refine hC.mono ?_
    have hle : (Lib.compact (l.map tb)).length ≤ l.length := Nat.le_trans (compact_le (l.map tb)) (Nat.le_of_eq hm)
    have hk : (compT l).length = (Lib.compact (l.map tb)).length := List.length_map ..
    rintro e w' ⟨rfl, q, rfl⟩
    have ho := ownsRow_putRow (q := q) (k := (Lib.compact (l.map tb)).length) h0 (ys := Lib.compact (l.map tb) ++ List.replicate (l.length - (Lib.compact (l.map tb)).length) []) (by rw [List.length_append, List.length_replicate]; omega) hle
    refine ⟨by rw [hk], ?_, below_putRow (Below.refl _ _) hbase⟩
    unfold Own
    rw [SB_length, hk]
    unfold compT
    rw [← enc_SB]
    rw [List.take_left] at ho
    exact ho
end Go.Proofs.Ytnmcclkpgbdenaa.LaidS
