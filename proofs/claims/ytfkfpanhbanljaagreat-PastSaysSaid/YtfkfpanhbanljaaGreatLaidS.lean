/- Contracts of slices.Sort, slices.Compact on texts off the kit's shelf, laid at this translation (written by the kit's lay-plain.mjs, turned into a template by tools/mklaid.py). -/
import Derived.Shelf.Sort.Plain
import Derived.Shelf.Slices.CompactS
import Derived.Shelf.Slices.In.SortNone
import Derived.Lib.OwnBridge
import Derived.Sort.OwnSorted
import Derived.Test.YtfkfpanhbanljaaGreatSetR
namespace Go.Proofs.YtfkfpanhbanljaaGreat.LaidS
open Go.Shelf Go.RowKit Go.Lib Go.Sort
def lays190_ren : Go.Shelf.Ren := ⟨fun | 190 => 94 | 125 => 54 | 258 => 109 | 128 => 69 | 129 => 70 | 302 => 114 | 303 => 115 | 304 => 116 | 305 => 117 | 306 => 118 | 307 => 119 | 308 => 120 | 309 => 121 | 310 => 122 | 333 => 124 | 329 => 81 | 330 => 82 | 334 => 125 | 335 => 126 | 336 => 127 | 344 => 128 | n => n, fun | 31 => 90 | 9 => 9 | 3 => 3 | 46 => 81 | 0 => 0 | 51 => 117 | 53 => 33 | 4 => 4 | 183 => 109 | 182 => 108 | 131 => 114 | 5 => 5 | 218 => 126 | 222 => 130 | 228 => 145 | 229 => 146 | n => n, fun | n => n⟩
theorem lays190 : Go.Proofs.Lays.n190 Tryz.prog lays190_ren := {
  mixed := by kernel_rfl
  f125 := Tryz.func54.trans (congrArg some (by kernel_rfl))
  f128 := Tryz.func69.trans (congrArg some (by kernel_rfl))
  f129 := Tryz.func70.trans (congrArg some (by kernel_rfl))
  f190 := Tryz.func94.trans (congrArg some (by kernel_rfl))
  f258 := Tryz.func109.trans (congrArg some (by kernel_rfl))
  f302 := Tryz.func114.trans (congrArg some (by kernel_rfl))
  f303 := Tryz.func115.trans (congrArg some (by kernel_rfl))
  f304 := Tryz.func116.trans (congrArg some (by kernel_rfl))
  f305 := Tryz.func117.trans (congrArg some (by kernel_rfl))
  f306 := Tryz.func118.trans (congrArg some (by kernel_rfl))
  f307 := Tryz.func119.trans (congrArg some (by kernel_rfl))
  f308 := Tryz.func120.trans (congrArg some (by kernel_rfl))
  f309 := Tryz.func121.trans (congrArg some (by kernel_rfl))
  f310 := Tryz.func122.trans (congrArg some (by kernel_rfl))
  f329 := Tryz.func81.trans (congrArg some (by kernel_rfl))
  f330 := Tryz.func82.trans (congrArg some (by kernel_rfl))
  f333 := Tryz.func124.trans (congrArg some (by kernel_rfl))
  f334 := Tryz.func125.trans (congrArg some (by kernel_rfl))
  f335 := Tryz.func126.trans (congrArg some (by kernel_rfl))
  f336 := Tryz.func127.trans (congrArg some (by kernel_rfl))
  f344 := Tryz.func128.trans (congrArg some (by kernel_rfl))
  t0 := Tryz.underlying0
  a0 := Tryz.isAgg0
  z0 := Tryz.sizeOf0
  v0 := Tryz.zeroValue0
  t3 := Tryz.underlying3
  a3 := Tryz.isAgg3
  z3 := Tryz.sizeOf3
  v3 := Tryz.zeroValue3
  t4 := Tryz.underlying4
  a4 := Tryz.isAgg4
  z4 := Tryz.sizeOf4
  v4 := Tryz.zeroValue4
  t5 := Tryz.underlying5
  a5 := Tryz.isAgg5
  z5 := Tryz.sizeOf5
  v5 := Tryz.zeroValue5
  t9 := Tryz.underlying9
  a9 := Tryz.isAgg9
  z9 := Tryz.sizeOf9
  v9 := Tryz.zeroValue9
  t31 := Tryz.underlying90
  a31 := Tryz.isAgg90
  z31 := Tryz.sizeOf90
  v31 := Tryz.zeroValue90
  t46 := Tryz.underlying81
  a46 := Tryz.isAgg81
  z46 := Tryz.sizeOf81
  v46 := Tryz.zeroValue81
  t51 := Tryz.underlying117
  a51 := Tryz.isAgg117
  z51 := Tryz.sizeOf117
  v51 := Tryz.zeroValue117
  t53 := Tryz.underlying33
  a53 := Tryz.isAgg33
  z53 := Tryz.sizeOf33
  v53 := Tryz.zeroValue33
  t131 := Tryz.underlying114
  a131 := Tryz.isAgg114
  z131 := Tryz.sizeOf114
  v131 := Tryz.zeroValue114
  t182 := Tryz.underlying108
  a182 := Tryz.isAgg108
  z182 := Tryz.sizeOf108
  v182 := Tryz.zeroValue108
  t183 := Tryz.underlying109
  a183 := Tryz.isAgg109
  z183 := Tryz.sizeOf109
  v183 := Tryz.zeroValue109
  t218 := Tryz.underlying126
  a218 := Tryz.isAgg126
  z218 := Tryz.sizeOf126
  v218 := Tryz.zeroValue126
  t222 := Tryz.underlying130
  a222 := Tryz.isAgg130
  z222 := Tryz.sizeOf130
  v222 := Tryz.zeroValue130
  t228 := Tryz.underlying145
  a228 := Tryz.isAgg145
  z228 := Tryz.sizeOf145
  v228 := Tryz.zeroValue145
  t229 := Tryz.underlying146
  a229 := Tryz.isAgg146
  z229 := Tryz.sizeOf146
  v229 := Tryz.zeroValue146 }
def lays194_ren : Go.Shelf.Ren := ⟨fun | 194 => 95 | n => n, fun | 31 => 90 | 9 => 9 | 3 => 3 | 4 => 4 | 0 => 0 | n => n, fun | n => n⟩
theorem lays194 : Go.Proofs.Lays.n194 Tryz.prog lays194_ren := {
  mixed := by kernel_rfl
  f194 := Tryz.func95.trans (congrArg some (by kernel_rfl))
  t0 := Tryz.underlying0
  a0 := Tryz.isAgg0
  z0 := Tryz.sizeOf0
  v0 := Tryz.zeroValue0
  t3 := Tryz.underlying3
  a3 := Tryz.isAgg3
  z3 := Tryz.sizeOf3
  v3 := Tryz.zeroValue3
  t4 := Tryz.underlying4
  a4 := Tryz.isAgg4
  z4 := Tryz.sizeOf4
  v4 := Tryz.zeroValue4
  t9 := Tryz.underlying9
  a9 := Tryz.isAgg9
  z9 := Tryz.sizeOf9
  v9 := Tryz.zeroValue9
  t31 := Tryz.underlying90
  a31 := Tryz.isAgg90
  z31 := Tryz.sizeOf90
  v31 := Tryz.zeroValue90 }
open Go.Proofs.YtfkfpanhbanljaaGreat.Mem Go.Proofs.YtfkfpanhbanljaaGreat.Card

/-- a text's bytes -/
def tb (s : ByteArray) : List UInt8 := s.data.toList
def ofb (l : List UInt8) : ByteArray := ⟨l.toArray⟩
theorem ofb_tb (s : ByteArray) : ofb (tb s) = s := by obtain ⟨⟨x⟩⟩ := s; rfl
theorem tb_ofb (l : List UInt8) : tb (ofb l) = l := by simp [tb, ofb]
theorem SB_enc (l : List ByteArray) : SB l = (l.map tb).map encStr := (map_encStr l).symm
theorem enc_SB (l : List (List UInt8)) : l.map encStr = SB (l.map ofb) := by
  unfold SB
  rw [List.map_map]
  rfl
/-- sorted, as the library does -/
def sortT (l : List ByteArray) : List ByteArray := ((l.map tb).mergeSort fun x y => decide (x ≤ y)).map ofb
def compT (l : List ByteArray) : List ByteArray := (Lib.compact (l.map tb)).map ofb
theorem sortT_length (l : List ByteArray) : (sortT l).length = l.length := by simp [sortT]
theorem compact_le {α : Type} [Inhabited α] [DecidableEq α] (l : List α) : (Lib.compact l).length ≤ l.length := by
  unfold Lib.compact compactUpTo
  rw [List.length_map]
  refine Nat.le_trans (List.length_filter_le _ _) ?_
  simp
/-- slices.Sort of a row of the call's own -/
theorem sort_own (base : Nat) (A : Option Addr) (c : Nat) (l : List ByteArray) (w : World) (h : Own w base 9 (.slice A l.length c) (SB l)) (hsz : l.length < 4611686018427387904) :
    Calls Tryz.prog 94 #[.slice A l.length c] w fun e w' => e = .returned (.tuple #[]) ∧ Own w' base 9 (.slice A l.length c) (SB (sortT l)) ∧ Below base w w' := by
  have hn : (SB l).length = l.length := SB_length l
  have hm : (l.map tb).length = l.length := List.length_map ..
  have h0 : w.ownsRow base 9 1 (.slice A l.length c) l.length ((l.map tb).map encStr) := by unfold Own at h; rw [hn, SB_enc] at h; exact h
  rcases h0.2 with ⟨h1, h2⟩ | ⟨g, cap, cur, h1, hbase, hb, hc1, hc2, hc3, hc4⟩
  · have hl : l = [] := List.eq_nil_of_length_eq_zero h2
    subst hl
    injection h1 with e1 _ e3
    subst e1
    refine (Any.slices_Sort_string_none lays190 none c w).mono ?_
    rintro e w' ⟨rfl, rfl⟩
    refine ⟨rfl, ?_, Below.refl _ _⟩
    have e : sortT [] = [] := by simp [sortT]
    rw [e]
    exact h
  · injection h1 with e1 _ e3
    subst e1 e3
    have hH : Holds encStr w g 0 (l.map tb).toArray := holds_of_block hb (by rw [hm]; simpa using hc4)
    have hC := Any.slices_Sort_string lays190 g 0 c (l.map tb) w hH (Array.getElem?_eq_some_iff.1 hb).1 (by rw [hm]; exact hsz)
    rw [hm] at hC
    refine hC.mono ?_
    rintro e w' ⟨rfl, n, os, rfl⟩
    have ho := ownsRow_sorted (os := os) (n := n) (ss := l.map tb) (ts := (l.map tb).mergeSort fun x y => decide (x ≤ y)) (by simp) hbase hb (by rw [hm]; exact hc1) hc2 hc3
    refine ⟨rfl, ?_, below_grown h (grownBy_sorted _) ?_⟩
    · unfold Own
      rw [SB_length, sortT_length]
      unfold sortT
      rw [← enc_SB]
      rw [hm] at ho
      exact ho
    · exact Nat.le_of_lt (Nat.lt_of_le_of_lt hbase (Array.getElem?_eq_some_iff.1 hb).1)
theorem compact_own (base : Nat) (A : Option Addr) (c : Nat) (l : List ByteArray) (w : World) (h : Own w base 9 (.slice A l.length c) (SB l)) (hsz : l.length < 4611686018427387904) :
    Calls Tryz.prog 95 #[.slice A l.length c] w fun e w' => e = .returned (.slice A (compT l).length c) ∧ Own w' base 9 (.slice A (compT l).length c) (SB (compT l)) ∧ Below base w w' := by
  have hn : (SB l).length = l.length := SB_length l
  have hm : (l.map tb).length = l.length := List.length_map ..
  have h0 : w.ownsRow base 9 1 (.slice A l.length c) l.length ((l.map tb).map encStr) := by unfold Own at h; rw [hn, SB_enc] at h; exact h
  rcases h0.2 with ⟨h1, h2⟩ | ⟨g, cap, cur, h1, hbase, hb, hc1, hc2, hc3, hc4⟩
  · have hl : l = [] := List.eq_nil_of_length_eq_zero h2
    subst hl
    injection h1 with e1 _ e3
    subst e1
    refine (Any.slices_Compact_string_empty lays194 none c w).mono ?_
    rintro e w' ⟨rfl, rfl⟩
    have e : compT [] = [] := by simp [compT, Lib.compact, compactUpTo]
    rw [e]
    exact ⟨rfl, h, Below.refl _ _⟩
  · injection h1 with e1 _ e3
    subst e1 e3
    have hH : Holds encStr w g 0 (l.map tb).toArray := holds_of_block hb (by rw [hm]; simpa using hc4)
    have hC := Any.slices_Compact_string lays194 g 0 c (l.map tb) w hH (by rw [hm]; omega) (by rw [hm]; exact hc1)
    rw [hm] at hC
    refine hC.mono ?_
    have hle : (Lib.compact (l.map tb)).length ≤ l.length := Nat.le_trans (compact_le (l.map tb)) (Nat.le_of_eq hm)
    have hk : (compT l).length = (Lib.compact (l.map tb)).length := List.length_map ..
    rintro e w' ⟨rfl, q, rfl⟩
    have ho := ownsRow_putRow (q := q) (k := (Lib.compact (l.map tb)).length) h0 (ys := Lib.compact (l.map tb) ++ List.replicate (l.length - (Lib.compact (l.map tb)).length) []) (by rw [List.length_append, List.length_replicate]; omega) hle
    refine ⟨by rw [hk], ?_, below_putRow (Below.refl _ _) hbase⟩
    unfold Own
    rw [SB_length, hk]
    unfold compT
    rw [← enc_SB]
    rw [List.take_left] at ho
    exact ho
end Go.Proofs.YtfkfpanhbanljaaGreat.LaidS
