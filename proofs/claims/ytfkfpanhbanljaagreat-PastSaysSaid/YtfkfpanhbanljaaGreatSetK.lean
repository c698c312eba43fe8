import Derived.Test.YtfkfpanhbanljaaGreatSetJ
import Derived.Test.YtfkfpanhbanljaaGreatSetG
import Derived.Test.YtfkfpanhbanljaaGreatSetA
import Derived.Test.YtfkfpanhbanljaaGreatSetL
import Derived.BigQuiet
import Derived.BigRegion
import Derived.Deep.DeepCutAuto
/- Sorting bytes: bits.Len of at most 25; xorshift's Next; nextPowerOfTwo. (printed by tools/genpdl.py) -/
namespace Go.Proofs.YtfkfpanhbanljaaGreat.SortY
open Go.RowKit Go.Proofs.YtfkfpanhbanljaaGreat.Mem Go.Proofs.YtfkfpanhbanljaaGreat.SortW Go.Proofs.YtfkfpanhbanljaaGreat.Shift

set_option maxRecDepth 100000 in
theorem len64_13s (w : World) : Calls Tryz.prog 70 #[.int .u64 13] w fun e w' => e = .returned (.int .i64 4) ∧ w = w' := by
  go_enter Tryz.func70, Tryz.ntmps70
  go_wp2
  go_ret
  exact ⟨by kernel_rfl, rfl⟩
set_option maxRecDepth 100000 in
theorem len64_14s (w : World) : Calls Tryz.prog 70 #[.int .u64 14] w fun e w' => e = .returned (.int .i64 4) ∧ w = w' := by
  go_enter Tryz.func70, Tryz.ntmps70
  go_wp2
  go_ret
  exact ⟨by kernel_rfl, rfl⟩
set_option maxRecDepth 100000 in
theorem len64_15s (w : World) : Calls Tryz.prog 70 #[.int .u64 15] w fun e w' => e = .returned (.int .i64 4) ∧ w = w' := by
  go_enter Tryz.func70, Tryz.ntmps70
  go_wp2
  go_ret
  exact ⟨by kernel_rfl, rfl⟩
set_option maxRecDepth 100000 in
theorem len64_16s (w : World) : Calls Tryz.prog 70 #[.int .u64 16] w fun e w' => e = .returned (.int .i64 5) ∧ w = w' := by
  go_enter Tryz.func70, Tryz.ntmps70
  go_wp2
  go_ret
  exact ⟨by kernel_rfl, rfl⟩
set_option maxRecDepth 100000 in
theorem len64_17s (w : World) : Calls Tryz.prog 70 #[.int .u64 17] w fun e w' => e = .returned (.int .i64 5) ∧ w = w' := by
  go_enter Tryz.func70, Tryz.ntmps70
  go_wp2
  go_ret
  exact ⟨by kernel_rfl, rfl⟩
set_option maxRecDepth 100000 in
theorem len64_18s (w : World) : Calls Tryz.prog 70 #[.int .u64 18] w fun e w' => e = .returned (.int .i64 5) ∧ w = w' := by
  go_enter Tryz.func70, Tryz.ntmps70
  go_wp2
  go_ret
  exact ⟨by kernel_rfl, rfl⟩
set_option maxRecDepth 100000 in
theorem len64_19s (w : World) : Calls Tryz.prog 70 #[.int .u64 19] w fun e w' => e = .returned (.int .i64 5) ∧ w = w' := by
  go_enter Tryz.func70, Tryz.ntmps70
  go_wp2
  go_ret
  exact ⟨by kernel_rfl, rfl⟩
set_option maxRecDepth 100000 in
theorem len64_20s (w : World) : Calls Tryz.prog 70 #[.int .u64 20] w fun e w' => e = .returned (.int .i64 5) ∧ w = w' := by
  go_enter Tryz.func70, Tryz.ntmps70
  go_wp2
  go_ret
  exact ⟨by kernel_rfl, rfl⟩
set_option maxRecDepth 100000 in
theorem len64_21s (w : World) : Calls Tryz.prog 70 #[.int .u64 21] w fun e w' => e = .returned (.int .i64 5) ∧ w = w' := by
  go_enter Tryz.func70, Tryz.ntmps70
  go_wp2
  go_ret
  exact ⟨by kernel_rfl, rfl⟩
set_option maxRecDepth 100000 in
theorem len64_22s (w : World) : Calls Tryz.prog 70 #[.int .u64 22] w fun e w' => e = .returned (.int .i64 5) ∧ w = w' := by
  go_enter Tryz.func70, Tryz.ntmps70
  go_wp2
  go_ret
  exact ⟨by kernel_rfl, rfl⟩
set_option maxRecDepth 100000 in
theorem len64_23s (w : World) : Calls Tryz.prog 70 #[.int .u64 23] w fun e w' => e = .returned (.int .i64 5) ∧ w = w' := by
  go_enter Tryz.func70, Tryz.ntmps70
  go_wp2
  go_ret
  exact ⟨by kernel_rfl, rfl⟩
set_option maxRecDepth 100000 in
theorem len64_24s (w : World) : Calls Tryz.prog 70 #[.int .u64 24] w fun e w' => e = .returned (.int .i64 5) ∧ w = w' := by
  go_enter Tryz.func70, Tryz.ntmps70
  go_wp2
  go_ret
  exact ⟨by kernel_rfl, rfl⟩
set_option maxRecDepth 100000 in
theorem len64_25s (w : World) : Calls Tryz.prog 70 #[.int .u64 25] w fun e w' => e = .returned (.int .i64 5) ∧ w = w' := by
  go_enter Tryz.func70, Tryz.ntmps70
  go_wp2
  go_ret
  exact ⟨by kernel_rfl, rfl⟩
theorem len64_25 (n : Nat) (hn : n ≤ 25) (w : World) : Calls Tryz.prog 70 #[.int .u64 (n : Int)] w fun e w' => (∃ v : Nat, e = .returned (.int .i64 (v : Int)) ∧ v ≤ 5 ∧ (8 ≤ n → 2 ^ v ≤ 2 * n)) ∧ w = w' := by
  match n, hn with
  | 0, _ => exact (len64_0s w).mono fun e w' h => ⟨⟨0, h.1, by decide, by decide⟩, h.2⟩
  | 1, _ => exact (len64_1s w).mono fun e w' h => ⟨⟨1, h.1, by decide, by decide⟩, h.2⟩
  | 2, _ => exact (len64_2s w).mono fun e w' h => ⟨⟨2, h.1, by decide, by decide⟩, h.2⟩
  | 3, _ => exact (len64_3s w).mono fun e w' h => ⟨⟨2, h.1, by decide, by decide⟩, h.2⟩
  | 4, _ => exact (len64_4s w).mono fun e w' h => ⟨⟨3, h.1, by decide, by decide⟩, h.2⟩
  | 5, _ => exact (len64_5s w).mono fun e w' h => ⟨⟨3, h.1, by decide, by decide⟩, h.2⟩
  | 6, _ => exact (len64_6s w).mono fun e w' h => ⟨⟨3, h.1, by decide, by decide⟩, h.2⟩
  | 7, _ => exact (len64_7s w).mono fun e w' h => ⟨⟨3, h.1, by decide, by decide⟩, h.2⟩
  | 8, _ => exact (len64_8s w).mono fun e w' h => ⟨⟨4, h.1, by decide, by decide⟩, h.2⟩
  | 9, _ => exact (len64_9s w).mono fun e w' h => ⟨⟨4, h.1, by decide, by decide⟩, h.2⟩
  | 10, _ => exact (len64_10s w).mono fun e w' h => ⟨⟨4, h.1, by decide, by decide⟩, h.2⟩
  | 11, _ => exact (len64_11s w).mono fun e w' h => ⟨⟨4, h.1, by decide, by decide⟩, h.2⟩
  | 12, _ => exact (len64_12s w).mono fun e w' h => ⟨⟨4, h.1, by decide, by decide⟩, h.2⟩
  | 13, _ => exact (len64_13s w).mono fun e w' h => ⟨⟨4, h.1, by decide, by decide⟩, h.2⟩
  | 14, _ => exact (len64_14s w).mono fun e w' h => ⟨⟨4, h.1, by decide, by decide⟩, h.2⟩
  | 15, _ => exact (len64_15s w).mono fun e w' h => ⟨⟨4, h.1, by decide, by decide⟩, h.2⟩
  | 16, _ => exact (len64_16s w).mono fun e w' h => ⟨⟨5, h.1, by decide, by decide⟩, h.2⟩
  | 17, _ => exact (len64_17s w).mono fun e w' h => ⟨⟨5, h.1, by decide, by decide⟩, h.2⟩
  | 18, _ => exact (len64_18s w).mono fun e w' h => ⟨⟨5, h.1, by decide, by decide⟩, h.2⟩
  | 19, _ => exact (len64_19s w).mono fun e w' h => ⟨⟨5, h.1, by decide, by decide⟩, h.2⟩
  | 20, _ => exact (len64_20s w).mono fun e w' h => ⟨⟨5, h.1, by decide, by decide⟩, h.2⟩
  | 21, _ => exact (len64_21s w).mono fun e w' h => ⟨⟨5, h.1, by decide, by decide⟩, h.2⟩
  | 22, _ => exact (len64_22s w).mono fun e w' h => ⟨⟨5, h.1, by decide, by decide⟩, h.2⟩
  | 23, _ => exact (len64_23s w).mono fun e w' h => ⟨⟨5, h.1, by decide, by decide⟩, h.2⟩
  | 24, _ => exact (len64_24s w).mono fun e w' h => ⟨⟨5, h.1, by decide, by decide⟩, h.2⟩
  | 25, _ => exact (len64_25s w).mono fun e w' h => ⟨⟨5, h.1, by decide, by decide⟩, h.2⟩
  | n + 26, h => exact absurd h (by omega)
theorem len_25 (n : Nat) (hn : n ≤ 25) (w : World) : Calls Tryz.prog 54 #[.int .u64 (n : Int)] w fun e w' => (∃ v : Nat, e = .returned (.int .i64 (v : Int)) ∧ v ≤ 5 ∧ (8 ≤ n → 2 ^ v ≤ 2 * n)) ∧ w = w' := by
  have C := kept (fun W => len64_25 n hn W)
  go_enter Tryz.func54, Tryz.ntmps54
  go_wp2_with fail
  refine (C.out w).mono ?_
  rintro e w1 ⟨⟨v, rfl, hv⟩, rfl⟩
  go_wp2_with fail
  go_ret
  exact ⟨⟨v, rfl, hv⟩, rfl⟩
theorem xs_left (z : Nat) (k : Nat) (hz : z < 18446744073709551616) : ∃ y : Nat, y < 18446744073709551616 ∧ bits .xor .u64 (z : Int) (IntKind.u64.wrap ((z : Int) * k)) = (y : Int) := by
  have h1 : ∃ m : Nat, IntKind.u64.wrap ((z : Int) * k) = (m : Int) ∧ m < 18446744073709551616 := by
    rw [IntKind.wrap_u64]
    exact ⟨((z : Int) * k % 18446744073709551616).toNat, by omega, by omega⟩
  obtain ⟨m, h2, h3⟩ := h1
  rw [h2, u64_xor_nat z m hz h3]
  exact ⟨_, Nat.xor_lt_two_pow (n := 64) hz h3, rfl⟩
theorem xs_right (z : Nat) (k : Nat) (hz : z < 18446744073709551616) : ∃ y : Nat, y < 18446744073709551616 ∧ bits .xor .u64 (z : Int) ((z : Int) / (k : Int)) = (y : Int) := by
  have h2 : (z : Int) / (k : Int) = ((z / k : Nat) : Int) := by simp
  have h3 : z / k < 18446744073709551616 := Nat.lt_of_le_of_lt (Nat.div_le_self _ _) hz
  rw [h2, u64_xor_nat z _ hz h3]
  exact ⟨_, Nat.xor_lt_two_pow (n := 64) hz h3, rfl⟩
theorem and_less (z m : Nat) (hz : z < 18446744073709551616) (hm : m < 18446744073709551616) : ∃ y : Nat, y ≤ m ∧ bits .and .u64 (z : Int) (m : Int) = (y : Int) := by
  rw [u64_and_nat z m hz hm]
  exact ⟨_, Nat.and_le_right, rfl⟩
end Go.Proofs.YtfkfpanhbanljaaGreat.SortY

/- Sorting bytes: breakPatterns (a permutation, whatever the generator gives). -/
namespace Go.Proofs.YtfkfpanhbanljaaGreat.SortY
open Go.RowKit Go.Proofs.YtfkfpanhbanljaaGreat.Mem Go.Proofs.YtfkfpanhbanljaaGreat.Shift

set_option maxRecDepth 100000 in
theorem pow_any (l : Nat) (h8 : 8 ≤ l) (h25 : l ≤ 25) (w : World) : Calls Tryz.prog 81 #[.int .i64 (l : Int)] w fun e w' => (∃ mo : Nat, mo < 2 * l ∧ e = .returned (.int .u64 ((mo : Int) + 1))) ∧ w = w' := by
  have C := kept (len_25 l h25 w)
  have hw : IntKind.u64.wrap (l : Int) = (l : Int) := by rw [IntKind.wrap_u64]; omega
  have HL : Kept (8 ≤ l) := ⟨h8⟩
  go_enter Tryz.func81, Tryz.ntmps81
  go_wp2_with fail
  refine C.out.mono ?_
  rintro e w1 ⟨⟨v, rfl, hv, hv2⟩, rfl⟩
  have h2 := hv2 HL.out
  clear hv2 C h8
  have hv3 : v = 0 ∨ v = 1 ∨ v = 2 ∨ v = 3 ∨ v = 4 ∨ v = 5 := by omega
  rcases hv3 with rfl | rfl | rfl | rfl | rfl | rfl
  · go_wp2_with fail
    go_ret
    exact ⟨⟨0, by omega, by first | rfl | kernel_rfl⟩, rfl⟩
  · go_wp2_with fail
    go_ret
    exact ⟨⟨1, by omega, by first | rfl | kernel_rfl⟩, rfl⟩
  · go_wp2_with fail
    go_ret
    exact ⟨⟨3, by omega, by first | rfl | kernel_rfl⟩, rfl⟩
  · go_wp2_with fail
    go_ret
    exact ⟨⟨7, by omega, by first | rfl | kernel_rfl⟩, rfl⟩
  · go_wp2_with fail
    go_ret
    exact ⟨⟨15, by omega, by first | rfl | kernel_rfl⟩, rfl⟩
  · go_wp2_with fail
    go_ret
    exact ⟨⟨31, by omega, by first | rfl | kernel_rfl⟩, rfl⟩
set_option maxRecDepth 100000 in
theorem next_any (z g : Nat) (w : World) (hk : Blk w g [.int .u64 (z : Int)] 126) (hz : z < 18446744073709551616) :
    Calls Tryz.prog 82 #[.pointer (some ⟨g, 0, none⟩)] w fun e w' => ∃ y : Nat, y < 18446744073709551616 ∧ e = .returned (.int .u64 (y : Int)) ∧ Blk w' g [.int .u64 (y : Int)] 126 ∧ Upd (fun k => k = g) w w' := by
  obtain ⟨z1, hz1, e1⟩ := xs_left z 8192 hz
  obtain ⟨z2, hz2, e2⟩ := xs_right z1 128 hz1
  obtain ⟨z3, hz3, e3⟩ := xs_left z2 131072 hz2
  have E1 : Kept (bits .xor .u64 (z : Int) (IntKind.u64.wrap ((z : Int) * 8192)) = (z1 : Int)) := ⟨e1⟩
  have E2 : Kept (bits .xor .u64 (z1 : Int) ((z1 : Int) / 128) = (z2 : Int)) := ⟨e2⟩
  have E3 : Kept (bits .xor .u64 (z2 : Int) (IntKind.u64.wrap ((z2 : Int) * 131072)) = (z3 : Int)) := ⟨e3⟩
  clear e1 e2 e3
  have HK := kept hk
  have c0 := hk.cell (j := 0) rfl
  have f0 := hk.frozen 0
  clear hk
  go_enter Tryz.func82, Tryz.ntmps82
  go_upto_region 2 with (go_region)
  rw [E1.out]
  have K1 : Kept (Blk (w.setCell ⟨g, 0, none⟩ (.int .u64 (z1 : Int))).drew g [.int .u64 (z1 : Int)] 126) := ⟨HK.out.set 0 _⟩
  have U1 : Kept (Upd (fun k => k = g) w (w.setCell ⟨g, 0, none⟩ (.int .u64 (z1 : Int))).drew) := ⟨((Upd.refl (fun k => k = g) w).setCell (p := ⟨g, 0, none⟩) (.inl rfl) _).drew⟩
  clear E1 HK c0 f0
  generalize (w.setCell ⟨g, 0, none⟩ (.int .u64 (z1 : Int))).drew = w1 at *
  have c1 := K1.out.cell (j := 0) rfl
  have f1 := K1.out.frozen 0
  go_upto_region 3 with (go_region)
  rw [E2.out]
  have K2 : Kept (Blk (w1.setCell ⟨g, 0, none⟩ (.int .u64 (z2 : Int))).drew g [.int .u64 (z2 : Int)] 126) := ⟨K1.out.set 0 _⟩
  have U2 : Kept (Upd (fun k => k = g) w (w1.setCell ⟨g, 0, none⟩ (.int .u64 (z2 : Int))).drew) := ⟨(U1.out.setCell (p := ⟨g, 0, none⟩) (.inl rfl) _).drew⟩
  clear E2 K1 U1 c1 f1
  generalize (w1.setCell ⟨g, 0, none⟩ (.int .u64 (z2 : Int))).drew = w2 at *
  have c2 := K2.out.cell (j := 0) rfl
  have f2 := K2.out.frozen 0
  go_upto_region 4 with (go_region)
  rw [E3.out]
  have K3 : Kept (Blk (w2.setCell ⟨g, 0, none⟩ (.int .u64 (z3 : Int))).drew g [.int .u64 (z3 : Int)] 126) := ⟨K2.out.set 0 _⟩
  have U3 : Kept (Upd (fun k => k = g) w (w2.setCell ⟨g, 0, none⟩ (.int .u64 (z3 : Int))).drew) := ⟨(U2.out.setCell (p := ⟨g, 0, none⟩) (.inl rfl) _).drew⟩
  clear E3 K2 U2 c2 f2
  generalize (w2.setCell ⟨g, 0, none⟩ (.int .u64 (z3 : Int))).drew = w3 at *
  have c3 := K3.out.cell (j := 0) rfl
  have HZ := kept hz3
  clear hz hz1 hz2 hz3
  go_wp2_with fail
  go_ret
  exact ⟨z3, HZ.out, rfl, K3.out, U3.out⟩
/-- what a generator beside the row adds to the row's state -/
structure BS (base : Nat) (A : Option Addr) (n c g : Nat) (w wr : World) (d : Array Nat) (x : Nat) : Prop where
  ps : PS base A n c w wr d
  blk : Blk wr g [.int .u64 (x : Int)] 126
  lt : x < 18446744073709551616
  new : w.heap.size ≤ g
section
variable {base : Nat} {A : Option Addr} {n c g r : Nat} {w wr w2 : World} {d : Array Nat} {x y : Nat}
theorem PS.alloc (h : PS base A n c w wr d) (o : Obj) : PS base A n c w (wr.alloc o) d := ⟨⟨h.row.1, byte_own.2 ((byte_own.1 h.row.2).next ((Below.refl _ _).alloc (Nat.le_refl _) o))⟩, h.upd.alloc o⟩
theorem BS.ne (h : BS base (some ⟨r, 0, none⟩) n c g w wr d x) : r ≠ g := by
  have h1 := OwnK.apartB (byte_own.1 h.ps.row.2) h.blk (by decide)
  intro e
  subst e
  rcases h1 with h1 | h1
  · cases h1
  · exact h1 rfl
theorem BS.next (h : BS base (some ⟨r, 0, none⟩) n c g w wr d x) (hb : Blk w2 g [.int .u64 (y : Int)] 126) (hy : y < 18446744073709551616) (hu : Upd (fun k => k = g) wr w2) : BS base (some ⟨r, 0, none⟩) n c g w w2 d y :=
  ⟨⟨⟨h.ps.row.1, byte_own.2 ((byte_own.1 h.ps.row.2).upd hu fun k hk e => h.ne ((Option.some.inj hk).trans e))⟩, h.ps.upd.join hu fun i hi e => by have := h.new; omega⟩, hb, hy, h.new⟩
theorem BS.drew (h : BS base A n c g w wr d x) : BS base A n c g w wr.drew d x := ⟨h.ps.drew, h.blk, h.lt, h.new⟩
theorem BS.swp (h : BS base (some ⟨r, 0, none⟩) n c g w wr d x) {i j : Nat} (hi : i < n) (hj : j < n) : BS base (some ⟨r, 0, none⟩) n c g w ((wr.setCell ⟨r, i, none⟩ (.int .u8 ((d[j]! : Nat) : Int))).setCell ⟨r, j, none⟩ (.int .u8 ((d[i]! : Nat) : Int))) (Go.Sort.swp d i j) x :=
  ⟨h.ps.swp hi hj, h.blk.upd ((PS.start h.ps.row).swp hi hj).upd (fun e => h.ne (Option.some.inj e)), h.lt, h.new⟩
end
end Go.Proofs.YtfkfpanhbanljaaGreat.SortY

/- Sorting bytes: breakPatterns: a permutation. (printed by tools/genpdm.py) -/
namespace Go.Proofs.YtfkfpanhbanljaaGreat.SortY
open Go.RowKit Go.Proofs.YtfkfpanhbanljaaGreat.Mem Go.Proofs.YtfkfpanhbanljaaGreat.Shift

set_option maxRecDepth 100000 in
set_option maxHeartbeats 8000000 in
theorem break_any (base : Nat) (A : Option Addr) (n c : Nat) (d : Array Nat) (a b : Nat) (w : World) (h : RowD w base A n c d) (hab : a + 8 ≤ b) (h25 : b ≤ a + 25) (hb : b ≤ n) (hn : n ≤ 1000) :
    Calls Tryz.prog 101 #[.slice A n c, .int .i64 (a : Int), .int .i64 (b : Int)] w fun e w' => e = .returned (.tuple #[]) ∧ ∃ d', PS base A n c w w' d' ∧ Go.Sort.PermIn a b d d' := by
  obtain ⟨l, hl⟩ : ∃ l, b - a = l := ⟨_, rfl⟩
  obtain ⟨j0, hj0⟩ : ∃ j0, a + l / 4 * 2 - 1 = j0 := ⟨_, rfl⟩
  have HP := kept (PS.start h)
  obtain ⟨r, rfl⟩ := HP.out.ad (by omega)
  clear h
  have hw1 : IntKind.i64.wrap ((b : Int) - (a : Int)) = (l : Int) := by rw [IntKind.wrap_i64]; omega
  have hbm : (b : Int) - (a : Int) = (l : Int) := by omega
  have hl8 : 8 ≤ l := by omega
  have hl25 : l ≤ 25 := by omega
  have hli : (8 : Int) ≤ (l : Int) := by omega
  have hlw : IntKind.u64.wrap (l : Int) = (l : Int) := by rw [IntKind.wrap_u64]; omega
  have q1 : Int.tdiv (l : Int) 4 = ((l / 4 : Nat) : Int) := (Int.ofNat_tdiv l 4).symm
  have HJ : Kept ((a : Int) + (l : Int) / 4 * 2 - 1 = (j0 : Int) ∧ (a : Int) + (l : Int) / 4 * 2 + 1 = (j0 : Int) + 2) := ⟨by omega⟩
  have hja : a ≤ j0 := by omega
  have hjb : j0 + 2 < b := by omega
  have hbl : b = a + l := by omega
  have HBL := kept hbl
  clear hl hj0 hbl
  have CP := kept (fun W => pow_any l hl8 hl25 W)
  have HS0 : Kept (BS base (some ⟨r, 0, none⟩) n c (w.heap.size) w (w.alloc (.cells #[.int .u64 (l : Int)] 126)) d l) := ⟨⟨HP.out.alloc _, Blk.new w _ _, by omega, Nat.le_refl _⟩⟩
  clear HP
  go_enter Tryz.func101, Tryz.ntmps101
  go_wp2_with fail
  refine (CP.out _).mono ?_
  rintro e w1 ⟨⟨mo, hmo, rfl⟩, rfl⟩
  clear CP
  go_wp2_with fail
  go_loopw [9] (fun i wr => ∃ (q : Nat) (d2 : Array Nat) (x : Nat), j0 ≤ q ∧ q ≤ j0 + 3 ∧ i = .int .i64 (q : Int) ∧ Kept (Go.Sort.PermIn a b d d2) ∧ Kept (BS base (some ⟨r, 0, none⟩) n c (w.heap.size) w wr d2 x)) (fun i _ => j0 + 4 - (intOf i).toNat)
  case atStart => exact ⟨j0, d, l, by omega, by omega, by have := HJ.out.1; go_num, ⟨Go.Sort.permIn_refl d a b⟩, HS0⟩
  case round =>
    clear HS0
    obtain ⟨q, d2, x, hq1, hq2, rfl, HPI, HB⟩ := hrel
    by_cases hle : q ≤ j0 + 2
    · have hlei : (q : Int) ≤ (a : Int) + (l : Int) / 4 * 2 + 1 := by have := HJ.out.2; omega
      have C := kept (next_any x w.heap.size wr HB.out.blk HB.out.lt)
      go_wp2_with fail
      refine C.out.mono ?_
      rintro e w2 ⟨y, hy, rfl, hk, hu⟩
      have HB2 := kept (HB.out.next hk hy hu)
      clear C HB hk hu
      obtain ⟨ot, hot, HO⟩ := and_less y mo hy (by omega)
      have hm1 : IntKind.u64.wrap ((mo : Int) + 1 - 1) = (mo : Int) := by rw [IntKind.wrap_u64]; omega
      have hot2 : ot < 2 * l := by omega
      have how : IntKind.i64.wrap (ot : Int) = (ot : Int) := by rw [IntKind.wrap_i64]; omega
      clear hy
      by_cases hge : l ≤ ot
      · have hgi : (l : Int) ≤ (ot : Int) := by omega
        obtain ⟨t, ht⟩ : ∃ t, ot - l = t := ⟨_, rfl⟩
        have htl : t < l := by omega
        have hti : (ot : Int) - (l : Int) = (t : Int) := by omega
        have hab2 : a + l ≤ b := by have := HBL.out; omega
        clear ht
        go_upto_region 10 with fail
        have hin1 : q < n := by omega
        have hin2 : a + t < n := by omega
        obtain ⟨c0, f0⟩ := HB2.out.ps.at hin1
        obtain ⟨c1, f1⟩ := HB2.out.ps.at hin2
        have HP2 : Kept (Go.Sort.PermIn a b d (Go.Sort.swp d2 q (a + t))) := ⟨Go.Sort.permIn_trans _ _ _ a b HPI.out (Go.Sort.swp_permIn d2 a b q (a + t) (by omega) (by omega) (by omega) (by omega) (by have := HB2.out.ps.size; omega))⟩
        have HS : Kept (BS base (some ⟨r, 0, none⟩) n c (w.heap.size) w ((w2.drew.setCell ⟨r, q, none⟩ (.int .u8 ((d2[a + t]! : Nat) : Int))).setCell ⟨r, a + t, none⟩ (.int .u8 ((d2[q]! : Nat) : Int))) (Go.Sort.swp d2 q (a + t)) y) := ⟨HB2.out.drew.swp hin1 hin2⟩
        clear HB2 HPI
        generalize Go.Sort.swp d2 q (a + t) = d3 at *
        by_cases hij : q = a + t
        · subst hij
          generalize d2[a + t]! = v0 at *
          go_region
          all_goals go_wp2_with fail
          all_goals go_roundw
          all_goals first | exact ⟨a + t + 1, d3, y, by omega, by omega, by go_num, HP2, HS⟩ | (simp [intOf]; omega)
        · have hij2 : ¬ a + t = q := fun h => hij h.symm
          generalize d2[q]! = v0 at *
          generalize d2[a + t]! = v1 at *
          go_region
          all_goals go_wp2_with fail
          all_goals go_roundw
          all_goals first | exact ⟨q + 1, d3, y, by omega, by omega, by go_num, HP2, HS⟩ | (simp [intOf]; omega)
      · have hgi : ¬ (l : Int) ≤ (ot : Int) := by omega
        obtain ⟨t, rfl⟩ : ∃ t, t = ot := ⟨_, rfl⟩
        have htl : t < l := by omega
        have hab2 : a + l ≤ b := by have := HBL.out; omega
        go_upto_region 10 with fail
        have hin1 : q < n := by omega
        have hin2 : a + t < n := by omega
        obtain ⟨c0, f0⟩ := HB2.out.ps.at hin1
        obtain ⟨c1, f1⟩ := HB2.out.ps.at hin2
        have HP2 : Kept (Go.Sort.PermIn a b d (Go.Sort.swp d2 q (a + t))) := ⟨Go.Sort.permIn_trans _ _ _ a b HPI.out (Go.Sort.swp_permIn d2 a b q (a + t) (by omega) (by omega) (by omega) (by omega) (by have := HB2.out.ps.size; omega))⟩
        have HS : Kept (BS base (some ⟨r, 0, none⟩) n c (w.heap.size) w ((w2.drew.setCell ⟨r, q, none⟩ (.int .u8 ((d2[a + t]! : Nat) : Int))).setCell ⟨r, a + t, none⟩ (.int .u8 ((d2[q]! : Nat) : Int))) (Go.Sort.swp d2 q (a + t)) y) := ⟨HB2.out.drew.swp hin1 hin2⟩
        clear HB2 HPI
        generalize Go.Sort.swp d2 q (a + t) = d3 at *
        by_cases hij : q = a + t
        · subst hij
          generalize d2[a + t]! = v0 at *
          go_region
          all_goals go_wp2_with fail
          all_goals go_roundw
          all_goals first | exact ⟨a + t + 1, d3, y, by omega, by omega, by go_num, HP2, HS⟩ | (simp [intOf]; omega)
        · have hij2 : ¬ a + t = q := fun h => hij h.symm
          generalize d2[q]! = v0 at *
          generalize d2[a + t]! = v1 at *
          go_region
          all_goals go_wp2_with fail
          all_goals go_roundw
          all_goals first | exact ⟨q + 1, d3, y, by omega, by omega, by go_num, HP2, HS⟩ | (simp [intOf]; omega)
    · have hlei : ¬ (q : Int) ≤ (a : Int) + (l : Int) / 4 * 2 + 1 := by have := HJ.out.2; omega
      go_wp2_with fail
      go_end0
      exact ⟨rfl, d2, HB.out.ps, HPI.out⟩
end Go.Proofs.YtfkfpanhbanljaaGreat.SortY
