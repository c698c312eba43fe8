/- dot.Unpack and the document's: whether a number is a dot's. -/
import Derived.Test.YtijdkbejlaebhaaCardDot
namespace Go.Proofs.Ytijdkbejlaebhaa.Card
open Go.RowKit Go.Proofs.Ytijdkbejlaebhaa.Mem Go.Proofs.Ytijdkbejlaebhaa.Shift
theorem unpack_any (v : Nat) (w : World) (hv : v < 18446744073709551616) :
    Calls Try.prog 124 #[.int .u64 (v : Int)] w fun e w' => ∃ a b : Nat, e = .returned (.tuple #[.agg #[.int .u16 (a : Int), .int .u64 (b : Int)], .bool (dotOk (devN v) (lowN v))]) ∧ Below w.heap.size w w' := by
  have S := kept (fun W => split_any v W hv)
  have hn : lowN v < 281474976710656 := by unfold lowN; omega
  generalize devN v = d at *
  generalize lowN v = n at *
  have k0 := Blk.new w [.int .u16 0, .int .u64 0] 154
  have hb0 := (Below.refl w.heap.size w).alloc (Nat.le_refl _) (.cells #[.int .u16 0, .int .u64 0] 154)
  go_enter Try.func124, Try.ntmps124
  go_upto_region 1 with fail
  obtain ⟨w1, hw1⟩ : ∃ w1, w.alloc (.cells #[.int .u16 0, .int .u64 0] 154) = w1 := ⟨_, rfl⟩
  have hz : w1.heap.size = w.heap.size + 1 := by rw [← hw1]; simp
  have k0 : Blk w1 w.heap.size [.int .u16 0, .int .u64 0] 154 := by rw [← hw1]; exact k0
  have hb0 : Below w.heap.size w w1 := by rw [← hw1]; exact hb0
  rw [hw1]
  clear hw1
  have HB0 := kept hb0
  have K0 := kept k0
  clear hb0 k0
  go_wp2_with fail
  refine (S.out _).mono ?_
  rintro e _ ⟨rfl, rfl⟩
  go_wp2_with fail
  have k1 := Blk.new w1 [.int .u16 (d : Int), .int .u64 (n : Int)] 154
  have k2 := K0.out.alloc (.cells #[.int .u16 (d : Int), .int .u64 (n : Int)] 154)
  have hb2 := below_new HB0.out (.cells #[.int .u16 (d : Int), .int .u64 (n : Int)] 154)
  refine (dgood_any d n _ hn).mono ?_
  rintro e w3 ⟨rfl, hx⟩
  have k3 := k1.next hx
  have k4 := k2.next hx
  have HB3 := kept (below_next hb2 hx)
  have a0 := k3.cell (j := 0) rfl
  have a1 := k3.cell (j := 1) rfl
  have b0 := k4.cell (j := 0) rfl
  have b1 := k4.cell (j := 1) rfl
  have f0 := k4.frozen 0
  have f1 := k4.frozen 1
  have l3 := k3.lt
  have l4 := k4.lt
  rw [hz] at a0 a1 l3
  obtain ⟨t, ht⟩ : ∃ t, dotOk d n = t := ⟨_, rfl⟩
  rw [ht]
  have HT := kept ht
  clear ht k1 k2 hb2 hx
  cases t with
  | true =>
    have k5 := (k4.set 0 (.int .u16 (d : Int))).set 1 (.int .u64 (n : Int))
    have e0 := k5.cell (j := 0) rfl
    have e1 := k5.cell (j := 1) rfl
    clear k3 k4 k5
    go_wp2
    refine bodyPost_ret (v := .tuple #[.agg #[.int .u16 (d : Int), .int .u64 (n : Int)], .bool true]) (by simp [results, Try.results124, go_sem, e0, e1]) rfl ?_
    exact ⟨d, n, by rw [HT.out], (HB3.out.setCell (by simp) _).setCell (by simp) _⟩
  | false =>
    have k5 := (k4.set 0 (.int .u16 0)).set 1 (.int .u64 0)
    have e0 := k5.cell (j := 0) rfl
    have e1 := k5.cell (j := 1) rfl
    clear k3 k4 k5
    go_wp2
    refine bodyPost_ret (v := .tuple #[.agg #[.int .u16 0, .int .u64 0], .bool false]) (by simp [results, Try.results124, go_sem, e0, e1]) rfl ?_
    exact ⟨0, 0, by rw [HT.out]; rfl, (HB3.out.setCell (by simp) _).setCell (by simp) _⟩
theorem runpack_any (v : Nat) (w : World) (hv : v < 18446744073709551616) :
    Calls Try.prog 125 #[.int .u64 (v : Int)] w fun e w' => ∃ a b : Nat, e = .returned (.tuple #[.agg #[.int .u16 (a : Int), .int .u64 (b : Int)], .bool (dotOk (devN v) (lowN v))]) ∧ Below w.heap.size w w' := by
  have S := kept (fun W => rsplit_any v W hv)
  have hn : lowN v < 281474976710656 := by unfold lowN; omega
  generalize devN v = d at *
  generalize lowN v = n at *
  have k0 := Blk.new w [.int .u16 0, .int .u64 0] 154
  have hb0 := (Below.refl w.heap.size w).alloc (Nat.le_refl _) (.cells #[.int .u16 0, .int .u64 0] 154)
  go_enter Try.func125, Try.ntmps125
  go_upto_region 1 with fail
  obtain ⟨w1, hw1⟩ : ∃ w1, w.alloc (.cells #[.int .u16 0, .int .u64 0] 154) = w1 := ⟨_, rfl⟩
  have hz : w1.heap.size = w.heap.size + 1 := by rw [← hw1]; simp
  have k0 : Blk w1 w.heap.size [.int .u16 0, .int .u64 0] 154 := by rw [← hw1]; exact k0
  have hb0 : Below w.heap.size w w1 := by rw [← hw1]; exact hb0
  rw [hw1]
  clear hw1
  have HB0 := kept hb0
  have K0 := kept k0
  clear hb0 k0
  go_wp2_with fail
  refine (S.out _).mono ?_
  rintro e _ ⟨rfl, rfl⟩
  go_wp2_with fail
  have k1 := Blk.new w1 [.int .u16 (d : Int), .int .u64 (n : Int)] 154
  have k2 := K0.out.alloc (.cells #[.int .u16 (d : Int), .int .u64 (n : Int)] 154)
  have hb2 := below_new HB0.out (.cells #[.int .u16 (d : Int), .int .u64 (n : Int)] 154)
  refine (rdgood_any d n _ hn).mono ?_
  rintro e w3 ⟨rfl, hx⟩
  have k3 := k1.next hx
  have k4 := k2.next hx
  have HB3 := kept (below_next hb2 hx)
  have a0 := k3.cell (j := 0) rfl
  have a1 := k3.cell (j := 1) rfl
  have b0 := k4.cell (j := 0) rfl
  have b1 := k4.cell (j := 1) rfl
  have f0 := k4.frozen 0
  have f1 := k4.frozen 1
  have l3 := k3.lt
  have l4 := k4.lt
  rw [hz] at a0 a1 l3
  obtain ⟨t, ht⟩ : ∃ t, dotOk d n = t := ⟨_, rfl⟩
  rw [ht]
  have HT := kept ht
  clear ht k1 k2 hb2 hx
  cases t with
  | true =>
    have k5 := (k4.set 0 (.int .u16 (d : Int))).set 1 (.int .u64 (n : Int))
    have e0 := k5.cell (j := 0) rfl
    have e1 := k5.cell (j := 1) rfl
    clear k3 k4 k5
    go_wp2
    refine bodyPost_ret (v := .tuple #[.agg #[.int .u16 (d : Int), .int .u64 (n : Int)], .bool true]) (by simp [results, Try.results125, go_sem, e0, e1]) rfl ?_
    exact ⟨d, n, by rw [HT.out], (HB3.out.setCell (by simp) _).setCell (by simp) _⟩
  | false =>
    have k5 := (k4.set 0 (.int .u16 0)).set 1 (.int .u64 0)
    have e0 := k5.cell (j := 0) rfl
    have e1 := k5.cell (j := 1) rfl
    clear k3 k4 k5
    go_wp2
    refine bodyPost_ret (v := .tuple #[.agg #[.int .u16 0, .int .u64 0], .bool false]) (by simp [results, Try.results125, go_sem, e0, e1]) rfl ?_
    exact ⟨0, 0, by rw [HT.out]; rfl, (HB3.out.setCell (by simp) _).setCell (by simp) _⟩
end Go.Proofs.Ytijdkbejlaebhaa.Card
