/- The walk of the reference's Line. -/
import Derived.Test.YtijdkbejlaebhaaCardLine
namespace Go.Proofs.Ytijdkbejlaebhaa.Card
open Go.RowKit Go.Proofs.Ytijdkbejlaebhaa.Mem

theorem isF_beq (f : Nat) (x : LineM) : ((x.f : Int) == (f : Int)) = isF f x := int_beq x.f f
theorem rline_any (x : CardM) (f : Nat) (w : World) (hx : x.Ok w w.heap.size) :
    Calls Try.prog 42 #[x.val, .int .u8 (f : Int)] w fun e w' => e = .returned (.tuple #[((lineOf f x.ls).getD zeroL).val, .bool (lineOf f x.ls).isSome]) ∧ Below w.heap.size w w' := by
  obtain ⟨xcid, xX, xls, xc⟩ := x
  obtain ⟨hx1, hx2, hx3, hx4⟩ := hx
  dsimp only at hx1 hx2 hx3 hx4 ⊢
  have hb0 : Below w.heap.size w ((w.alloc (.cells #[.int .u64 (xcid : Int), .slice xX xls.length xc] 38)).alloc (.cells #[.int .u8 0, .string ⟨#[]⟩, .slice none 0 0] 45)) := ((Below.refl _ _).alloc (Nat.le_refl _) _).alloc (by simp) _
  have k1 : Blk ((w.alloc (.cells #[.int .u64 (xcid : Int), .slice xX xls.length xc] 38)).alloc (.cells #[.int .u8 0, .string ⟨#[]⟩, .slice none 0 0] 45)) w.heap.size [.int .u64 (xcid : Int), .slice xX xls.length xc] 38 := (Blk.new w _ _).alloc _
  have k2 : Blk ((w.alloc (.cells #[.int .u64 (xcid : Int), .slice xX xls.length xc] 38)).alloc (.cells #[.int .u8 0, .string ⟨#[]⟩, .slice none 0 0] 45)) (w.heap.size + 1) [.int .u8 0, .string ⟨#[]⟩, .slice none 0 0] 45 := Blk.newAt _ _ _ (by simp)
  unfold CardM.val
  go_enter Try.func42, Try.ntmps42
  go_wp2
  obtain ⟨w1, hw1⟩ : ∃ w1, (w.alloc (.cells #[.int .u64 (xcid : Int), .slice xX xls.length xc] 38)).alloc (.cells #[.int .u8 0, .string ⟨#[]⟩, .slice none 0 0] 45) = w1 := ⟨_, rfl⟩
  rw [hw1] at hb0 k1 k2 ⊢
  clear hw1
  have hc1 := k1.cell (j := 1) rfl
  have d0 := k2.cell (j := 0) rfl
  have d1 := k2.cell (j := 1) rfl
  have d2 := k2.cell (j := 2) rfl
  have f0 := k2.frozen 0
  have f1 := k2.frozen 1
  have f2 := k2.frozen 2
  rcases find_cases (isF f) xls with ⟨h1, h2⟩ | ⟨k0, z, h1, h2, h3, h4⟩
  · have HO : Kept (lineOf f xls = none) := ⟨h1⟩
    clear h1
    go_loop [6] (fun i => ∃ k : Nat, k ≤ xls.length ∧ i = .int .i64 (k : Int)) (fun i => xls.length - (intOf i).toNat)
    case atStart => exact ⟨0, Nat.zero_le _, rfl⟩
    case round =>
      obtain ⟨k, hk, rfl⟩ := hrel
      by_cases hlt : k < xls.length
      · obtain ⟨x, hx⟩ : ∃ x, xls[k]? = some x := ⟨_, List.getElem?_eq_getElem hlt⟩
        obtain ⟨b1, o1, rfl, hb1, hx1, hx2, hx3, hxo⟩ := (hx2.below hb0).at_ hx
        have hf := (isF_beq f x).trans (h2 k x hx)
        clear hx h2
        go_wp2
        go_round
        case rel => exact ⟨k + 1, by omega, by go_num⟩
        case measure => simp [intOf]; omega
      · have k5 := ((k2.set 0 (.int .u8 0)).set 1 (.string ⟨#[]⟩)).set 2 (.slice none 0 0)
        have e0 := k5.cell (j := 0) rfl
        have e1 := k5.cell (j := 1) rfl
        have e2 := k5.cell (j := 2) rfl
        clear h2
        go_wp2
        refine bodyPost_ret (v := .tuple #[.agg #[.int .u8 0, .string ⟨#[]⟩, .slice none 0 0], .bool false]) (by simp [results, Try.results42, go_sem, e0, e1, e2]) rfl ?_
        rw [HO.out]
        exact ⟨rfl, ((hb0.setCell (by simp) _).setCell (by simp) _).setCell (by simp) _⟩
  · have HO : Kept (lineOf f xls = some z) := ⟨h2⟩
    have hlt0 := (List.getElem?_eq_some_iff.1 h1).1
    clear h2
    go_loop [6] (fun i => ∃ k : Nat, k ≤ k0 ∧ i = .int .i64 (k : Int)) (fun i => xls.length - (intOf i).toNat)
    case atStart => exact ⟨0, Nat.zero_le _, rfl⟩
    case round =>
      obtain ⟨k, hk, rfl⟩ := hrel
      have hlt : k < xls.length := by omega
      obtain ⟨x, hx⟩ : ∃ x, xls[k]? = some x := ⟨_, List.getElem?_eq_getElem hlt⟩
      obtain ⟨b1, o1, rfl, hb1, hx1, hx2, hx3, hxo⟩ := (hx2.below hb0).at_ hx
      by_cases he : k = k0
      · subst he
        obtain rfl : x = z := Option.some.inj (hx.symm.trans h1)
        have hf := (isF_beq f x).trans h3
        have hb1n : b1 ≠ w.heap.size + 1 := by omega
        have k5 := ((k2.set 0 (.int .u8 (x.f : Int))).set 1 (.string x.t)).set 2 (.slice x.A x.m.length x.c)
        have e0 := k5.cell (j := 0) rfl
        have e1 := k5.cell (j := 1) rfl
        have e2 := k5.cell (j := 2) rfl
        clear hx h1 h3 h4
        go_wp2
        refine bodyPost_ret (v := .tuple #[.agg #[.int .u8 (x.f : Int), .string x.t, .slice x.A x.m.length x.c], .bool true]) (by simp [results, Try.results42, go_sem, e0, e1, e2]) rfl ?_
        rw [HO.out]
        exact ⟨rfl, ((hb0.setCell (by simp) _).setCell (by simp) _).setCell (by simp) _⟩
      · have hf := (isF_beq f x).trans (h4 k x (by omega) hx)
        clear hx h1 h3 h4
        go_wp2
        go_round
        case rel => exact ⟨k + 1, by omega, by go_num⟩
        case measure => simp [intOf]; omega
end Go.Proofs.Ytijdkbejlaebhaa.Card
