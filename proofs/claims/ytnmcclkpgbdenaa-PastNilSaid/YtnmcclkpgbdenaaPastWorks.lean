/- Layer 41 (past): the example. -/
import Derived.Test.YtnmcclkpgbdenaaPastFew
namespace Go.Proofs.Ytnmcclkpgbdenaa.Past
open Go.RowKit Go.Proofs.Ytnmcclkpgbdenaa.Mem Go.Proofs.Ytnmcclkpgbdenaa.Mask

theorem wone (w : World) (x : Nat) : Rd (w.alloc (.cells #[.int .u64 (x : Int)] 35)) (w.alloc (.cells #[.int .u64 (x : Int)] 35)).heap.size (some ⟨w.heap.size, 0, none⟩) (WB [x]) := (Rd.new w [.int .u64 (x : Int)] 35).more (by simp)
theorem all_nil : AllW [] := fun x hx => by cases hx
theorem all_one {x : Nat} (h : x < 18446744073709551616) : AllW [x] := fun y hy => by
  obtain rfl : y = x := by simpa using hy
  exact h
def wEdit : EvM := ⟨0, 0, 1, 5, 1, ⟨#[]⟩, none, 0, 0⟩
def wDel : EvM := ⟨0, 0, 2, 5, 0, ⟨#[]⟩, none, 0, 0⟩
theorem live7 (A B C : Option Addr) (a b c : Nat) : liveM (addF (addF (addF [] wEdit [] A a) wEdit [1] B b) wDel [1] C c) [7] = [2] := by
  have h0 : thereM 0 [] = [] := by decide +kernel
  have h1 : thereM 1 [1] = [1] := by decide +kernel
  have h2 : thereM 2 [1] = [1] := by decide +kernel
  have h3 : thereM 3 [7] = [7] := by decide +kernel
  have h4 : allI [7] = [0, 1, 2] := by decide +kernel
  have e : addF (addF (addF [] wEdit [] A a) wEdit [1] B b) wDel [1] C c = [⟨wEdit, A, [], a⟩, ⟨wEdit, B, [1], b⟩, ⟨wDel, C, [1], c⟩] := by
    show [_, _, _] = _
    simp only [wEdit, wDel, List.length_nil, List.length_cons, h0, h1, h2]
    rfl
  rw [e]
  unfold liveM
  simp only [List.length_nil, List.length_cons, h3, h4]
  have k0 : keepM [⟨wEdit, A, [], a⟩, ⟨wEdit, B, [1], b⟩, ⟨wDel, C, [1], c⟩] [7] 0 = false := by kernel_rfl
  have k1 : keepM [⟨wEdit, A, [], a⟩, ⟨wEdit, B, [1], b⟩, ⟨wDel, C, [1], c⟩] [7] 1 = true := by kernel_rfl
  have k2 : keepM [⟨wEdit, A, [], a⟩, ⟨wEdit, B, [1], b⟩, ⟨wDel, C, [1], c⟩] [7] 2 = false := by kernel_rfl
  simp only [List.filter_cons, List.filter_nil, k0, k1, k2, Bool.false_eq_true, if_false, if_true]
  decide +kernel
set_option maxRecDepth 100000 in
set_option maxHeartbeats 4000000 in
theorem works_any (w : World) : Calls Try.prog 29 #[] w fun e w' => e = .returned (.bool true) ∧ Below w.heap.size w w' := by
  have CN := kept (new_any w)
  have HL := kept live7
  go_enter Try.func29, Try.ntmps29
  go_wp2_with fail
  refine CN.out.mono ?_
  rintro en w1 ⟨rfl, hP, hb⟩
  have HB1 := kept hb
  have HP1 := kept hP
  clear hb hP CN
  have hE : Below w1.heap.size w1 (w1.alloc (.cells #[.int .u16 0, .int .u64 0, .int .u8 1, .int .u64 5, .int .u8 1, .string ⟨#[]⟩, .slice none 0 0] 59)) := (Below.refl _ _).alloc (Nat.le_refl _) _
  have KE := kept (Blk.new w1 [.int .u16 0, .int .u64 0, .int .u8 1, .int .u64 5, .int .u8 1, .string ⟨#[]⟩, .slice none 0 0] 59)
  have HE := kept hE
  have CA := kept (add_yes _ _ [] wEdit none 0 0 [] _ (HP1.out.next hE) ⟨.inl rfl, by simp⟩ rfl all_nil Rd.nil (by simp))
  have hsz := HP1.out.2.1 _ rfl
  clear hE
  go_wp2_with fail
  refine CA.out.mono ?_
  rintro en w2 ⟨rfl, S2, A2, c2, hP2, hG2, -⟩
  have HP2 := kept hP2
  have hKE2 := KE.out.upd hG2.1 (fun e => by omega)
  have HB2 := kept ((HB1.out.trans (HE.out.mono HB1.out.size)).trans (hG2.below (B := w.heap.size) (by have := HE.out.size; omega) (fun i e => by omega)))
  have HS2 : Kept (∀ k, S2 k → w.heap.size ≤ k ∧ k ≠ w1.heap.size) := ⟨fun k hk => (hG2.2 k hk).elim (fun h => ⟨by omega, by omega⟩) (fun h => by simp at h; omega)⟩
  have g0 := hKE2.cell (j := 0) rfl; have g1 := hKE2.cell (j := 1) rfl; have g2 := hKE2.cell (j := 2) rfl; have g3 := hKE2.cell (j := 3) rfl; have g4 := hKE2.cell (j := 4) rfl; have g5 := hKE2.cell (j := 5) rfl; have g6 := hKE2.cell (j := 6) rfl
  have hl2 := hKE2.lt
  have hE : Below w2.heap.size w2 (w2.alloc (.cells #[.int .u64 1] 35)) := (Below.refl _ _).alloc (Nat.le_refl _) _
  have CA2 := kept (add_yes _ _ _ wEdit _ 1 1 [1] _ (HP2.out.next hE) ⟨.inl rfl, by simp [addF]⟩ rfl (all_one (by decide)) (wone w2 1) (by simp))
  have HE2 := kept hE
  clear hP2 hG2 CA hE hKE2
  go_wp2_with fail
  refine CA2.out.mono ?_
  rintro en w3 ⟨rfl, S3, A3, c3, hP3, hG3, -⟩
  have HP3 := kept hP3
  have HB3 := kept ((HB2.out.trans (HE2.out.mono HB2.out.size)).trans (hG3.below (B := w.heap.size) (by have := HE2.out.size; have := HB2.out.size; omega) (fun i e => (HS2.out i e).1)))
  have HS3 : Kept (∀ k, S3 k → w.heap.size ≤ k) := ⟨fun k hk => (hG3.2 k hk).elim (fun h => (HS2.out k h).1) (fun h => by have := HE2.out.size; have := HB2.out.size; omega)⟩
  have hE : Below w3.heap.size w3 (w3.alloc (.cells #[.int .u64 1] 35)) := (Below.refl _ _).alloc (Nat.le_refl _) _
  have CA3 := kept (add_yes _ _ _ wDel _ 1 1 [1] _ (HP3.out.next hE) ⟨.inr rfl, by simp [addF]⟩ rfl (all_one (by decide)) (wone w3 1) (by simp))
  have HE3 := kept hE
  clear hP3 hG3 CA2 hE g0 g1 g2 g3 g4 g5 g6
  go_wp2_with fail
  refine CA3.out.mono ?_
  rintro en w4 ⟨rfl, S4, A4, c4, hP4, hG4, -⟩
  have HP4 := kept hP4
  have HB4 := kept ((HB3.out.trans (HE3.out.mono HB3.out.size)).trans (hG4.below (B := w.heap.size) (by have := HE3.out.size; have := HB3.out.size; omega) (fun i e => HS3.out i e)))
  have hE : Below w4.heap.size w4 (w4.alloc (.cells #[.int .u64 7] 35)) := (Below.refl _ _).alloc (Nat.le_refl _) _
  have CL := kept (live_any _ _ _ _ 1 1 [7] _ (HP4.out.next hE) rfl (all_one (by decide)) (wone w4 7) (by simp))
  rw [HL.out] at CL
  have HE4 := kept (HB4.out.trans (hE.mono HB4.out.size))
  clear hP4 hG4 CA3 hE
  go_wp2_with fail
  refine CL.out.mono ?_
  rintro en w5 ⟨A5, c5, rfl, ho5, -, hb5⟩
  have HB5 := kept (HE4.out.trans (hb5.mono HE4.out.size))
  have hE : Below w5.heap.size w5 (w5.alloc (.cells #[.int .u64 2] 35)) := (Below.refl _ _).alloc (Nat.le_refl _) _
  have CE := kept (eq_any _ _ A5 _ 1 1 c5 1 [2] [2] _ rfl rfl (ho5.rd.next hE) (wone w5 2) (by simp))
  have HB6 := kept (HB5.out.trans (hE.mono HB5.out.size))
  clear ho5 hb5 CL hE
  go_wp2_with fail
  refine CE.out.mono ?_
  rintro en w6 ⟨rfl, q, rfl⟩
  have HB7 := kept (HB6.out.trans (below_draw _ _ q))
  go_wp2
  go_ret
  exact ⟨rfl, HB7.out⟩
theorem pworks_any (w : World) : Calls Try.prog 29 #[] w fun e w' => e = .returned (.bool true) ∧ Below w.heap.size w w' := works_any w
end Go.Proofs.Ytnmcclkpgbdenaa.Past
