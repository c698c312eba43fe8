/- Layer 41 (past): which fact puts out another one; a fact's event. -/
import Derived.Test.YtnmcclkpgbdenaaPastCalls
namespace Go.Proofs.Ytnmcclkpgbdenaa.Past
open Go.RowKit Go.Proofs.Ytnmcclkpgbdenaa.Mem Go.Proofs.Ytnmcclkpgbdenaa.Mask

set_option maxHeartbeats 4000000 in
theorem outs_any (S : Nat → Prop) (g : Nat) (fs : List FactM) (n k : Int) (w : World) (h : Pst w S g fs) (hn : -9223372036854775808 ≤ n ∧ n ≤ 9223372036854775807) (hk : -9223372036854775808 ≤ k ∧ k ≤ 9223372036854775807) :
    Calls Try.prog 34 #[.pointer (some ⟨g, 0, none⟩), .int .i64 n, .int .i64 k] w fun e w' => e = .returned (.bool (outsM fs n k)) ∧ Below w.heap.size w w' := by
  have CN := kept (is_any _ fs.length n w h.len)
  have CK := kept (is_any _ fs.length k w h.len)
  unfold outsM
  by_cases h1 : 0 ≤ n ∧ n < (fs.length : Int)
  · by_cases h2 : 0 ≤ k ∧ k < (fs.length : Int)
    · rw [if_pos ⟨h1, h2⟩]
      rw [decide_eq_true h1] at CN
      rw [decide_eq_true h2] at CK
      obtain ⟨i, rfl⟩ : ∃ i : Nat, n = (i : Int) := ⟨n.toNat, by omega⟩
      obtain ⟨j, rfl⟩ : ∃ j : Nat, k = (j : Int) := ⟨k.toNat, by omega⟩
      have hi : i < fs.length := by omega
      have hj : j < fs.length := by omega
      obtain ⟨a, ha⟩ : ∃ a, fs[i]? = some a := ⟨_, List.getElem?_eq_getElem hi⟩
      obtain ⟨b, hb⟩ : ∃ b, fs[j]? = some b := ⟨_, List.getElem?_eq_getElem hj⟩
      have ea : fs.getD (i : Int).toNat default = a := by simp [List.getD, ha]
      have eb : fs.getD (j : Int).toNat default = b := by simp [List.getD, hb]
      rw [ea, eb]
      obtain ⟨X, c, bl, o, rfl, hg, hbl, hgl, ⟨a0, a1, a2, a3, a4, a5, a6, a7⟩, hak⟩ := h.spot ha
      obtain ⟨X2, c2, bl2, o2, rfl, hg2, -, -, ⟨b0, b1, b2, b3, b4, b5, b6, b7⟩, hbk⟩ := h.spot hb
      rw [hg] at hg2
      injection hg2 with hg2
      injection hg2 with hg2 hg3 hg4
      injection hg2 with hg2
      injection hg2 with hg5 hg6
      subst hg5 hg6 hg4
      have CH := kept (has_any a.A _ a.c a.m (j : Int) w rfl hak.2.2.1 hak.2.1.rd (by omega) (by omega))
      generalize hasI a.m (j : Int) = hh at *
      clear ha hb h hak hbk ea eb
      obtain ⟨⟨adev, an, akind, acid, afield, atext, akA, akn, akc⟩, aA, am, ac⟩ := a
      obtain ⟨⟨bdev, bn, bkind, bcid, bfield, btext, bkA, bkn, bkc⟩, bA, bm, bc⟩ := b
      dsimp only at *
      have hi2 : (i : Int) < (fs.length : Int) := by omega
      have hj2 : (j : Int) < (fs.length : Int) := by omega
      have hi3 : (0 : Int) ≤ (i : Int) := by omega
      have hj3 : (0 : Int) ≤ (j : Int) := by omega
      cases hh with
      | false =>
        go_enter Try.func34, Try.ntmps34
        go_wp2_with fail
        refine CN.out.mono ?_
        rintro e w' ⟨rfl, rfl⟩
        go_wp2_with fail
        refine CK.out.mono ?_
        rintro e w' ⟨rfl, rfl⟩
        go_wp2_with fail
        refine CH.out.mono ?_
        rintro e w' ⟨rfl, rfl⟩
        go_wp2
        go_ret
        exact ⟨rfl, Below.refl _ _⟩
      | true =>
        go_enter Try.func34, Try.ntmps34
        go_wp2_with fail
        refine CN.out.mono ?_
        rintro e w' ⟨rfl, rfl⟩
        go_wp2_with fail
        refine CK.out.mono ?_
        rintro e w' ⟨rfl, rfl⟩
        go_wp2_with fail
        refine CH.out.mono ?_
        rintro e w' ⟨rfl, rfl⟩
        go_wp2_with fail
        go_region
        go_wp2
        all_goals go_ret
        all_goals refine ⟨ret_bool ?_, (((Below.refl _ _).alloc (Nat.le_refl _) _).alloc (by simp) _).drew⟩
        all_goals clear CN CK CH a0 a1 a2 a3 a4 a5 a6 a7 b0 b1 b2 b3 b4 b5 b6 b7
        all_goals first | (symm; simp; omega) | (symm; rw [Bool.eq_iff_iff]; simp; omega)
    · rw [if_neg (fun h => h2 h.2)]
      rw [decide_eq_true h1] at CN
      rw [decide_eq_false h2] at CK
      go_enter Try.func34, Try.ntmps34
      go_wp2_with fail
      refine CN.out.mono ?_
      rintro e w' ⟨rfl, rfl⟩
      go_wp2_with fail
      refine CK.out.mono ?_
      rintro e w' ⟨rfl, rfl⟩
      go_wp2
      go_ret
      exact ⟨rfl, Below.refl _ _⟩
  · rw [if_neg (fun h => h1 h.1)]
    rw [decide_eq_false h1] at CN
    go_enter Try.func34, Try.ntmps34
    go_wp2_with fail
    refine CN.out.mono ?_
    rintro e w' ⟨rfl, rfl⟩
    go_wp2
    go_ret
    exact ⟨rfl, Below.refl _ _⟩
end Go.Proofs.Ytnmcclkpgbdenaa.Past
