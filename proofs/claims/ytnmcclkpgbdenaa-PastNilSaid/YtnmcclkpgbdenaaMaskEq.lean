/- The walks of layer 40, continued: the comparison of masks, and of lists of integers. -/
import Derived.Test.YtnmcclkpgbdenaaMaskWalks
namespace Go.Proofs.Ytnmcclkpgbdenaa.Mask
open Go.RowKit Go.Proofs.Ytnmcclkpgbdenaa.Mem

theorem take_lastI (m : List Int) (j : Nat) (h : j < m.length) : m.take (j + 1) = m.take j ++ [m.getD j 0] := by
  rw [List.take_succ_eq_append_getElem h]; simp [List.getD, h]
theorem eq_any (B B' : Nat) (A A' : Option Addr) (n m c c' : Nat) (a b : List Nat) (w : World) (hn : n = a.length) (hm : m = b.length) (h1 : Rd w B A (WB a)) (h2 : Rd w B' A' (WB b)) (hsz : a.length ≤ 9223372036854775807) :
    Calls Try.prog 38 #[.slice A n c, .slice A' m c'] w fun e w' => e = .returned (.bool (decide (a = b))) ∧ ∃ q, w' = w.drewN q := by
  subst hn hm
  by_cases hl : a.length = b.length
  · have hne : ((a.length : Int) != (b.length : Int)) = false := by simp; omega
    have HL := Lib.hid hl
    clear hl
    go_enter Try.func38, Try.ntmps38
    go_wp2
    go_loopw [5] (fun i wr => ∃ k q : Nat, k ≤ a.length ∧ i = .int .i64 (k : Int) ∧ Hid (a.take k = b.take k) ∧ wr = w.drewN q) (fun i _ => a.length - (intOf i).toNat)
    case atStart => exact ⟨0, 0, Nat.zero_le _, rfl, rfl, rfl⟩
    case round =>
      obtain ⟨k, q, hk, rfl, ht, rfl⟩ := hrel
      by_cases hlt : k < a.length
      · have hlt2 : k < b.length := by rw [← HL.out]; exact hlt
        obtain ⟨b1, o1, rfl, hb1, hc1⟩ := h1.at_ (WB_get a k hlt)
        obtain ⟨b2, o2, rfl, hb2, hc2⟩ := h2.at_ (WB_get b k hlt2)
        by_cases hxy : a.getD k 0 = b.getD k 0
        · have ht2 : Hid (a.take (k + 1) = b.take (k + 1)) := by show _ = _; rw [take_last a k hlt, take_last b k hlt2, ht.out, hxy]
          rw [hxy] at hc1
          generalize b.getD k 0 = y at *
          clear hxy ht
          go_wp2
          go_quiet (fail)
          go_wp2
          go_roundw
          case rel => exact ⟨k + 1, q + nq, by omega, by go_num, ht2, by simp⟩
          case measure => simp [intOf]; omega
        · have hf : decide (a = b) = false := decide_eq_false (fun e => hxy (by rw [e]))
          have HF := Lib.hid hf
          have hb : ((a.getD k 0 : Int) != (b.getD k 0 : Int)) = true := by rw [bne_iff_ne]; intro h; exact hxy (by omega)
          generalize a.getD k 0 = x at *
          generalize b.getD k 0 = y at *
          clear hxy ht hf
          go_wp2
          go_quiet (fail)
          go_wp2
          go_ret
          exact ⟨ret_bool HF.out.symm, q + nq, by simp⟩
      · have hf : decide (a = b) = true := by
          have e1 : a.take k = a := List.take_of_length_le (by omega)
          have e2 : b.take k = b := List.take_of_length_le (by rw [← HL.out]; omega)
          have := ht.out
          rw [e1, e2] at this
          exact decide_eq_true this
        have HF := Lib.hid hf
        clear hf ht
        go_wp2
        go_ret
        exact ⟨ret_bool HF.out.symm, q, rfl⟩
  · have hne : ((a.length : Int) != (b.length : Int)) = true := by simp; omega
    have hf : decide (a = b) = false := decide_eq_false (fun e => hl (by rw [e]))
    have HF := Lib.hid hf
    clear hf hl
    go_enter Try.func38, Try.ntmps38
    go_wp2
    go_ret
    exact ⟨ret_bool HF.out.symm, 0, rfl⟩
end Go.Proofs.Ytnmcclkpgbdenaa.Mask
