/- Two lists of texts compared: the library's slices.Equal, and the reference's own. -/
import Derived.Test.YtnmcclkpgbdenaaCardMem
import Derived.Deep.QuietTactic
import Derived.BigQuiet
namespace Go.Proofs.Ytnmcclkpgbdenaa.Card
open Go.RowKit Go.Proofs.Ytnmcclkpgbdenaa.Mem

theorem take_lastS (m : List ByteArray) (j : Nat) (h : j < m.length) : m.take (j + 1) = m.take j ++ [m.getD j ByteArray.empty] := by
  rw [List.take_succ_eq_append_getElem h]; simp [List.getD, h]
theorem sequal_any (B B' : Nat) (A A' : Option Addr) (n m c c' : Nat) (a b : List ByteArray) (w : World) (hn : n = a.length) (hm : m = b.length) (h1 : Rd w B A (SB a)) (h2 : Rd w B' A' (SB b)) (hsz : a.length ≤ 9223372036854775807) :
    Calls Try.prog 104 #[.slice A n c, .slice A' m c'] w fun e w' => e = .returned (.bool (decide (a = b))) ∧ ∃ q, w' = w.drewN q := by
  subst hn hm
  by_cases hl : a.length = b.length
  · have hne : ((a.length : Int) != (b.length : Int)) = false := by simp; omega
    have HL := kept hl
    clear hl
    go_enter Try.func104, Try.ntmps104
    go_wp2
    go_loopw [13] (fun i wr => ∃ k q : Nat, k ≤ a.length ∧ i = .int .i64 (k : Int) ∧ Kept (a.take k = b.take k) ∧ wr = w.drewN q) (fun i _ => a.length - (intOf i).toNat)
    case atStart => exact ⟨0, 0, Nat.zero_le _, rfl, ⟨rfl⟩, rfl⟩
    case round =>
      obtain ⟨k, q, hk, rfl, ht, rfl⟩ := hrel
      by_cases hlt : k < a.length
      · have hlt2 : k < b.length := by rw [← HL.out]; exact hlt
        obtain ⟨b1, o1, rfl, hb1, hc1⟩ := h1.at_ (SB_get a k hlt)
        obtain ⟨b2, o2, rfl, hb2, hc2⟩ := h2.at_ (SB_get b k hlt2)
        by_cases hxy : a.getD k ByteArray.empty = b.getD k ByteArray.empty
        · have ht2 : Kept (a.take (k + 1) = b.take (k + 1)) := ⟨by rw [take_lastS a k hlt, take_lastS b k hlt2, ht.out, hxy]⟩
          rw [hxy] at hc1
          generalize b.getD k ByteArray.empty = y at *
          clear hxy ht
          go_wp2
          go_quiet (fail)
          go_wp2
          go_roundw
          case rel => exact ⟨k + 1, q + nq, by omega, by go_num, ht2, by simp⟩
          case measure => simp [intOf]; omega
        · have HF : Kept (decide (a = b) = false) := ⟨decide_eq_false (fun e => hxy (by rw [e]))⟩
          have hb : ((a.getD k ByteArray.empty).toList == (b.getD k ByteArray.empty).toList) = false := by rw [str_beq]; exact decide_eq_false hxy
          generalize a.getD k ByteArray.empty = x at *
          generalize b.getD k ByteArray.empty = y at *
          clear hxy ht
          go_wp2
          go_quiet (fail)
          go_wp2
          go_ret
          exact ⟨ret_bool HF.out.symm, q + nq, by simp⟩
      · have HF : Kept (decide (a = b) = true) := ⟨by
          have e1 : a.take k = a := List.take_of_length_le (by omega)
          have e2 : b.take k = b := List.take_of_length_le (by rw [← HL.out]; omega)
          have := ht.out
          rw [e1, e2] at this
          exact decide_eq_true this⟩
        clear ht
        go_wp2
        go_ret
        exact ⟨ret_bool HF.out.symm, q, rfl⟩
  · have hne : ((a.length : Int) != (b.length : Int)) = true := by simp; omega
    have HF : Kept (decide (a = b) = false) := ⟨decide_eq_false (fun e => hl (by rw [e]))⟩
    clear hl
    go_enter Try.func104, Try.ntmps104
    go_wp2
    go_ret
    exact ⟨ret_bool HF.out.symm, 0, rfl⟩
theorem texts_any (B B' : Nat) (A A' : Option Addr) (n m c c' : Nat) (a b : List ByteArray) (w : World) (hn : n = a.length) (hm : m = b.length) (h1 : Rd w B A (SB a)) (h2 : Rd w B' A' (SB b)) (hsz : a.length ≤ 9223372036854775807) :
    Calls Try.prog 22 #[.slice A n c, .slice A' m c'] w fun e w' => e = .returned (.bool (decide (a = b))) ∧ ∃ q, w' = w.drewN q := by
  subst hn hm
  by_cases hl : a.length = b.length
  · have hne : ((a.length : Int) != (b.length : Int)) = false := by simp; omega
    have HL := kept hl
    clear hl
    go_enter Try.func22, Try.ntmps22
    go_wp2
    go_loopw [5] (fun i wr => ∃ k q : Nat, k ≤ a.length ∧ i = .int .i64 (k : Int) ∧ Kept (a.take k = b.take k) ∧ wr = w.drewN q) (fun i _ => a.length - (intOf i).toNat)
    case atStart => exact ⟨0, 0, Nat.zero_le _, rfl, ⟨rfl⟩, rfl⟩
    case round =>
      obtain ⟨k, q, hk, rfl, ht, rfl⟩ := hrel
      by_cases hlt : k < a.length
      · have hlt2 : k < b.length := by rw [← HL.out]; exact hlt
        obtain ⟨b1, o1, rfl, hb1, hc1⟩ := h1.at_ (SB_get a k hlt)
        obtain ⟨b2, o2, rfl, hb2, hc2⟩ := h2.at_ (SB_get b k hlt2)
        by_cases hxy : a.getD k ByteArray.empty = b.getD k ByteArray.empty
        · have ht2 : Kept (a.take (k + 1) = b.take (k + 1)) := ⟨by rw [take_lastS a k hlt, take_lastS b k hlt2, ht.out, hxy]⟩
          rw [hxy] at hc1
          generalize b.getD k ByteArray.empty = y at *
          clear hxy ht
          go_wp2
          go_quiet (fail)
          go_wp2
          go_roundw
          case rel => exact ⟨k + 1, q + nq, by omega, by go_num, ht2, by simp⟩
          case measure => simp [intOf]; omega
        · have HF : Kept (decide (a = b) = false) := ⟨decide_eq_false (fun e => hxy (by rw [e]))⟩
          have hb : ((a.getD k ByteArray.empty).toList == (b.getD k ByteArray.empty).toList) = false := by rw [str_beq]; exact decide_eq_false hxy
          generalize a.getD k ByteArray.empty = x at *
          generalize b.getD k ByteArray.empty = y at *
          clear hxy ht
          go_wp2
          go_quiet (fail)
          go_wp2
          go_ret
          exact ⟨ret_bool HF.out.symm, q + nq, by simp⟩
      · have HF : Kept (decide (a = b) = true) := ⟨by
          have e1 : a.take k = a := List.take_of_length_le (by omega)
          have e2 : b.take k = b := List.take_of_length_le (by rw [← HL.out]; omega)
          have := ht.out
          rw [e1, e2] at this
          exact decide_eq_true this⟩
        clear ht
        go_wp2
        go_ret
        exact ⟨ret_bool HF.out.symm, q, rfl⟩
  · have hne : ((a.length : Int) != (b.length : Int)) = true := by simp; omega
    have HF : Kept (decide (a = b) = false) := ⟨decide_eq_false (fun e => hl (by rw [e]))⟩
    clear hl
    go_enter Try.func22, Try.ntmps22
    go_wp2
    go_ret
    exact ⟨ret_bool HF.out.symm, 0, rfl⟩
end Go.Proofs.Ytnmcclkpgbdenaa.Card
