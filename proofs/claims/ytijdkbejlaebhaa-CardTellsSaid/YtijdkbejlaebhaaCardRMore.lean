/- The document's 'more': whether the other texts of a line may stand there. -/
import Derived.Test.YtijdkbejlaebhaaCardGood
import Derived.Deep.QuietTactic
import Derived.BigQuiet
namespace Go.Proofs.Ytijdkbejlaebhaa.Card
open Go.RowKit Go.Proofs.Ytijdkbejlaebhaa.Mem Go.Proofs.Ytijdkbejlaebhaa.Shift

set_option maxHeartbeats 4000000 in
theorem rmore_any (A : Option Addr) (c : Nat) (m : List ByteArray) (t : ByteArray) (w : World) (hr : Rd w w.heap.size A (SB m)) (hm : m.length ≤ 8796093022208) (hs : ∀ y ∈ m, y.size ≤ 9223372036854775807) :
    Calls Try.prog 128 #[.slice A m.length c, .string t] w fun e w' => e = .returned (.bool (moreOk t m)) ∧ ∃ q, w' = w.drewN q := by
  go_enter Try.func128, Try.ntmps128
  go_wp2
  go_loopw [5] (fun i wr => ∃ k : Nat, k ≤ m.length ∧ i = .int .i64 (k : Int) ∧ Kept (MoreUp t m k) ∧ ∃ q, wr = w.drewN q) (fun i _ => m.length - (intOf i).toNat)
  case atStart => exact ⟨0, Nat.zero_le _, rfl, ⟨moreUp_zero t m⟩, 0, rfl⟩
  case round =>
    obtain ⟨k, hk, rfl, hup, q, rfl⟩ := hrel
    by_cases hlt : k < m.length
    · have hkn : (k : Int) < (m.length : Int) := by omega
      have HST : Kept (moreAt t m k = true → MoreUp t m (k + 1)) := ⟨fun h => moreUp_step hup.out h⟩
      have HBD : Kept (moreAt t m k = false → moreOk t m = false) := ⟨fun h => more_bad hlt h⟩
      have MA : Kept (moreAt t m k = (textOk (m.getD k ByteArray.empty) && (!((m.getD k ByteArray.empty).toList == t.toList) && (k == 0 || Op.bytesLess (m.getD (k - 1) ByteArray.empty).toList (m.getD k ByteArray.empty).toList)))) := ⟨rfl⟩
      have hys : (m.getD k ByteArray.empty).size ≤ 9223372036854775807 := by
        have : m.getD k ByteArray.empty = m[k] := by simp [List.getD, hlt]
        rw [this]; exact hs _ (List.getElem_mem _)
      have hc0 := hr.at_ (SB_get m (k - 1) (by omega))
      obtain ⟨b1, o1, rfl, hb1, hc1⟩ := hr.at_ (SB_get m k hlt)
      obtain ⟨b2, o2, hbo, _, hc2⟩ := hc0
      injection hbo with hbo
      injection hbo with hbb hoo _
      subst hbb hoo
      generalize m.getD k ByteArray.empty = y at *
      generalize m.getD (k - 1) ByteArray.empty = p at *
      obtain ⟨wq, hwq⟩ : ∃ wq, w.drewN q = wq := ⟨_, rfl⟩
      have hc1 : wq.cell? ⟨b1, o1 + k, none⟩ = some (.string y) := by rw [← hwq]; exact hc1
      have hc2 : wq.cell? ⟨b1, o1 + (k - 1), none⟩ = some (.string p) := by rw [← hwq]; exact hc2
      rw [hwq]
      have HWQ : Kept (∀ nq, ∃ q', wq.drewN nq = w.drewN q') := ⟨fun nq => ⟨q + nq, by rw [← hwq]; simp⟩⟩
      have HC := kept (fun nd => rtext_any y (wq.drewN nd) hys)
      clear hup hr hs hys hwq
      cases h1 : textOk y with
      | false =>
        have HF : Kept (moreOk t m = false) := ⟨HBD.out (by rw [MA.out, h1, Bool.false_and])⟩
        rw [h1] at HC
        clear h1 MA HST HBD
        go_wp2
        go_quiet ((go_at_call 127; exact Calls.quiet_of (HC.out _)))
        go_wp2
        go_ret
        exact ⟨ret_bool HF.out.symm, HWQ.out nq⟩
      | true =>
        cases h2 : y.toList == t.toList with
        | true =>
          have HF : Kept (moreOk t m = false) := ⟨HBD.out (by rw [MA.out, h1, h2]; rfl)⟩
          rw [h1] at HC
          clear h1 MA HST HBD
          go_wp2
          go_quiet ((go_at_call 127; exact Calls.quiet_of (HC.out _)))
          go_wp2
          go_ret
          exact ⟨ret_bool HF.out.symm, HWQ.out nq⟩
        | false =>
          by_cases hk0 : k = 0
          · have HU : Kept (MoreUp t m (k + 1)) := ⟨HST.out (by rw [MA.out, h1, h2, hk0]; rfl)⟩
            have h3 : ¬ ((k : Int) > 0) := by omega
            have h6 : decide (0 < k) = false := decide_eq_false (by omega)
            rw [h1] at HC
            clear h1 hk0 MA HST HBD
            go_wp2
            go_quiet ((go_at_call 127; exact Calls.quiet_of (HC.out _)))
            go_wp2
            go_roundw
            case rel => exact ⟨k + 1, by omega, by go_num, HU, HWQ.out nq⟩
            case measure => simp [intOf]; omega
          · have h3 : ((k : Int) > 0) := by omega
            have h6 : decide (0 < k) = true := decide_eq_true (by omega)
            have h4 : ((k : Int) - 1) = ((k - 1 : Nat) : Int) := by omega
            have hk1 : (k == 0) = false := by simpa using hk0
            cases h5 : Op.bytesLess p.toList y.toList with
            | true =>
              have HU : Kept (MoreUp t m (k + 1)) := ⟨HST.out (by rw [MA.out, h1, h2, hk1, h5]; rfl)⟩
              rw [h1] at HC
              clear h1 hk1 MA HST HBD
              go_wp2
              go_quiet ((go_at_call 127; exact Calls.quiet_of (HC.out _)))
              go_wp2
              go_roundw
              case rel => exact ⟨k + 1, by omega, by go_num, HU, HWQ.out nq⟩
              case measure => simp [intOf]; omega
            | false =>
              have HF : Kept (moreOk t m = false) := ⟨HBD.out (by rw [MA.out, h1, h2, hk1, h5]; rfl)⟩
              rw [h1] at HC
              clear h1 hk1 MA HST HBD
              go_wp2
              go_quiet ((go_at_call 127; exact Calls.quiet_of (HC.out _)))
              go_wp2
              go_ret
              exact ⟨ret_bool HF.out.symm, HWQ.out nq⟩
    · have hkn : ¬ ((k : Int) < (m.length : Int)) := by omega
      have HG := kept (more_full hlt hup.out)
      clear hup
      go_wp2
      go_ret
      exact ⟨ret_bool HG.out.symm, q, rfl⟩
end Go.Proofs.Ytijdkbejlaebhaa.Card
