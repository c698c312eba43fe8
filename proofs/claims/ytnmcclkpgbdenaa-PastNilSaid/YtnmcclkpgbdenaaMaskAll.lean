/- The walks of layer 40, continued: the reference's Put, Of, All, Size, the reference's Same, the example. -/
import Derived.Test.YtnmcclkpgbdenaaMaskPut
namespace Go.Proofs.Ytnmcclkpgbdenaa.Mask
open Go.RowKit Go.Proofs.Ytnmcclkpgbdenaa.Mem

/-- whole numbers of 64 bits -/
def AllI (l : List Int) : Prop := ∀ x ∈ l, -9223372036854775808 ≤ x ∧ x ≤ 9223372036854775807
theorem of_any (A : Option Addr) (n c : Nat) (l : List Int) (w : World) (hn : n = l.length) (hl : AllI l) (hr : Rd w w.heap.size A (IB l)) (hsz : l.length ≤ 9223372036854775807) :
    Calls Try.prog 65 #[.slice A n c] w (GivesW w (ofI l)) := by
  subst hn
  have HT := Lib.hid (of_take l)
  go_enter Try.func65, Try.ntmps65
  go_wp2
  go_loopw [3, 8] (fun v i wr => ∃ (k : Nat) (D : Option Addr) (cc : Nat) (r : List Nat), k ≤ l.length ∧ i = .int .i64 (k : Int) ∧ v = .slice D r.length cc ∧ Hid (r = ofI (l.take k)) ∧ Own wr w.heap.size 35 (.slice D r.length cc) (WB r) ∧ Below w.heap.size w wr) (fun _ i _ => l.length - (intOf i).toNat)
  case atStart => exact ⟨0, none, 0, [], Nat.zero_le _, rfl, rfl, rfl, Own.nilv _ _ _, Below.refl _ _⟩
  case round =>
    obtain ⟨k, D, cc, r, hk, rfl, rfl, hr', hown, hb⟩ := hrel
    have hsw := hb.size
    by_cases hlt : k < l.length
    · obtain ⟨b, o, rfl, hbb, hcell⟩ := (hr.below hb).at_ (IB_get l k hlt)
      have hx := hl (l.getD k 0) (by have : l.getD k 0 = l[k] := by simp [List.getD, hlt]
                                     rw [this]; exact List.getElem_mem hlt)
      have hT := HT.out k hlt
      rw [← hr'.out] at hT
      have hrl : r.length ≤ 16 := by rw [hr'.out]; exact of_length _
      have hra : AllW r := by rw [hr'.out]; exact of_all _
      have HP := Lib.hid (put_any D r.length cc r (l.getD k 0) wr rfl hra hown.rd (by omega) hx.2 hx.1)
      have HR := Lib.hid hT
      generalize l.getD k 0 = x at *
      clear hT hr'
      go_wp2_with fail
      refine HP.out.mono ?_
      rintro e w1 ⟨A1, c1, rfl, hown1, hc1, hb1⟩
      go_wp2
      go_roundw
      case rel => exact ⟨k + 1, A1, c1, _, by omega, by go_num, rfl, HR.out.symm, hown1.mono hsw, hb.trans (hb1.mono hsw)⟩
      case measure => simp [intOf]; omega
    · have hz : r = ofI l := by rw [hr'.out, List.take_of_length_le (by omega)]
      clear hr'
      go_wp2
      go_ret
      exact givesW_mk hz hown hb
end Go.Proofs.Ytnmcclkpgbdenaa.Mask
