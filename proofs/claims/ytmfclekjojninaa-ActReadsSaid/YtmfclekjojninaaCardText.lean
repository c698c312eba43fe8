/- Texts of fields, fields' numbers: field.Text, field.Good and the document's. -/
import Derived.Test.YtmfclekjojninaaBytes
import Derived.Deep.QuietTactic
import Derived.BigQuiet
namespace Go.Proofs.Ytmfclekjojninaa.Card
open Go.RowKit Go.Proofs.Ytmfclekjojninaa.Mem

/-- a byte that may stand in a text -/
def okB (b : UInt8) : Bool := decide (32 ≤ b.toNat ∧ b.toNat ≤ 126)
def textOk (s : ByteArray) : Bool := decide (s.size ≤ 60) && s.data.toList.all okB
def Upto (s : ByteArray) (k : Nat) : Prop := ∀ j b, j < k → s.data[j]? = some b → okB b = true
theorem upto_zero (s : ByteArray) : Upto s 0 := fun _ _ h => absurd h (Nat.not_lt_zero _)
theorem upto_step {s : ByteArray} {k : Nat} (hk : k < s.size) (h : Upto s k) (h1 : 32 ≤ s[k].toNat) (h2 : s[k].toNat ≤ 126) : Upto s (k + 1) := by
  intro j b hj hb
  by_cases e : j = k
  · subst e
    have : s.data[j]? = some s[j] := Array.getElem?_eq_getElem hk
    rw [this] at hb
    cases hb
    exact decide_eq_true ⟨h1, h2⟩
  · exact h j b (by omega) hb
theorem upto_full {s : ByteArray} {k : Nat} (hk : ¬ k < s.size) (h : Upto s k) : s.data.toList.all okB = true := by
  rw [List.all_eq_true]
  intro b hb
  obtain ⟨j, hj⟩ := List.mem_iff_getElem?.1 hb
  rw [Array.getElem?_toList] at hj
  have hlt := (Array.getElem?_eq_some_iff.1 hj).1
  have h4 : s.size = s.data.size := rfl
  exact h j b (by omega) hj
theorem upto_bad {s : ByteArray} {k : Nat} (hk : k < s.size) (h : ¬ (32 ≤ s[k].toNat ∧ s[k].toNat ≤ 126)) : s.data.toList.all okB = false := by
  rw [List.all_eq_false]
  refine ⟨s[k], ?_, ?_⟩
  · have : s.data[k]? = some s[k] := Array.getElem?_eq_getElem hk
    rw [← Array.getElem?_toList] at this
    exact List.mem_of_getElem? this
  · unfold okB
    rw [decide_eq_false h]
    decide
set_option maxHeartbeats 1000000 in
theorem text_any (s : ByteArray) (w : World) : Calls Try.prog 44 #[.string s] w fun e w' => e = .returned (.bool (textOk s)) ∧ ∃ q, w' = w.drewN q := by
  by_cases h60 : s.size ≤ 60
  · have hn : ¬ ((s.size : Int) > 60) := by omega
    have HT : Kept (textOk s = s.data.toList.all okB) := ⟨by unfold textOk; rw [decide_eq_true h60, Bool.true_and]⟩
    go_enter Try.func44, Try.ntmps44
    go_wp2
    go_loopw [9] (fun i wr => ∃ k : Nat, k ≤ s.size ∧ i = .int .i64 (k : Int) ∧ Kept (Upto s k) ∧ ∃ q, wr = w.drewN q) (fun i _ => s.size - (intOf i).toNat)
    case atStart => exact ⟨0, Nat.zero_le _, rfl, ⟨upto_zero s⟩, 0, rfl⟩
    case round =>
      obtain ⟨k, hk, rfl, hall, q, rfl⟩ := hrel
      by_cases hlt : k < s.size
      · have hkn : (k : Int) < (s.size : Int) := by omega
        by_cases h1 : 32 ≤ s[k].toNat
        · by_cases h2 : s[k].toNat ≤ 126
          · have HU : Kept (Upto s (k + 1)) := ⟨upto_step hlt hall.out h1 h2⟩
            have e1 : ¬ ((s[k].toNat : Int) < 32) := by omega
            have e2 : ¬ ((s[k].toNat : Int) > 126) := by omega
            clear h1 h2
            go_wp2
            go_roundw
            case rel => exact ⟨k + 1, by omega, by go_num, HU, q, rfl⟩
            case measure => simp [intOf]; omega
          · have HF : Kept (s.data.toList.all okB = false) := ⟨upto_bad hlt (fun h => h2 h.2)⟩
            have e1 : ¬ ((s[k].toNat : Int) < 32) := by omega
            have e2 : ((s[k].toNat : Int) > 126) := by omega
            clear h1 h2
            go_wp2
            go_ret
            exact ⟨ret_bool (HT.out.trans HF.out).symm, q, rfl⟩
        · have HF : Kept (s.data.toList.all okB = false) := ⟨upto_bad hlt (fun h => h1 h.1)⟩
          have e1 : ((s[k].toNat : Int) < 32) := by omega
          clear h1
          go_wp2
          go_ret
          exact ⟨ret_bool (HT.out.trans HF.out).symm, q, rfl⟩
      · have hkn : ¬ ((k : Int) < (s.size : Int)) := by omega
        have HF : Kept (s.data.toList.all okB = true) := ⟨upto_full hlt hall.out⟩
        go_wp2
        go_ret
        exact ⟨ret_bool (HT.out.trans HF.out).symm, q, rfl⟩
  · have hn : ((s.size : Int) > 60) := by omega
    have HT : Kept (textOk s = false) := ⟨by unfold textOk; rw [decide_eq_false h60, Bool.false_and]⟩
    go_enter Try.func44, Try.ntmps44
    go_wp2
    go_ret
    exact ⟨ret_bool HT.out.symm, 0, rfl⟩
set_option maxHeartbeats 1000000 in
theorem rtext_any (s : ByteArray) (w : World) (hs : s.size ≤ 9223372036854775807) : Calls Try.prog 46 #[.string s] w fun e w' => e = .returned (.bool (textOk s)) ∧ ∃ q, w' = w.drewN q := by
  have HB : Kept (s.data.toList.all okB = false → textOk s = false) := ⟨fun h => by unfold textOk; rw [h, Bool.and_false]⟩
  have HG : Kept (s.data.toList.all okB = true → textOk s = decide (s.size ≤ 60)) := ⟨fun h => by unfold textOk; rw [h, Bool.and_true]⟩
  go_enter Try.func46, Try.ntmps46
  go_wp2
  go_loopw [3] (fun i wr => ∃ k : Nat, k ≤ s.size ∧ i = .int .i64 (k : Int) ∧ Kept (Upto s k) ∧ ∃ q, wr = w.drewN q) (fun i _ => s.size - (intOf i).toNat)
  case atStart => exact ⟨0, Nat.zero_le _, rfl, ⟨upto_zero s⟩, 0, rfl⟩
  case round =>
    obtain ⟨k, hk, rfl, hall, q, rfl⟩ := hrel
    by_cases hlt : k < s.size
    · have hkn : (k : Int) < (s.size : Int) := by omega
      by_cases h1 : 32 ≤ s[k].toNat
      · by_cases h2 : s[k].toNat ≤ 126
        · have HU : Kept (Upto s (k + 1)) := ⟨upto_step hlt hall.out h1 h2⟩
          have e1 : ¬ ((s[k].toNat : Int) < 32) := by omega
          have e2 : ¬ ((s[k].toNat : Int) > 126) := by omega
          clear h1 h2
          go_wp2
          go_roundw
          case rel => exact ⟨k + 1, by omega, by go_num, HU, q, rfl⟩
          case measure => simp [intOf]; omega
        · have HF : Kept (s.data.toList.all okB = false) := ⟨upto_bad hlt (fun h => h2 h.2)⟩
          have e1 : ¬ ((s[k].toNat : Int) < 32) := by omega
          have e2 : ((s[k].toNat : Int) > 126) := by omega
          clear h1 h2
          go_wp2
          go_ret
          exact ⟨ret_bool (HB.out HF.out).symm, q, rfl⟩
      · have HF : Kept (s.data.toList.all okB = false) := ⟨upto_bad hlt (fun h => h1 h.1)⟩
        have e1 : ((s[k].toNat : Int) < 32) := by omega
        clear h1
        go_wp2
        go_ret
        exact ⟨ret_bool (HB.out HF.out).symm, q, rfl⟩
    · have hkn : ¬ ((k : Int) < (s.size : Int)) := by omega
      have HF : Kept (s.data.toList.all okB = true) := ⟨upto_full hlt hall.out⟩
      by_cases h60 : s.size ≤ 60
      · have hn : ((s.size : Int) ≤ 60) := by omega
        have HT : Kept (textOk s = true) := ⟨(HG.out HF.out).trans (decide_eq_true h60)⟩
        clear h60
        go_wp2
        go_ret
        exact ⟨ret_bool HT.out.symm, q, rfl⟩
      · have hn : ¬ ((s.size : Int) ≤ 60) := by omega
        have HT : Kept (textOk s = false) := ⟨(HG.out HF.out).trans (decide_eq_false h60)⟩
        clear h60
        go_wp2
        go_ret
        exact ⟨ret_bool HT.out.symm, q, rfl⟩
end Go.Proofs.Ytmfclekjojninaa.Card
