import Derived.Test.YtnmcclkpgbdenaaSet10
import Derived.Test.YtnmcclkpgbdenaaSet4
import Derived.Deep.QuietTactic
import Derived.BigQuiet
/- Whether a line, and a card, may be. -/
namespace Go.Proofs.Ytnmcclkpgbdenaa.Card
open Go.RowKit Go.Proofs.Ytnmcclkpgbdenaa.Mem Go.Proofs.Ytnmcclkpgbdenaa.Shift

/-- the other text at a place may stand there -/
def moreAt (t : ByteArray) (m : List ByteArray) (k : Nat) : Bool :=
  textOk (m.getD k ByteArray.empty) && (!((m.getD k ByteArray.empty).toList == t.toList) && (k == 0 || Op.bytesLess (m.getD (k - 1) ByteArray.empty).toList (m.getD k ByteArray.empty).toList))
def moreOk (t : ByteArray) (m : List ByteArray) : Bool := (List.range m.length).all (moreAt t m)
def MoreUp (t : ByteArray) (m : List ByteArray) (k : Nat) : Prop := ∀ i, i < k → moreAt t m i = true
theorem moreUp_zero (t : ByteArray) (m : List ByteArray) : MoreUp t m 0 := fun _ h => absurd h (Nat.not_lt_zero _)
theorem moreUp_step {t : ByteArray} {m : List ByteArray} {k : Nat} (h : MoreUp t m k) (h1 : moreAt t m k = true) : MoreUp t m (k + 1) := fun i hi => by
  by_cases e : i = k
  · rw [e]; exact h1
  · exact h i (by omega)
theorem more_full {t : ByteArray} {m : List ByteArray} {k : Nat} (hk : ¬ k < m.length) (h : MoreUp t m k) : moreOk t m = true := by
  unfold moreOk
  rw [List.all_eq_true]
  intro i hi
  exact h i (by have := List.mem_range.1 hi; omega)
theorem more_bad {t : ByteArray} {m : List ByteArray} {k : Nat} (hk : k < m.length) (h : moreAt t m k = false) : moreOk t m = false := by
  unfold moreOk
  rw [List.all_eq_false]
  exact ⟨k, List.mem_range.2 hk, by rw [h]; decide⟩
def lineGood (f : Nat) (t : ByteArray) (m : List ByteArray) : Bool := moreOk t m && (decide (1 ≤ f ∧ f ≤ 5) && textOk t)
set_option maxHeartbeats 4000000 in
theorem cline_any (x : LineM) (w : World) (hx : x.Ok w w.heap.size) :
    Calls Try.prog 67 #[x.val] w fun e w' => e = .returned (.bool (lineGood x.f x.t x.m)) ∧ Below w.heap.size w w' := by
  obtain ⟨xf, xt, xA, xm, xc⟩ := x
  obtain ⟨hx1, hx2, hx3, hx4⟩ := hx
  dsimp only at hx1 hx2 hx3 hx4 ⊢
  have k0 := Blk.new w [.int .u8 (xf : Int), .string xt, .slice xA xm.length xc] 41
  have hb0 := (Below.refl w.heap.size w).alloc (Nat.le_refl _) (.cells #[.int .u8 (xf : Int), .string xt, .slice xA xm.length xc] 41)
  have LG : Kept (moreOk xt xm = false → lineGood xf xt xm = false) := ⟨fun h => by unfold lineGood; rw [h, Bool.false_and]⟩
  have LT : Kept (moreOk xt xm = true → lineGood xf xt xm = (decide (1 ≤ xf ∧ xf ≤ 5) && textOk xt)) := ⟨fun h => by unfold lineGood; rw [h, Bool.true_and]⟩
  unfold LineM.val
  go_enter Try.func67, Try.ntmps67
  go_upto_region 1 with fail
  obtain ⟨w1, hw1⟩ : ∃ w1, w.alloc (.cells #[.int .u8 (xf : Int), .string xt, .slice xA xm.length xc] 41) = w1 := ⟨_, rfl⟩
  have k1 : Blk w1 w.heap.size [.int .u8 (xf : Int), .string xt, .slice xA xm.length xc] 41 := by rw [← hw1]; exact k0
  have hb1 : Below w.heap.size w w1 := by rw [← hw1]; exact hb0
  rw [hw1]
  clear hw1 k0 hb0
  have c0 := k1.cell (j := 0) rfl
  have c1 := k1.cell (j := 1) rfl
  have c2 := k1.cell (j := 2) rfl
  have hr := hx1.next hb1
  have HB1 : Kept (∀ q, Below w.heap.size w (w1.drewN q)) := ⟨fun q => below_next hb1 (below_draw _ w1 q)⟩
  clear hb1 k1 hx1
  go_wp2
  go_loopw [8] (fun i wr => ∃ k : Nat, k ≤ xm.length ∧ i = .int .i64 (k : Int) ∧ Kept (MoreUp xt xm k) ∧ ∃ q, wr = w1.drewN q) (fun i _ => xm.length - (intOf i).toNat)
  case atStart => exact ⟨0, Nat.zero_le _, rfl, ⟨moreUp_zero xt xm⟩, 0, rfl⟩
  case round =>
    obtain ⟨k, hk, rfl, hup, q, rfl⟩ := hrel
    by_cases hlt : k < xm.length
    · have hkn : (k : Int) < (xm.length : Int) := by omega
      have HST : Kept (moreAt xt xm k = true → MoreUp xt xm (k + 1)) := ⟨fun h => moreUp_step hup.out h⟩
      have HBD : Kept (moreAt xt xm k = false → lineGood xf xt xm = false) := ⟨fun h => LG.out (more_bad hlt h)⟩
      have MA : Kept (moreAt xt xm k = (textOk (xm.getD k ByteArray.empty) && (!((xm.getD k ByteArray.empty).toList == xt.toList) && (k == 0 || Op.bytesLess (xm.getD (k - 1) ByteArray.empty).toList (xm.getD k ByteArray.empty).toList)))) := ⟨rfl⟩
      have hc0 := hr.at_ (SB_get xm (k - 1) (by omega))
      obtain ⟨b1, o1, rfl, hb1, hc1⟩ := hr.at_ (SB_get xm k hlt)
      obtain ⟨b2, o2, hbo, _, hc2⟩ := hc0
      injection hbo with hbo
      injection hbo with hbb hoo _
      subst hbb hoo
      generalize xm.getD k ByteArray.empty = y at *
      generalize xm.getD (k - 1) ByteArray.empty = p at *
      clear hup hr
      go_wp2_with fail
      refine (text_any y _).mono ?_
      rintro e _ ⟨rfl, q2, rfl⟩
      cases h1 : textOk y with
      | false =>
        have HF : Kept (lineGood xf xt xm = false) := ⟨HBD.out (by rw [MA.out, h1, Bool.false_and])⟩
        clear h1
        go_wp2
        go_ret
        refine ⟨ret_bool HF.out.symm, ?_⟩
        exact HB1.out _
      | true =>
        cases h2 : y.toList == xt.toList with
        | true =>
          have HF : Kept (lineGood xf xt xm = false) := ⟨HBD.out (by rw [MA.out, h1, h2]; rfl)⟩
          clear h1
          go_wp2
          go_ret
          refine ⟨ret_bool HF.out.symm, ?_⟩
          exact HB1.out _
        | false =>
          by_cases hk0 : k = 0
          · have HU : Kept (MoreUp xt xm (k + 1)) := ⟨HST.out (by rw [MA.out, h1, h2, hk0]; rfl)⟩
            have h3 : ¬ ((k : Int) > 0) := by omega
            clear h1 hk0
            go_wp2
            go_roundw
            case rel => exact ⟨k + 1, by omega, by go_num, HU, _, rfl⟩
            case measure => simp [intOf]; omega
          · have h3 : ((k : Int) > 0) := by omega
            have h4 : ((k : Int) - 1) = ((k - 1 : Nat) : Int) := by omega
            have hk1 : (k == 0) = false := by simpa using hk0
            cases h5 : Op.bytesLess p.toList y.toList with
            | true =>
              have HU : Kept (MoreUp xt xm (k + 1)) := ⟨HST.out (by rw [MA.out, h1, h2, hk1, h5]; rfl)⟩
              clear h1 hk1
              go_wp2
              go_roundw
              case rel => exact ⟨k + 1, by omega, by go_num, HU, _, rfl⟩
              case measure => simp [intOf]; omega
            | false =>
              have HF : Kept (lineGood xf xt xm = false) := ⟨HBD.out (by rw [MA.out, h1, h2, hk1, h5]; rfl)⟩
              clear h1 hk1
              go_wp2
              go_ret
              refine ⟨ret_bool HF.out.symm, ?_⟩
              exact HB1.out _
    · have hkn : ¬ ((k : Int) < (xm.length : Int)) := by omega
      have HG := kept (LT.out (more_full hlt hup.out))
      clear hup
      go_wp2_with fail
      refine (fgood_any xf _).mono ?_
      rintro e _ ⟨rfl, q2, rfl⟩
      obtain ⟨u, hu⟩ : ∃ u, decide (1 ≤ xf ∧ xf ≤ 5) = u := ⟨_, rfl⟩
      rw [hu]
      cases u with
      | false =>
        have HF : Kept (lineGood xf xt xm = false) := ⟨by rw [HG.out, hu, Bool.false_and]⟩
        clear hu
        go_wp2
        go_ret
        refine ⟨ret_bool HF.out.symm, ?_⟩
        exact HB1.out _
      | true =>
        have HF : Kept (lineGood xf xt xm = textOk xt) := ⟨by rw [HG.out, hu, Bool.true_and]⟩
        clear hu
        go_wp2_with fail
        refine (text_any xt _).mono ?_
        rintro e _ ⟨rfl, q3, rfl⟩
        go_wp2
        go_ret
        refine ⟨ret_bool ?_, ?_⟩
        · rw [HF.out]
        · exact HB1.out _
end Go.Proofs.Ytnmcclkpgbdenaa.Card

/- The document's 'more': whether the other texts of a line may stand there. -/
namespace Go.Proofs.Ytnmcclkpgbdenaa.Card
open Go.RowKit Go.Proofs.Ytnmcclkpgbdenaa.Mem Go.Proofs.Ytnmcclkpgbdenaa.Shift

set_option maxHeartbeats 4000000 in
theorem rmore_any (A : Option Addr) (c : Nat) (m : List ByteArray) (t : ByteArray) (w : World) (hr : Rd w w.heap.size A (SB m)) (hm : m.length ≤ 8796093022208) (hs : ∀ y ∈ m, y.size ≤ 9223372036854775807) :
    Calls Try.prog 72 #[.slice A m.length c, .string t] w fun e w' => e = .returned (.bool (moreOk t m)) ∧ ∃ q, w' = w.drewN q := by
  go_enter Try.func72, Try.ntmps72
  go_wp2
  go_loopw [5] (fun i wr => ∃ k : Nat, k ≤ m.length ∧ i = .int .i64 (k : Int) ∧ Kept (MoreUp t m k) ∧ ∃ q, wr = w.drewN q) (fun i _ => m.length - (intOf i).toNat)
  case atStart => exact ⟨0, Nat.zero_le _, rfl, ⟨moreUp_zero t m⟩, 0, rfl⟩
  case round =>
    obtain ⟨k, hk, rfl, hup, q, rfl⟩ := hrel
    by_cases hlt : k < m.length
    · have hkn : (k : Int) < (m.length : Int) := by omega
      have HST : Kept (moreAt t m k = true → MoreUp t m (k + 1)) := ⟨fun h => moreUp_step hup.out h⟩
      have HBD : Kept (moreAt t m k = false → moreOk t m = false) := ⟨fun h => more_bad hlt h⟩
      have MA : Kept (moreAt t m k = (textOk (m.getD k ByteArray.empty) && (!((m.getD k ByteArray.empty).toList == t.toList) && (k == 0 || Op.bytesLess (m.getD (k - 1) ByteArray.empty).toList (m.getD k ByteArray.empty).toList)))) := ⟨rfl⟩
      have hys : (m.getD k ByteArray.empty).size ≤ 9223372036854775807 := by
        have : m.getD k ByteArray.empty = m[k] := by simp [List.getD, hlt]
        rw [this]; exact hs _ (List.getElem_mem _)
      have hc0 := hr.at_ (SB_get m (k - 1) (by omega))
      obtain ⟨b1, o1, rfl, hb1, hc1⟩ := hr.at_ (SB_get m k hlt)
      obtain ⟨b2, o2, hbo, _, hc2⟩ := hc0
      injection hbo with hbo
      injection hbo with hbb hoo _
      subst hbb hoo
      generalize m.getD k ByteArray.empty = y at *
      generalize m.getD (k - 1) ByteArray.empty = p at *
      obtain ⟨wq, hwq⟩ : ∃ wq, w.drewN q = wq := ⟨_, rfl⟩
      have hc1 : wq.cell? ⟨b1, o1 + k, none⟩ = some (.string y) := by rw [← hwq]; exact hc1
      have hc2 : wq.cell? ⟨b1, o1 + (k - 1), none⟩ = some (.string p) := by rw [← hwq]; exact hc2
      rw [hwq]
      have HWQ : Kept (∀ nq, ∃ q', wq.drewN nq = w.drewN q') := ⟨fun nq => ⟨q + nq, by rw [← hwq]; simp⟩⟩
      have HC := kept (fun nd => rtext_any y (wq.drewN nd) hys)
      clear hup hr hs hys hwq
      cases h1 : textOk y with
      | false =>
        have HF : Kept (moreOk t m = false) := ⟨HBD.out (by rw [MA.out, h1, Bool.false_and])⟩
        rw [h1] at HC
        clear h1 MA HST HBD
        go_wp2
        go_quiet ((go_at_call 71; exact Calls.quiet_of (HC.out _)))
        go_wp2
        go_ret
        exact ⟨ret_bool HF.out.symm, HWQ.out nq⟩
      | true =>
        cases h2 : y.toList == t.toList with
        | true =>
          have HF : Kept (moreOk t m = false) := ⟨HBD.out (by rw [MA.out, h1, h2]; rfl)⟩
          rw [h1] at HC
          clear h1 MA HST HBD
          go_wp2
          go_quiet ((go_at_call 71; exact Calls.quiet_of (HC.out _)))
          go_wp2
          go_ret
          exact ⟨ret_bool HF.out.symm, HWQ.out nq⟩
        | false =>
          by_cases hk0 : k = 0
          · have HU : Kept (MoreUp t m (k + 1)) := ⟨HST.out (by rw [MA.out, h1, h2, hk0]; rfl)⟩
            have h3 : ¬ ((k : Int) > 0) := by omega
            have h6 : decide (0 < k) = false := decide_eq_false (by omega)
            rw [h1] at HC
            clear h1 hk0 MA HST HBD
            go_wp2
            go_quiet ((go_at_call 71; exact Calls.quiet_of (HC.out _)))
            go_wp2
            go_roundw
            case rel => exact ⟨k + 1, by omega, by go_num, HU, HWQ.out nq⟩
            case measure => simp [intOf]; omega
          · have h3 : ((k : Int) > 0) := by omega
            have h6 : decide (0 < k) = true := decide_eq_true (by omega)
            have h4 : ((k : Int) - 1) = ((k - 1 : Nat) : Int) := by omega
            have hk1 : (k == 0) = false := by simpa using hk0
            cases h5 : Op.bytesLess p.toList y.toList with
            | true =>
              have HU : Kept (MoreUp t m (k + 1)) := ⟨HST.out (by rw [MA.out, h1, h2, hk1, h5]; rfl)⟩
              rw [h1] at HC
              clear h1 hk1 MA HST HBD
              go_wp2
              go_quiet ((go_at_call 71; exact Calls.quiet_of (HC.out _)))
              go_wp2
              go_roundw
              case rel => exact ⟨k + 1, by omega, by go_num, HU, HWQ.out nq⟩
              case measure => simp [intOf]; omega
            | false =>
              have HF : Kept (moreOk t m = false) := ⟨HBD.out (by rw [MA.out, h1, h2, hk1, h5]; rfl)⟩
              rw [h1] at HC
              clear h1 hk1 MA HST HBD
              go_wp2
              go_quiet ((go_at_call 71; exact Calls.quiet_of (HC.out _)))
              go_wp2
              go_ret
              exact ⟨ret_bool HF.out.symm, HWQ.out nq⟩
    · have hkn : ¬ ((k : Int) < (m.length : Int)) := by omega
      have HG := kept (more_full hlt hup.out)
      clear hup
      go_wp2
      go_ret
      exact ⟨ret_bool HG.out.symm, q, rfl⟩
end Go.Proofs.Ytnmcclkpgbdenaa.Card
