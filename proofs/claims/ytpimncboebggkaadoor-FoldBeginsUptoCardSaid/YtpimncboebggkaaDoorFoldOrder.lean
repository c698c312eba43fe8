/- The laws of layer 43, continued: FoldOrders. -/
import Derived.Test.YtpimncboebggkaaDoorFoldLaws
namespace Go.Proofs.YtpimncboebggkaaDoor.Fold
open Go.RowKit Go.Proofs.YtpimncboebggkaaDoor.Mem Go.Proofs.YtpimncboebggkaaDoor.Card Go.Proofs.YtpimncboebggkaaDoor.Laid
open Go.Lib hiding Kept

theorem less_asymm : ∀ x y : List UInt8, Op.bytesLess x y = true → Op.bytesLess y x = false
  | _, [], h => by simp [Op.bytesLess] at h
  | [], _ :: _, _ => rfl
  | a :: x, b :: y, h => by
    have ih := less_asymm x y
    simp only [Op.bytesLess, Bool.or_eq_true, decide_eq_true_eq, Bool.and_eq_true, beq_iff_eq] at h
    simp only [Op.bytesLess]
    rcases h with h | ⟨h1, h2⟩
    · have h1 : ¬ b < a := by rw [UInt8.lt_iff_toNat_lt] at h ⊢; omega
      have h2 : (b == a) = false := by rw [beq_eq_false_iff_ne]; intro e; subst e; exact UInt8.lt_irrefl b h
      simp [h1, h2]
    · subst h1
      simp [ih h2, UInt8.lt_irrefl]
theorem less_total : ∀ x y : List UInt8, Op.bytesLess x y = false → Op.bytesLess y x = false → x = y
  | [], [], _, _ => rfl
  | [], _ :: _, h, _ => by simp [Op.bytesLess] at h
  | _ :: _, [], _, h => by simp [Op.bytesLess] at h
  | a :: x, b :: y, h, h2 => by
    simp only [Op.bytesLess, Bool.or_eq_false_iff, decide_eq_false_iff_not, Bool.and_eq_false_iff, beq_eq_false_iff_ne] at h h2
    have e : a = b := by
      apply UInt8.toNat_inj.1
      have h3 := h.1
      have h4 := h2.1
      rw [UInt8.lt_iff_toNat_lt] at h3 h4
      omega
    subst e
    have h3 : Op.bytesLess x y = false := by rcases h.2 with h3 | h3; exact absurd rfl h3; exact h3
    have h4 : Op.bytesLess y x = false := by rcases h2.2 with h4 | h4; exact absurd rfl h4; exact h4
    rw [less_total x y h3 h4]
theorem less_trans : ∀ x y z : List UInt8, Op.bytesLess x y = true → Op.bytesLess y z = true → Op.bytesLess x z = true
  | _, [], _, h, _ => by simp [Op.bytesLess] at h
  | _, _ :: _, [], _, h => by simp [Op.bytesLess] at h
  | [], _ :: _, _ :: _, _, _ => rfl
  | a :: x, b :: y, c :: z, h, h2 => by
    have ih := less_trans x y z
    simp only [Op.bytesLess, Bool.or_eq_true, decide_eq_true_eq, Bool.and_eq_true, beq_iff_eq] at h h2 ⊢
    rcases h with h | ⟨rfl, h⟩
    · rcases h2 with h2 | ⟨rfl, h2⟩
      · left; rw [UInt8.lt_iff_toNat_lt] at *; omega
      · exact .inl h
    · rcases h2 with h2 | ⟨rfl, h2⟩
      · exact .inl h2
      · exact .inr ⟨rfl, ih h h2⟩
theorem toList_inj {a b : ByteArray} (h : a.toList = b.toList) : a = b := by
  have := str_beq a b
  rw [h] at this
  simp at this
  exact this
theorem cmpB_cases (a b : ByteArray) : (cmpB a b = -1 ∧ Op.bytesLess a.toList b.toList = true) ∨ (cmpB a b = 0 ∧ a = b) ∨ (cmpB a b = 1 ∧ Op.bytesLess b.toList a.toList = true) := by
  cases h : Op.bytesLess a.toList b.toList with
  | true => exact .inl ⟨cmpB_lt h, rfl⟩
  | false =>
    right
    cases h2 : (a.toList == b.toList) with
    | true => exact .inl ⟨cmpB_eq h h2, toList_inj (beq_iff_eq.1 h2)⟩
    | false =>
      refine .inr ⟨cmpB_gt h h2, ?_⟩
      cases h3 : Op.bytesLess b.toList a.toList with
      | true => rfl
      | false => rw [less_total _ _ h h3] at h2; simp at h2
theorem cmpB_self (a : ByteArray) : cmpB a a = 0 := cmpB_eq (bytesLess_irrefl _) (by simp)
theorem cmpB_neg (a b : ByteArray) : cmpB b a = - cmpB a b := by
  rcases cmpB_cases a b with ⟨h, h2⟩ | ⟨h, rfl⟩ | ⟨h, h2⟩
  · rw [h]
    have h3 := less_asymm _ _ h2
    have h4 : (b.toList == a.toList) = false := by
      rw [beq_eq_false_iff_ne]
      intro e
      rw [e, bytesLess_irrefl] at h2
      cases h2
    rw [cmpB_gt h3 h4]; rfl
  · rw [h]; rfl
  · rw [h, cmpB_lt h2]
theorem cmpB_zero {a b : ByteArray} (h : cmpB a b = 0) : a = b := by
  rcases cmpB_cases a b with ⟨h1, _⟩ | ⟨_, h2⟩ | ⟨h1, _⟩
  · omega
  · exact h2
  · omega
theorem cmpB_trans {a b c : ByteArray} (h : cmpB a b = -1) (h2 : cmpB b c = -1) : cmpB a c = -1 := by
  rcases cmpB_cases a b with ⟨_, h3⟩ | ⟨h1, _⟩ | ⟨h1, _⟩
  · rcases cmpB_cases b c with ⟨_, h4⟩ | ⟨h1, _⟩ | ⟨h1, _⟩
    · exact cmpB_lt (less_trans _ _ _ h3 h4)
    · omega
    · omega
  · omega
  · omega
theorem cmpB_range (a b : ByteArray) : cmpB a b = -1 ∨ cmpB a b = 0 ∨ cmpB a b = 1 := by
  rcases cmpB_cases a b with ⟨h, _⟩ | ⟨h, _⟩ | ⟨h, _⟩
  · exact .inl h
  · exact .inr (.inl h)
  · exact .inr (.inr h)
theorem cmpF_neg (a b : ByteArray) : cmpF b a = - cmpF a b := by
  unfold cmpF or2
  rw [cmpB_neg (foldB a) (foldB b), cmpB_neg a b]
  by_cases h : cmpB (foldB a) (foldB b) = 0
  · rw [if_pos h, if_pos (by omega)]
  · rw [if_neg h, if_neg (by omega)]
theorem cmpF_range (a b : ByteArray) : cmpF a b = -1 ∨ cmpF a b = 0 ∨ cmpF a b = 1 := by
  unfold cmpF or2
  by_cases h : cmpB (foldB a) (foldB b) = 0
  · rw [if_pos h]; exact cmpB_range a b
  · rw [if_neg h]; exact cmpB_range _ _
theorem cmpF_zero {a b : ByteArray} : cmpF a b = 0 ↔ a = b := by
  constructor
  · unfold cmpF or2
    by_cases h : cmpB (foldB a) (foldB b) = 0
    · rw [if_pos h]; exact cmpB_zero
    · rw [if_neg h]; exact fun h2 => absurd h2 h
  · rintro rfl
    unfold cmpF or2
    rw [cmpB_self, cmpB_self]; rfl
theorem cmpF_trans {a b c : ByteArray} (h : cmpF a b = -1) (h2 : cmpF b c = -1) : cmpF a c = -1 := by
  unfold cmpF or2 at *
  by_cases h3 : cmpB (foldB a) (foldB b) = 0
  · have e := cmpB_zero h3
    rw [if_pos h3] at h
    rw [← e] at h2
    by_cases h4 : cmpB (foldB a) (foldB c) = 0
    · rw [if_pos h4] at h2 ⊢; exact cmpB_trans h h2
    · rw [if_neg h4] at h2 ⊢; exact h2
  · rw [if_neg h3] at h
    by_cases h4 : cmpB (foldB b) (foldB c) = 0
    · have e := cmpB_zero h4
      rw [← e, if_neg h3]; exact h
    · rw [if_neg h4] at h2
      have := cmpB_trans h h2
      rw [this]; rfl
theorem foldB_fold (a : ByteArray) : foldB (foldB a) = foldB a := by
  unfold foldB
  rw [data_bOf, fold_fold]
theorem cmpF_fold {a b : ByteArray} (h : foldB b ≠ foldB a) : cmpF (foldB a) (foldB b) = cmpF a b := by
  unfold cmpF or2
  rw [foldB_fold, foldB_fold]
  have : ¬ cmpB (foldB a) (foldB b) = 0 := fun e => h (cmpB_zero e).symm
  rw [if_neg this, if_neg this]
theorem orders_law (a b c : ByteArray) (w : World) (hm : ML w) (ha : a.size ≤ 4294967000) (hb : b.size ≤ 4294967000) (hc : c.size ≤ 4294967000) : Calls Tryd.prog 7 #[.string a, .string b, .string c] w fun e w' => e = .returned (.bool true) ∧ Below w.heap.size w w' := by
  have W0 := kept (fun (W : World) (h : Below w.heap.size w W) => works_any W (hm.next h))
  have hfa : (foldB a).size ≤ 4294967000 := Nat.le_trans (foldB_size a) ha
  have hfb : (foldB b).size ≤ 4294967000 := Nat.le_trans (foldB_size b) hb
  have K1 := kept (fun (W : World) (h : Below w.heap.size w W) => fold_any a W ha (hm.next h))
  have Kab := kept (fun (W : World) (h : Below w.heap.size w W) => cmp_any a b W ha hb (hm.next h))
  have Kba := kept (fun (W : World) (h : Below w.heap.size w W) => cmp_any b a W hb ha (hm.next h))
  have Kbc := kept (fun (W : World) (h : Below w.heap.size w W) => cmp_any b c W hb hc (hm.next h))
  have Kac := kept (fun (W : World) (h : Below w.heap.size w W) => cmp_any a c W ha hc (hm.next h))
  have Kff := kept (fun (W : World) (h : Below w.heap.size w W) => fold_any (foldB a) W hfa (hm.next h))
  have Kfb := kept (fun (W : World) (h : Below w.heap.size w W) => fold_any b W hb (hm.next h))
  have Kfg := kept (fun (W : World) (h : Below w.heap.size w W) => cmp_any (foldB a) (foldB b) W hfa hfb (hm.next h))
  rw [foldB_fold] at Kff
  have hx := cmpF_range a b
  have hz := cmpF_range b c
  have hu := cmpF_range a c
  have T := kept (fun h h2 => cmpF_trans (a := a) (b := b) (c := c) h h2)
  have Z := kept (cmpF_zero (a := a) (b := b))
  have FG := kept (fun h => cmpF_fold (a := a) (b := b) h)
  have hsb := str_beq a b
  have hsf := str_beq (foldB b) (foldB a)
  rw [cmpF_neg a b] at Kba
  generalize cmpF (foldB a) (foldB b) = v at *
  generalize cmpF a b = x at *
  generalize cmpF b c = z at *
  generalize cmpF a c = u at *
  generalize foldB a = f at *
  generalize foldB b = g at *
  have HSF := kept hsf
  clear hsf hfa hfb hm
  go_enter Tryd.func7, Tryd.ntmps7
  go_wp2_with fail
  refine (K1.out _ (Below.refl _ _)).mono ?_
  rintro e w1 ⟨rfl, hb1⟩
  go_upto_region 2 with fail
  go_cut [7, 45] (fun p q wr => p = .string f ∧ q = .bool false ∧ Below w.heap.size w wr)
  case first =>
    rcases hx with rfl | rfl | rfl
    · have hne : ¬ a = b := fun e => absurd (Z.out.2 e) (by decide)
      rw [decide_eq_false hne] at hsb
      clear hne Z HSF FG
      go_wp2_with fail
      refine (Kab.out _ hb1).mono ?_
      rintro e w2 ⟨rfl, hb2⟩
      have hb2 := below_chain hb1 hb2
      go_wp2_with fail
      refine (Kba.out _ hb2).mono ?_
      rintro e w3 ⟨rfl, hb3⟩
      have hb3 := below_chain hb2 hb3
      go_wp2_with fail
      refine (Kab.out _ hb3).mono ?_
      rintro e w4 ⟨rfl, hb4⟩
      have hb4 := below_chain hb3 hb4
      go_wp2_with fail
      refine (Kab.out _ hb4).mono ?_
      rintro e w5 ⟨rfl, hb5⟩
      have hb5 := below_chain hb4 hb5
      go_wp2_with fail
      refine (Kbc.out _ hb5).mono ?_
      rintro e w6 ⟨rfl, hb6⟩
      have hb6 := below_chain hb5 hb6
      rcases hz with rfl | rfl | rfl
      · obtain rfl := T.out (by first | rfl | trivial) (by first | rfl | trivial)
        go_wp2_with fail
        refine (Kac.out _ hb6).mono ?_
        rintro e w7 ⟨rfl, hb7⟩
        have hb7 := below_chain hb6 hb7
        go_wp2_with fail
        go_meet
        exact ⟨rfl, rfl, hb7⟩
      · go_wp2_with fail
        go_meet
        exact ⟨rfl, rfl, hb6⟩
      · go_wp2_with fail
        go_meet
        exact ⟨rfl, rfl, hb6⟩
    · have hne : a = b := Z.out.1 rfl
      rw [decide_eq_true hne] at hsb
      clear hne Z HSF FG
      go_wp2_with fail
      refine (Kab.out _ hb1).mono ?_
      rintro e w2 ⟨rfl, hb2⟩
      have hb2 := below_chain hb1 hb2
      go_wp2_with fail
      refine (Kba.out _ hb2).mono ?_
      rintro e w3 ⟨rfl, hb3⟩
      have hb3 := below_chain hb2 hb3
      go_wp2_with fail
      refine (Kab.out _ hb3).mono ?_
      rintro e w4 ⟨rfl, hb4⟩
      have hb4 := below_chain hb3 hb4
      go_wp2_with fail
      refine (Kab.out _ hb4).mono ?_
      rintro e w5 ⟨rfl, hb5⟩
      have hb5 := below_chain hb4 hb5
      go_wp2_with fail
      go_meet
      exact ⟨rfl, rfl, hb5⟩
    · have hne : ¬ a = b := fun e => absurd (Z.out.2 e) (by decide)
      rw [decide_eq_false hne] at hsb
      clear hne Z HSF FG
      go_wp2_with fail
      refine (Kab.out _ hb1).mono ?_
      rintro e w2 ⟨rfl, hb2⟩
      have hb2 := below_chain hb1 hb2
      go_wp2_with fail
      refine (Kba.out _ hb2).mono ?_
      rintro e w3 ⟨rfl, hb3⟩
      have hb3 := below_chain hb2 hb3
      go_wp2_with fail
      refine (Kab.out _ hb3).mono ?_
      rintro e w4 ⟨rfl, hb4⟩
      have hb4 := below_chain hb3 hb4
      go_wp2_with fail
      refine (Kab.out _ hb4).mono ?_
      rintro e w5 ⟨rfl, hb5⟩
      have hb5 := below_chain hb4 hb5
      go_wp2_with fail
      go_meet
      exact ⟨rfl, rfl, hb5⟩
  case rest =>
    obtain ⟨rfl, rfl, hb1⟩ := hcut
    clear hsb
    go_wp2_with fail
    refine (Kff.out _ hb1).mono ?_
    rintro e w2 ⟨rfl, hb2⟩
    have hb2 := below_chain hb1 hb2
    go_wp2_with fail
    refine (Kfb.out _ hb2).mono ?_
    rintro e w3 ⟨rfl, hb3⟩
    have hb3 := below_chain hb2 hb3
    by_cases hgf : g = f
    · have hsf := HSF.out
      rw [decide_eq_true hgf] at hsf
      clear hgf HSF FG Z
      go_wp2_with fail
      refine (W0.out _ hb3).mono ?_
      rintro e w10 ⟨rfl, hb10⟩
      have hb10 := below_chain hb3 hb10
      go_wp2_with fail
      go_ret
      exact ⟨rfl, hb10⟩
    · have hsf := HSF.out
      rw [decide_eq_false hgf] at hsf
      obtain rfl := FG.out hgf
      clear hgf HSF FG Z
      go_wp2_with fail
      refine (Kab.out _ hb3).mono ?_
      rintro e w4 ⟨rfl, hb4⟩
      have hb4 := below_chain hb3 hb4
      go_wp2_with fail
      refine (Kfb.out _ hb4).mono ?_
      rintro e w5 ⟨rfl, hb5⟩
      have hb5 := below_chain hb4 hb5
      go_wp2_with fail
      refine (Kfg.out _ hb5).mono ?_
      rintro e w6 ⟨rfl, hb6⟩
      have hb6 := below_chain hb5 hb6
      go_wp2_with fail
      refine (W0.out _ hb6).mono ?_
      rintro e w10 ⟨rfl, hb10⟩
      have hb10 := below_chain hb6 hb10
      go_wp2_with fail
      go_ret
      exact ⟨rfl, hb10⟩
end Go.Proofs.YtpimncboebggkaaDoor.Fold
