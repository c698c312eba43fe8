/- Lines and cards compared: the walks of card.sameLine, Same, All, and of the reference. -/
import Derived.Test.YtijdkbejlaebhaaTextsEq
namespace Go.Proofs.Ytijdkbejlaebhaa.Card
open Go.RowKit Go.Proofs.Ytijdkbejlaebhaa.Mem

theorem below_next {w w1 w2 : World} (h : Below w.heap.size w w1) (h2 : Below w1.heap.size w1 w2) : Below w.heap.size w w2 := h.trans (h2.mono h.size)
theorem below_new {w w1 : World} (h : Below w.heap.size w w1) (o : Obj) : Below w.heap.size w (w1.alloc o) := h.alloc h.size o
theorem line_p {x y : LineM} : x.p = y.p ↔ x.f = y.f ∧ x.t = y.t ∧ x.m = y.m := by
  unfold LineM.p
  simp only [Prod.mk.injEq]
theorem int_beq (a b : Nat) : ((a : Int) == (b : Int)) = decide (a = b) := by
  by_cases h : a = b
  · subst h; simp
  · rw [decide_eq_false h]; exact beq_eq_false_iff_ne.2 (by omega)
theorem sameLine_any (x y : LineM) (w : World) (hx : x.Ok w w.heap.size) (hy : y.Ok w w.heap.size) :
    Calls Try.prog 117 #[x.val, y.val] w fun e w' => e = .returned (.bool (decide (x.p = y.p))) ∧ Below w.heap.size w w' := by
  obtain ⟨hx1, hx2, hx3, hx4⟩ := hx
  obtain ⟨hy1, hy2, hy3, hy4⟩ := hy
  have HT := kept (fun (W : World) (hb : Below w.heap.size w W) => sequal_any w.heap.size w.heap.size x.A y.A x.m.length y.m.length x.c y.c x.m y.m W rfl rfl (hx1.below hb) (hy1.below hb) (by omega))
  have hi := int_beq x.f y.f
  have hs := str_beq x.t y.t
  have HP := kept (line_p (x := x) (y := y))
  unfold LineM.val
  by_cases h1 : x.f = y.f
  · rw [decide_eq_true h1] at hi
    by_cases h2 : x.t = y.t
    · rw [decide_eq_true h2] at hs
      have HF : Kept (decide (x.p = y.p) = decide (x.m = y.m)) := ⟨by
        by_cases h3 : x.m = y.m
        · rw [decide_eq_true h3, decide_eq_true (HP.out.2 ⟨h1, h2, h3⟩)]
        · rw [decide_eq_false h3, decide_eq_false (fun e => h3 (HP.out.1 e).2.2)]⟩
      clear hx1 hy1 h1 h2 HP
      go_enter Try.func117, Try.ntmps117
      go_wp2_with fail
      refine (HT.out _ (((Below.refl _ _).alloc (Nat.le_refl _) _).alloc (by simp) _)).mono ?_
      rintro e w' ⟨rfl, q, rfl⟩
      go_wp2
      go_ret
      exact ⟨ret_bool HF.out.symm, below_drewN (((Below.refl _ _).alloc (Nat.le_refl _) _).alloc (by simp) _) q⟩
    · rw [decide_eq_false h2] at hs
      have HF : Kept (decide (x.p = y.p) = false) := ⟨decide_eq_false (fun e => h2 (HP.out.1 e).2.1)⟩
      clear hx1 hy1 h1 h2 HP HT
      go_enter Try.func117, Try.ntmps117
      go_wp2
      go_ret
      exact ⟨ret_bool HF.out.symm, ((Below.refl _ _).alloc (Nat.le_refl _) _).alloc (by simp) _⟩
  · rw [decide_eq_false h1] at hi
    have HF : Kept (decide (x.p = y.p) = false) := ⟨decide_eq_false (fun e => h1 (HP.out.1 e).1)⟩
    clear hx1 hy1 h1 HP HT
    go_enter Try.func117, Try.ntmps117
    go_wp2
    go_ret
    exact ⟨ret_bool HF.out.symm, ((Below.refl _ _).alloc (Nat.le_refl _) _).alloc (by simp) _⟩
theorem take_map {α β : Type} (f : α → β) (l : List α) (k : Nat) (x : α) (h : l[k]? = some x) : (l.take (k + 1)).map f = (l.take k).map f ++ [f x] := by
  obtain ⟨hk, rfl⟩ := List.getElem?_eq_some_iff.1 h
  rw [List.take_succ_eq_append_getElem hk, List.map_append]; rfl
theorem eqLines_any (X Y : Option Addr) (n m c c' : Nat) (a b : List LineM) (w : World) (hn : n = a.length) (hm : m = b.length) (h1 : RdLines w w.heap.size X a) (h2 : RdLines w w.heap.size Y b) (hsz : a.length ≤ 9223372036854775807) :
    Calls Try.prog 116 #[.slice X n c, .slice Y m c', .func (.func 117) #[] #[]] w fun e w' => e = .returned (.bool (decide (a.map LineM.p = b.map LineM.p))) ∧ Below w.heap.size w w' := by
  subst hn hm
  by_cases hl : a.length = b.length
  · have hne : ((a.length : Int) != (b.length : Int)) = false := by simp; omega
    have HL := kept hl
    clear hl
    go_enter Try.func116, Try.ntmps116
    go_wp2
    go_loopw [17] (fun i wr => ∃ k : Nat, k ≤ a.length ∧ i = .int .i64 (k : Int) ∧ Kept ((a.take k).map LineM.p = (b.take k).map LineM.p) ∧ Below w.heap.size w wr) (fun i _ => a.length - (intOf i).toNat)
    case atStart => exact ⟨0, Nat.zero_le _, rfl, ⟨rfl⟩, Below.refl _ _⟩
    case round =>
      obtain ⟨k, hk, rfl, ht, hb⟩ := hrel
      by_cases hlt : k < a.length
      · have hlt2 : k < b.length := by rw [← HL.out]; exact hlt
        obtain ⟨x, hx⟩ : ∃ x, a[k]? = some x := ⟨_, List.getElem?_eq_getElem hlt⟩
        obtain ⟨y, hy⟩ : ∃ y, b[k]? = some y := ⟨_, List.getElem?_eq_getElem hlt2⟩
        obtain ⟨b1, o1, rfl, hb1, hx1, hx2, hx3, hxo⟩ := (h1.below hb).at_ hx
        obtain ⟨b2, o2, rfl, hb2, hy1, hy2, hy3, hyo⟩ := (h2.below hb).at_ hy
        have hsw := hb.size
        have hcc := fun W (hB : Below w.heap.size wr W) => sameLine_any x y W ((hxo.keep (fun _ hp => hB.cell hp)).more (Nat.le_trans hsw hB.size)) ((hyo.keep (fun _ hp => hB.cell hp)).more (Nat.le_trans hsw hB.size))
        have HX := kept (take_map LineM.p a k x hx)
        have HY := kept (take_map LineM.p b k y hy)
        have hb1' : b1 < wr.heap.size := by omega
        have hb2' : b2 < wr.heap.size := by omega
        by_cases hp : x.p = y.p
        · have ht2 : Kept ((a.take (k + 1)).map LineM.p = (b.take (k + 1)).map LineM.p) := ⟨by rw [HX.out, HY.out, ht.out, hp]⟩
          rw [decide_eq_true hp] at hcc
          have HC := kept hcc
          clear hx hy ht hp hcc
          go_wp2_with fail
          refine (HC.out _ (((Below.refl _ _).alloc hsw _).alloc (by simp; omega) _)).mono ?_
          rintro e w1 ⟨rfl, hw1⟩
          go_wp2
          go_roundw
          case rel => exact ⟨k + 1, by omega, by go_num, ht2, ((hb.alloc hsw _).alloc (by simp; omega) _).trans (hw1.mono (by simp; omega))⟩
          case measure => simp [intOf]; omega
        · have HF : Kept (decide (a.map LineM.p = b.map LineM.p) = false) := ⟨decide_eq_false (fun e => hp (by
            have e1 : (a.map LineM.p)[k]? = some x.p := by rw [List.getElem?_map, hx]; rfl
            have e2 : (b.map LineM.p)[k]? = some y.p := by rw [List.getElem?_map, hy]; rfl
            rw [e, e2] at e1
            exact (Option.some.inj e1).symm))⟩
          rw [decide_eq_false hp] at hcc
          have HC := kept hcc
          clear hx hy ht hp hcc
          go_wp2_with fail
          refine (HC.out _ (((Below.refl _ _).alloc hsw _).alloc (by simp; omega) _)).mono ?_
          rintro e w1 ⟨rfl, hw1⟩
          go_wp2
          go_ret
          exact ⟨ret_bool HF.out.symm, ((hb.alloc hsw _).alloc (by simp; omega) _).trans (hw1.mono (by simp; omega))⟩
      · have HF : Kept (decide (a.map LineM.p = b.map LineM.p) = true) := ⟨by
          have e1 : a.take k = a := List.take_of_length_le (by omega)
          have e2 : b.take k = b := List.take_of_length_le (by rw [← HL.out]; omega)
          have := ht.out
          rw [e1, e2] at this
          exact decide_eq_true this⟩
        clear ht
        go_wp2
        go_ret
        exact ⟨ret_bool HF.out.symm, hb⟩
  · have hne : ((a.length : Int) != (b.length : Int)) = true := by simp; omega
    have HF : Kept (decide (a.map LineM.p = b.map LineM.p) = false) := ⟨decide_eq_false (fun e => hl (by simpa using congrArg List.length e))⟩
    clear hl
    go_enter Try.func116, Try.ntmps116
    go_wp2
    go_ret
    exact ⟨ret_bool HF.out.symm, Below.refl _ _⟩
theorem card_p {x y : CardM} : x.p = y.p ↔ x.cid = y.cid ∧ x.ls.map LineM.p = y.ls.map LineM.p := by
  unfold CardM.p
  simp only [Prod.mk.injEq]
theorem same_any (x y : CardM) (w : World) (hx : x.Ok w w.heap.size) (hy : y.Ok w w.heap.size) :
    Calls Try.prog 36 #[x.val, y.val] w fun e w' => e = .returned (.bool (decide (x.p = y.p))) ∧ Below w.heap.size w w' := by
  obtain ⟨hx1, hx2, hx3, hx4⟩ := hx
  obtain ⟨hy1, hy2, hy3, hy4⟩ := hy
  have HT := kept (fun (W : World) (hb : Below w.heap.size w W) => eqLines_any x.X y.X x.ls.length y.ls.length x.c y.c x.ls y.ls W rfl rfl (hx2.next hb) (hy2.next hb) (by omega))
  have hi := int_beq x.cid y.cid
  have HP := kept (card_p (x := x) (y := y))
  have hb2 : ∀ o p : Obj, Below w.heap.size w ((w.alloc o).alloc p) := fun o p => ((Below.refl _ _).alloc (Nat.le_refl _) _).alloc (by simp) _
  have HB := kept hb2
  clear hb2
  unfold CardM.val
  by_cases h1 : x.cid = y.cid
  · rw [decide_eq_true h1] at hi
    have HF : Kept (decide (x.p = y.p) = decide (x.ls.map LineM.p = y.ls.map LineM.p)) := ⟨by
      by_cases h3 : x.ls.map LineM.p = y.ls.map LineM.p
      · rw [decide_eq_true h3, decide_eq_true (HP.out.2 ⟨h1, h3⟩)]
      · rw [decide_eq_false h3, decide_eq_false (fun e => h3 (HP.out.1 e).2)]⟩
    clear hx1 hy1 h1 HP
    go_enter Try.func36, Try.ntmps36
    go_wp2_with fail
    refine (HT.out _ (HB.out _ _)).mono ?_
    rintro e w' ⟨rfl, hw⟩
    go_wp2
    go_ret
    exact ⟨ret_bool HF.out.symm, below_next (HB.out _ _) hw⟩
  · rw [decide_eq_false h1] at hi
    have HF : Kept (decide (x.p = y.p) = false) := ⟨decide_eq_false (fun e => h1 (HP.out.1 e).1)⟩
    clear hx1 hy1 h1 HP HT
    go_enter Try.func36, Try.ntmps36
    go_wp2
    go_ret
    exact ⟨ret_bool HF.out.symm, HB.out _ _⟩
theorem eqCards_any (X Y : Option Addr) (n m c c' : Nat) (a b : List CardM) (w : World) (hn : n = a.length) (hm : m = b.length) (h1 : RdCards w w.heap.size X a) (h2 : RdCards w w.heap.size Y b) (hsz : a.length ≤ 9223372036854775807) :
    Calls Try.prog 118 #[.slice X n c, .slice Y m c', .func (.func 36) #[] #[]] w fun e w' => e = .returned (.bool (decide (a.map CardM.p = b.map CardM.p))) ∧ Below w.heap.size w w' := by
  subst hn hm
  by_cases hl : a.length = b.length
  · have hne : ((a.length : Int) != (b.length : Int)) = false := by simp; omega
    have HL := kept hl
    clear hl
    go_enter Try.func118, Try.ntmps118
    go_wp2
    go_loopw [17] (fun i wr => ∃ k : Nat, k ≤ a.length ∧ i = .int .i64 (k : Int) ∧ Kept ((a.take k).map CardM.p = (b.take k).map CardM.p) ∧ Below w.heap.size w wr) (fun i _ => a.length - (intOf i).toNat)
    case atStart => exact ⟨0, Nat.zero_le _, rfl, ⟨rfl⟩, Below.refl _ _⟩
    case round =>
      obtain ⟨k, hk, rfl, ht, hb⟩ := hrel
      by_cases hlt : k < a.length
      · have hlt2 : k < b.length := by rw [← HL.out]; exact hlt
        obtain ⟨x, hx⟩ : ∃ x, a[k]? = some x := ⟨_, List.getElem?_eq_getElem hlt⟩
        obtain ⟨y, hy⟩ : ∃ y, b[k]? = some y := ⟨_, List.getElem?_eq_getElem hlt2⟩
        obtain ⟨b1, o1, rfl, hb1, hx1, hx2, hxo⟩ := (h1.below hb).at_ hx
        obtain ⟨b2, o2, rfl, hb2, hy1, hy2, hyo⟩ := (h2.below hb).at_ hy
        have hsw := hb.size
        have hcc := fun W (hB : Below w.heap.size wr W) => same_any x y W ((hxo.keep (fun _ hp => hB.cell hp)).more (Nat.le_trans hsw hB.size)) ((hyo.keep (fun _ hp => hB.cell hp)).more (Nat.le_trans hsw hB.size))
        have HX := kept (take_map CardM.p a k x hx)
        have HY := kept (take_map CardM.p b k y hy)
        have hb1' : b1 < wr.heap.size := by omega
        have hb2' : b2 < wr.heap.size := by omega
        by_cases hp : x.p = y.p
        · have ht2 : Kept ((a.take (k + 1)).map CardM.p = (b.take (k + 1)).map CardM.p) := ⟨by rw [HX.out, HY.out, ht.out, hp]⟩
          rw [decide_eq_true hp] at hcc
          have HC := kept hcc
          clear hx hy ht hp hcc
          go_wp2_with fail
          refine (HC.out _ (((Below.refl _ _).alloc hsw _).alloc (by simp; omega) _)).mono ?_
          rintro e w1 ⟨rfl, hw1⟩
          go_wp2
          go_roundw
          case rel => exact ⟨k + 1, by omega, by go_num, ht2, ((hb.alloc hsw _).alloc (by simp; omega) _).trans (hw1.mono (by simp; omega))⟩
          case measure => simp [intOf]; omega
        · have HF : Kept (decide (a.map CardM.p = b.map CardM.p) = false) := ⟨decide_eq_false (fun e => hp (by
            have e1 : (a.map CardM.p)[k]? = some x.p := by rw [List.getElem?_map, hx]; rfl
            have e2 : (b.map CardM.p)[k]? = some y.p := by rw [List.getElem?_map, hy]; rfl
            rw [e, e2] at e1
            exact (Option.some.inj e1).symm))⟩
          rw [decide_eq_false hp] at hcc
          have HC := kept hcc
          clear hx hy ht hp hcc
          go_wp2_with fail
          refine (HC.out _ (((Below.refl _ _).alloc hsw _).alloc (by simp; omega) _)).mono ?_
          rintro e w1 ⟨rfl, hw1⟩
          go_wp2
          go_ret
          exact ⟨ret_bool HF.out.symm, ((hb.alloc hsw _).alloc (by simp; omega) _).trans (hw1.mono (by simp; omega))⟩
      · have HF : Kept (decide (a.map CardM.p = b.map CardM.p) = true) := ⟨by
          have e1 : a.take k = a := List.take_of_length_le (by omega)
          have e2 : b.take k = b := List.take_of_length_le (by rw [← HL.out]; omega)
          have := ht.out
          rw [e1, e2] at this
          exact decide_eq_true this⟩
        clear ht
        go_wp2
        go_ret
        exact ⟨ret_bool HF.out.symm, hb⟩
  · have hne : ((a.length : Int) != (b.length : Int)) = true := by simp; omega
    have HF : Kept (decide (a.map CardM.p = b.map CardM.p) = false) := ⟨decide_eq_false (fun e => hl (by simpa using congrArg List.length e))⟩
    clear hl
    go_enter Try.func118, Try.ntmps118
    go_wp2
    go_ret
    exact ⟨ret_bool HF.out.symm, Below.refl _ _⟩
theorem all_any (X Y : Option Addr) (n m c c' : Nat) (a b : List CardM) (w : World) (hn : n = a.length) (hm : m = b.length) (h1 : RdCards w w.heap.size X a) (h2 : RdCards w w.heap.size Y b) (hsz : a.length ≤ 9223372036854775807) :
    Calls Try.prog 38 #[.slice X n c, .slice Y m c'] w fun e w' => e = .returned (.bool (decide (a.map CardM.p = b.map CardM.p))) ∧ Below w.heap.size w w' := by
  have HC := kept (eqCards_any X Y n m c c' a b w hn hm h1 h2 hsz)
  clear hn hm
  go_enter Try.func38, Try.ntmps38
  go_wp2_with fail
  refine HC.out.mono ?_
  rintro e w' ⟨rfl, hw⟩
  go_wp2
  go_ret
  exact ⟨rfl, hw⟩
end Go.Proofs.Ytijdkbejlaebhaa.Card
