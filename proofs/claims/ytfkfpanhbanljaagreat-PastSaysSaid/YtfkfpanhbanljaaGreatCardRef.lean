/- Lines and cards compared, continued: the reference's Lines, Same, All. -/
import Derived.Test.YtfkfpanhbanljaaGreatSetR
import Derived.Deep.RegionWith
namespace Go.Proofs.YtfkfpanhbanljaaGreat.Card
open Go.RowKit Go.Proofs.YtfkfpanhbanljaaGreat.Mem

theorem int_bne (a b : Nat) : ((a : Int) != (b : Int)) = !decide (a = b) := by rw [bne, int_beq]
theorem RdLines.drewN {w : World} {B : Nat} {X : Option Addr} {ls : List LineM} (h : RdLines w B X ls) (q : Nat) : RdLines (w.drewN q) B X ls := h.keep fun _ _ => rfl
set_option maxHeartbeats 1000000 in
theorem rlines_any (X Y : Option Addr) (n m c c' : Nat) (a b : List LineM) (w : World) (hn : n = a.length) (hm : m = b.length) (h1 : RdLines w w.heap.size X a) (h2 : RdLines w w.heap.size Y b) (hsz : a.length ≤ 3000000000000000000) :
    Calls Tryz.prog 43 #[.slice X n c, .slice Y m c'] w fun e w' => e = .returned (.bool (decide (a.map LineM.p = b.map LineM.p))) ∧ ∃ q, w' = w.drewN q := by
  subst hn hm
  by_cases hl : a.length = b.length
  · have hne : ((a.length : Int) != (b.length : Int)) = false := by simp; omega
    have HL := kept hl
    clear hl
    go_enter Tryz.func43, Tryz.ntmps43
    go_wp2
    go_loopw [5] (fun i wr => ∃ k q : Nat, k ≤ a.length ∧ i = .int .i64 (k : Int) ∧ Kept ((a.take k).map LineM.p = (b.take k).map LineM.p) ∧ wr = w.drewN q) (fun i _ => a.length - (intOf i).toNat)
    case atStart => exact ⟨0, 0, Nat.zero_le _, rfl, ⟨rfl⟩, rfl⟩
    case round =>
      obtain ⟨k, q, hk, rfl, ht, rfl⟩ := hrel
      by_cases hlt : k < a.length
      · have hlt2 : k < b.length := by rw [← HL.out]; exact hlt
        obtain ⟨x, hx⟩ : ∃ x, a[k]? = some x := ⟨_, List.getElem?_eq_getElem hlt⟩
        obtain ⟨y, hy⟩ : ∃ y, b[k]? = some y := ⟨_, List.getElem?_eq_getElem hlt2⟩
        obtain ⟨b1, o1, rfl, hb1, hx1, hx2, hx3, hxo⟩ := (h1.drewN q).at_ hx
        obtain ⟨b2, o2, rfl, hb2, hy1, hy2, hy3, hyo⟩ := (h2.drewN q).at_ hy
        obtain ⟨wq, hwq⟩ : ∃ wq, w.drewN q = wq := ⟨_, rfl⟩
        rw [hwq] at hx1 hx2 hx3 hxo hy1 hy2 hy3 hyo ⊢
        have HC := kept (fun nd => texts_any w.heap.size w.heap.size x.A y.A x.m.length y.m.length x.c y.c x.m y.m (wq.drewN nd) rfl rfl hxo.1 hyo.1 (by have := hxo.2.2; omega))
        have HWQ : ∀ nq, ∃ q', wq.drewN nq = w.drewN q' := fun nq => ⟨q + nq, by rw [← hwq]; simp⟩
        have HWQ := kept HWQ
        clear hwq
        have HX := kept (take_map LineM.p a k x hx)
        have HY := kept (take_map LineM.p b k y hy)
        have HP := kept (line_p (x := x) (y := y))
        have HD : Kept (x.p ≠ y.p → decide (a.map LineM.p = b.map LineM.p) = false) := ⟨fun hp => decide_eq_false (fun e => hp (by
            have e1 : (a.map LineM.p)[k]? = some x.p := by rw [List.getElem?_map, hx]; rfl
            have e2 : (b.map LineM.p)[k]? = some y.p := by rw [List.getElem?_map, hy]; rfl
            rw [e, e2] at e1
            exact (Option.some.inj e1).symm))⟩
        have hi := int_bne x.f y.f
        have hs := str_beq x.t y.t
        have hkk : (k : Int) < (a.length : Int) := by omega
        have hkk2 : (k : Int) < (b.length : Int) := by omega
        clear hx hy
        by_cases e1 : x.f = y.f
        · rw [decide_eq_true e1] at hi
          by_cases e2 : x.t = y.t
          · rw [decide_eq_true e2] at hs
            by_cases e3 : x.m = y.m
            · have ht2 : Kept ((a.take (k + 1)).map LineM.p = (b.take (k + 1)).map LineM.p) := ⟨by rw [HX.out, HY.out, ht.out, HP.out.2 ⟨e1, e2, e3⟩]⟩
              have HC2 : Kept (∀ nd, Calls Tryz.prog 52 #[.slice x.A x.m.length x.c, .slice y.A y.m.length y.c] (wq.drewN nd) fun e w' => e = .returned (.bool true) ∧ ∃ q, w' = (wq.drewN nd).drewN q) := ⟨fun nd => by have := HC.out nd; rwa [decide_eq_true e3] at this⟩
              clear HC HD HP HX HY ht e1 e2 e3 hxo hyo
              go_wp2
              go_quiet ((go_at_call 52; exact Calls.quiet_of (HC2.out _)))
              go_wp2
              go_roundw
              case rel => (obtain ⟨q', hq'⟩ := HWQ.out nq; exact ⟨k + 1, q', by omega, by go_num, ht2, hq'⟩)
              case measure => simp [intOf]; omega
            · have HF := kept (HD.out (fun e => e3 (HP.out.1 e).2.2))
              have HC2 : Kept (∀ nd, Calls Tryz.prog 52 #[.slice x.A x.m.length x.c, .slice y.A y.m.length y.c] (wq.drewN nd) fun e w' => e = .returned (.bool false) ∧ ∃ q, w' = (wq.drewN nd).drewN q) := ⟨fun nd => by have := HC.out nd; rwa [decide_eq_false e3] at this⟩
              clear HC HD HP HX HY ht e1 e2 e3 hxo hyo
              go_wp2
              go_quiet ((go_at_call 52; exact Calls.quiet_of (HC2.out _)))
              go_wp2
              go_ret
              exact ⟨ret_bool HF.out.symm, HWQ.out nq⟩
          · rw [decide_eq_false e2] at hs
            have HF := kept (HD.out (fun e => e2 (HP.out.1 e).2.1))
            clear HC HD HP HX HY ht e1 e2 hxo hyo
            go_wp2
            go_quiet (fail)
            go_wp2
            go_ret
            exact ⟨ret_bool HF.out.symm, HWQ.out nq⟩
        · rw [decide_eq_false e1] at hi
          have HF := kept (HD.out (fun e => e1 (HP.out.1 e).1))
          clear HC HD HP HX HY ht e1 hxo hyo
          go_wp2
          go_quiet (fail)
          go_wp2
          go_ret
          exact ⟨ret_bool HF.out.symm, HWQ.out nq⟩
      · have HF : Kept (decide (a.map LineM.p = b.map LineM.p) = true) := ⟨by
          have e1 : a.take k = a := List.take_of_length_le (by omega)
          have e2 : b.take k = b := List.take_of_length_le (by rw [← HL.out]; omega)
          have := ht.out
          rw [e1, e2] at this
          exact decide_eq_true this⟩
        clear ht
        go_wp2
        go_ret
        exact ⟨ret_bool HF.out.symm, q, rfl⟩
  · have hne : ((a.length : Int) != (b.length : Int)) = true := by simp; omega
    have HF : Kept (decide (a.map LineM.p = b.map LineM.p) = false) := ⟨decide_eq_false (fun e => hl (by simpa using congrArg List.length e))⟩
    clear hl
    go_enter Tryz.func43, Tryz.ntmps43
    go_wp2
    go_ret
    exact ⟨ret_bool HF.out.symm, 0, rfl⟩
theorem rsame_any (x y : CardM) (w : World) (hx : x.Ok w w.heap.size) (hy : y.Ok w w.heap.size) :
    Calls Tryz.prog 33 #[x.val, y.val] w fun e w' => e = .returned (.bool (decide (x.p = y.p))) ∧ Below w.heap.size w w' := by
  obtain ⟨hx1, hx2, hx3, hx4⟩ := hx
  obtain ⟨hy1, hy2, hy3, hy4⟩ := hy
  have HT := kept (fun (W : World) (hb : Below w.heap.size w W) => rlines_any x.X y.X x.ls.length y.ls.length x.c y.c x.ls y.ls W rfl rfl (hx2.next hb) (hy2.next hb) (by omega))
  have hi := int_beq x.cid y.cid
  have HP := kept (card_p (x := x) (y := y))
  have hb2 : ∀ o p : Obj, Below w.heap.size w ((w.alloc o).alloc p) := fun o p => ((Below.refl _ _).alloc (Nat.le_refl _) _).alloc (by simp) _
  have HB := kept hb2
  clear hb2
  unfold CardM.val
  by_cases h1 : x.cid = y.cid
  · rw [decide_eq_true h1] at hi
    have HF : Kept (decide (x.p = y.p) = decide (x.ls.map LineM.p = y.ls.map LineM.p)) := ⟨by
      by_cases h3 : x.ls.map LineM.p = y.ls.map LineM.p
      · rw [decide_eq_true h3, decide_eq_true (HP.out.2 ⟨h1, h3⟩)]
      · rw [decide_eq_false h3, decide_eq_false (fun e => h3 (HP.out.1 e).2)]⟩
    clear hx1 hy1 h1 HP
    go_enter Tryz.func33, Tryz.ntmps33
    go_wp2_with fail
    refine (HT.out _ (HB.out _ _)).mono ?_
    rintro e w' ⟨rfl, q, rfl⟩
    go_wp2
    go_ret
    exact ⟨ret_bool HF.out.symm, below_drewN (HB.out _ _) q⟩
  · rw [decide_eq_false h1] at hi
    have HF : Kept (decide (x.p = y.p) = false) := ⟨decide_eq_false (fun e => h1 (HP.out.1 e).1)⟩
    clear hx1 hy1 h1 HP HT
    go_enter Tryz.func33, Tryz.ntmps33
    go_wp2
    go_ret
    exact ⟨ret_bool HF.out.symm, HB.out _ _⟩
set_option maxHeartbeats 1000000 in
theorem rall_any (X Y : Option Addr) (n m c c' : Nat) (a b : List CardM) (w : World) (hn : n = a.length) (hm : m = b.length) (h1 : RdCards w w.heap.size X a) (h2 : RdCards w w.heap.size Y b) (hsz : a.length ≤ 4000000000000000000) :
    Calls Tryz.prog 18 #[.slice X n c, .slice Y m c'] w fun e w' => e = .returned (.bool (decide (a.map CardM.p = b.map CardM.p))) ∧ Below w.heap.size w w' := by
  subst hn hm
  by_cases hl : a.length = b.length
  · have hne : ((a.length : Int) != (b.length : Int)) = false := by simp; omega
    have HL := kept hl
    clear hl
    go_enter Tryz.func18, Tryz.ntmps18
    go_wp2
    go_loopw [5] (fun i wr => ∃ k : Nat, k ≤ a.length ∧ i = .int .i64 (k : Int) ∧ Kept ((a.take k).map CardM.p = (b.take k).map CardM.p) ∧ Below w.heap.size w wr) (fun i _ => a.length - (intOf i).toNat)
    case atStart => exact ⟨0, Nat.zero_le _, rfl, ⟨rfl⟩, Below.refl _ _⟩
    case round =>
      obtain ⟨k, hk, rfl, ht, hb⟩ := hrel
      by_cases hlt : k < a.length
      · have hlt2 : k < b.length := by rw [← HL.out]; exact hlt
        obtain ⟨x, hx⟩ : ∃ x, a[k]? = some x := ⟨_, List.getElem?_eq_getElem hlt⟩
        obtain ⟨y, hy⟩ : ∃ y, b[k]? = some y := ⟨_, List.getElem?_eq_getElem hlt2⟩
        obtain ⟨b1, o1, rfl, hb1, hx1, hx2, hxo⟩ := (h1.below hb).at_ hx
        obtain ⟨b2, o2, rfl, hb2, hy1, hy2, hyo⟩ := (h2.below hb).at_ hy
        have hsw := hb.size
        have hcc := rsame_any x y wr.drew (hxo.more hsw) (hyo.more hsw)
        have HX := kept (take_map CardM.p a k x hx)
        have HY := kept (take_map CardM.p b k y hy)
        by_cases hp : x.p = y.p
        · have ht2 : Kept ((a.take (k + 1)).map CardM.p = (b.take (k + 1)).map CardM.p) := ⟨by rw [HX.out, HY.out, ht.out, hp]⟩
          rw [decide_eq_true hp] at hcc
          have HC := kept hcc
          clear hx hy ht hp hcc
          go_wp2_with fail
          go_region_with ((go_at_call 33; refine HC.out.mono ?_; rintro e w1 ⟨rfl, hw1⟩))
          all_goals
            go_wp2
            go_roundw
            case rel => exact ⟨k + 1, by omega, by go_num, ht2, hb.drew.trans (hw1.mono hsw)⟩
            case measure => simp [intOf]; omega
        · have HF : Kept (decide (a.map CardM.p = b.map CardM.p) = false) := ⟨decide_eq_false (fun e => hp (by
            have e1 : (a.map CardM.p)[k]? = some x.p := by rw [List.getElem?_map, hx]; rfl
            have e2 : (b.map CardM.p)[k]? = some y.p := by rw [List.getElem?_map, hy]; rfl
            rw [e, e2] at e1
            exact (Option.some.inj e1).symm))⟩
          rw [decide_eq_false hp] at hcc
          have HC := kept hcc
          clear hx hy ht hp hcc
          go_wp2_with fail
          go_region_with ((go_at_call 33; refine HC.out.mono ?_; rintro e w1 ⟨rfl, hw1⟩))
          all_goals
            go_wp2
            go_ret
            exact ⟨ret_bool HF.out.symm, hb.drew.trans (hw1.mono hsw)⟩
      · have HF : Kept (decide (a.map CardM.p = b.map CardM.p) = true) := ⟨by
          have e1 : a.take k = a := List.take_of_length_le (by omega)
          have e2 : b.take k = b := List.take_of_length_le (by rw [← HL.out]; omega)
          have := ht.out
          rw [e1, e2] at this
          exact decide_eq_true this⟩
        clear ht
        go_wp2
        go_ret
        exact ⟨ret_bool HF.out.symm, hb⟩
  · have hne : ((a.length : Int) != (b.length : Int)) = true := by simp; omega
    have HF : Kept (decide (a.map CardM.p = b.map CardM.p) = false) := ⟨decide_eq_false (fun e => hl (by simpa using congrArg List.length e))⟩
    clear hl
    go_enter Tryz.func18, Tryz.ntmps18
    go_wp2
    go_ret
    exact ⟨ret_bool HF.out.symm, Below.refl _ _⟩
end Go.Proofs.YtfkfpanhbanljaaGreat.Card
