/- The walks of card.Line, of slices.IndexFunc beneath it, and of the reference's Line. -/
import Derived.Test.YtnmcclkpgbdenaaCardCopy
namespace Go.Proofs.Ytnmcclkpgbdenaa.Card
open Go.RowKit Go.Proofs.Ytnmcclkpgbdenaa.Mem

/-- the first line of a field -/
def isF (f : Nat) (x : LineM) : Bool := decide (x.f = f)
def zeroL : LineM := ⟨0, ⟨#[]⟩, none, [], 0⟩
theorem find_cases {α : Type} (p : α → Bool) : ∀ l : List α, (l.find? p = none ∧ ∀ (j : Nat) y, l[j]? = some y → p y = false) ∨
    (∃ k x, l[k]? = some x ∧ l.find? p = some x ∧ p x = true ∧ ∀ (j : Nat) y, j < k → l[j]? = some y → p y = false)
  | [] => .inl ⟨rfl, fun j y h => by simp at h⟩
  | z :: l => by
    cases hz : p z with
    | true => exact .inr ⟨0, z, rfl, by rw [List.find?_cons_of_pos hz], hz, fun j y hj => by omega⟩
    | false =>
      have hf : (z :: l).find? p = l.find? p := by rw [List.find?_cons_of_neg (by rw [hz]; decide)]
      rcases find_cases p l with ⟨h1, h2⟩ | ⟨k, x, h1, h2, h3, h4⟩
      · refine .inl ⟨by rw [hf, h1], fun j y hy => ?_⟩
        rcases j with _ | j
        · simp at hy; subst hy; exact hz
        · exact h2 j y (by simpa using hy)
      · refine .inr ⟨k + 1, x, by simpa using h1, by rw [hf, h2], h3, fun j y hj hy => ?_⟩
        rcases j with _ | j
        · simp at hy; subst hy; exact hz
        · exact h4 j y (by omega) (by simpa using hy)
theorem clo_any (x : LineM) (f g : Nat) (w : World) (hc : w.cell? ⟨g, 0, none⟩ = some (.int .u8 (f : Int))) (hg : g < w.heap.size) :
    Calls Try.prog 103 #[x.val, .pointer (some ⟨g, 0, none⟩)] w fun e w' => e = .returned (.bool (isF f x)) ∧ Below w.heap.size w w' := by
  have hi := int_beq x.f f
  unfold LineM.val isF
  go_enter Try.func103, Try.ntmps103
  go_wp2
  go_ret
  exact ⟨rfl, (Below.refl _ _).alloc (Nat.le_refl _) _⟩
theorem idx_at (X : Option Addr) (n c : Nat) (ls : List LineM) (f g k0 : Nat) (x0 : LineM) (w : World) (hn : n = ls.length) (hr : RdLines w w.heap.size X ls) (hc : w.cell? ⟨g, 0, none⟩ = some (.int .u8 (f : Int))) (hg : g < w.heap.size)
    (hk0 : ls[k0]? = some x0) (hx0 : isF f x0 = true) (hbef : ∀ (j : Nat) y, j < k0 → ls[j]? = some y → isF f y = false) (hsz : ls.length ≤ 9223372036854775807) :
    Calls Try.prog 102 #[.slice X n c, .func (.func 103) #[] #[.pointer (some ⟨g, 0, none⟩)]] w fun e w' => e = .returned (.int .i64 (k0 : Int)) ∧ Below w.heap.size w w' := by
  subst hn
  have hlt0 := (List.getElem?_eq_some_iff.1 hk0).1
  go_enter Try.func102, Try.ntmps102
  go_wp2
  go_loopw [8] (fun i wr => ∃ k : Nat, k ≤ k0 ∧ i = .int .i64 (k : Int) ∧ Below w.heap.size w wr) (fun i _ => ls.length - (intOf i).toNat)
  case atStart => exact ⟨0, Nat.zero_le _, rfl, Below.refl _ _⟩
  case round =>
    obtain ⟨k, hk, rfl, hb⟩ := hrel
    have hlt : k < ls.length := by omega
    obtain ⟨x, hx⟩ : ∃ x, ls[k]? = some x := ⟨_, List.getElem?_eq_getElem hlt⟩
    obtain ⟨b1, o1, rfl, hb1, hx1, hx2, hx3, hxo⟩ := (hr.below hb).at_ hx
    have hsw := hb.size
    have hcc := fun W (hB : Below w.heap.size wr W) => clo_any x f g W ((hB.cell (p := ⟨g, 0, none⟩) hg).trans ((hb.cell (p := ⟨g, 0, none⟩) hg).trans hc)) (by have := hB.size; omega)
    by_cases he : k = k0
    · subst he
      obtain rfl : x = x0 := Option.some.inj (hx.symm.trans hk0)
      rw [hx0] at hcc
      have HC := kept hcc
      clear hx hcc hx0 hbef hk0
      go_wp2_with fail
      refine (HC.out _ (Below.refl _ _)).mono ?_
      rintro e w1 ⟨rfl, hw1⟩
      go_wp2
      go_ret
      exact ⟨rfl, hb.trans (hw1.mono hsw)⟩
    · have hf := hbef k x (by omega) hx
      rw [hf] at hcc
      have HC := kept hcc
      clear hx hcc hf
      go_wp2_with fail
      refine (HC.out _ (Below.refl _ _)).mono ?_
      rintro e w1 ⟨rfl, hw1⟩
      go_wp2
      go_roundw
      case rel => exact ⟨k + 1, by omega, by go_num, hb.trans (hw1.mono hsw)⟩
      case measure => simp [intOf]; omega
theorem idx_none (X : Option Addr) (n c : Nat) (ls : List LineM) (f g : Nat) (w : World) (hn : n = ls.length) (hr : RdLines w w.heap.size X ls) (hc : w.cell? ⟨g, 0, none⟩ = some (.int .u8 (f : Int))) (hg : g < w.heap.size)
    (hbef : ∀ (j : Nat) y, ls[j]? = some y → isF f y = false) (hsz : ls.length ≤ 9223372036854775807) :
    Calls Try.prog 102 #[.slice X n c, .func (.func 103) #[] #[.pointer (some ⟨g, 0, none⟩)]] w fun e w' => e = .returned (.int .i64 (-1)) ∧ Below w.heap.size w w' := by
  subst hn
  go_enter Try.func102, Try.ntmps102
  go_wp2
  go_loopw [8] (fun i wr => ∃ k : Nat, k ≤ ls.length ∧ i = .int .i64 (k : Int) ∧ Below w.heap.size w wr) (fun i _ => ls.length - (intOf i).toNat)
  case atStart => exact ⟨0, Nat.zero_le _, rfl, Below.refl _ _⟩
  case round =>
    obtain ⟨k, hk, rfl, hb⟩ := hrel
    by_cases hlt : k < ls.length
    · obtain ⟨x, hx⟩ : ∃ x, ls[k]? = some x := ⟨_, List.getElem?_eq_getElem hlt⟩
      obtain ⟨b1, o1, rfl, hb1, hx1, hx2, hx3, hxo⟩ := (hr.below hb).at_ hx
      have hsw := hb.size
      have hcc := fun W (hB : Below w.heap.size wr W) => clo_any x f g W ((hB.cell (p := ⟨g, 0, none⟩) hg).trans ((hb.cell (p := ⟨g, 0, none⟩) hg).trans hc)) (by have := hB.size; omega)
      have hf := hbef k x hx
      rw [hf] at hcc
      have HC := kept hcc
      clear hx hcc hf
      go_wp2_with fail
      refine (HC.out _ (Below.refl _ _)).mono ?_
      rintro e w1 ⟨rfl, hw1⟩
      go_wp2
      go_roundw
      case rel => exact ⟨k + 1, by omega, by go_num, hb.trans (hw1.mono hsw)⟩
      case measure => simp [intOf]; omega
    · go_wp2
      go_ret
      exact ⟨rfl, hb⟩
/-- the line of a field, or an empty one -/
def lineOf (f : Nat) (ls : List LineM) : Option LineM := ls.find? (isF f)
/-- what card.Line gives: the line, its other texts copied -/
def GivesL (w : World) (o : Option LineM) (en : Ending) (w' : World) : Prop :=
  ∃ y : LineM, en = .returned (.tuple #[y.val, .bool o.isSome]) ∧ y.p = (o.getD zeroL).p ∧ y.f < 256 ∧ y.m.length ≤ 8796093022208 ∧ strE.Own w' w.heap.size 9 (.slice y.A y.m.length y.c) y.m ∧ Below w.heap.size w w'
theorem line_any (x : CardM) (f : Nat) (w : World) (hx : x.Ok w w.heap.size) :
    Calls Try.prog 73 #[x.val, .int .u8 (f : Int)] w (GivesL w (lineOf f x.ls)) := by
  obtain ⟨xcid, xX, xls, xc⟩ := x
  obtain ⟨hx1, hx2, hx3, hx4⟩ := hx
  dsimp only at hx1 hx2 hx3 hx4 ⊢
  have hW : ∀ o1 o2 o3 : Obj, Below w.heap.size w (((w.alloc o1).alloc o2).alloc o3) := fun o1 o2 o3 => (((Below.refl _ _).alloc (Nat.le_refl _) _).alloc (by simp) _).alloc (by simp; omega) _
  have HW := kept hW
  have k1 : ∀ o3 : Obj, Blk (((w.alloc (.cells #[.int .u64 (xcid : Int), .slice xX xls.length xc] 38)).alloc (.cells #[.int .u8 (f : Int)] 5)).alloc o3) w.heap.size [.int .u64 (xcid : Int), .slice xX xls.length xc] 38 := fun o3 => ((Blk.new w _ _).alloc _).alloc _
  have k2 : ∀ o3 : Obj, Blk (((w.alloc (.cells #[.int .u64 (xcid : Int), .slice xX xls.length xc] 38)).alloc (.cells #[.int .u8 (f : Int)] 5)).alloc o3) (w.heap.size + 1) [.int .u8 (f : Int)] 5 := fun o3 => (Blk.newAt _ [.int .u8 (f : Int)] _ (by simp)).alloc _
  have K1 := kept k1
  have K2 := kept k2
  clear hW k1 k2
  unfold CardM.val
  rcases find_cases (isF f) xls with ⟨h1, h2⟩ | ⟨k0, z, h1, h2, h3, h4⟩
  · have HO : Kept (lineOf f xls = none) := ⟨h1⟩
    have HC := kept (fun (W : World) (hB : Below w.heap.size w W) (hc : W.cell? ⟨w.heap.size + 1, 0, none⟩ = some (.int .u8 (f : Int))) (hg : w.heap.size + 1 < W.heap.size) => idx_none xX xls.length xc xls f (w.heap.size + 1) W rfl (hx2.next hB) hc hg h2 (by omega))
    clear h1 h2
    go_enter Try.func73, Try.ntmps73
    go_wp2_with fail
    refine (HC.out _ (HW.out _ _ _) ((K2.out _).cell (j := 0) rfl) (by simp)).mono ?_
    rintro e w1 ⟨rfl, hb1⟩
    have k3 : Blk _ (w.heap.size + 1 + 1) [.int .u8 0, .string ⟨#[]⟩, .slice none 0 0] 41 := (Blk.newAt _ [.int .u8 0, .string ⟨#[]⟩, .slice none 0 0] 41 (by simp)).next hb1
    have hb := (HW.out _ _ _).trans (hb1.mono (by simp; omega))
    have c0 := k3.cell (j := 0) rfl
    have c1 := k3.cell (j := 1) rfl
    have c2 := k3.cell (j := 2) rfl
    have f0 := k3.frozen 0
    have f1 := k3.frozen 1
    have f2 := k3.frozen 2
    clear hb1 k3
    go_wp2
    refine bodyPost_ret (v := .tuple #[.agg #[.int .u8 0, .string ⟨#[]⟩, .slice none 0 0], .bool false]) (by simp [results, Try.results73, go_sem, c0, c1, c2]) rfl ?_
    rw [HO.out]
    refine ⟨zeroL, rfl, rfl, by decide, by decide, Elem.Own.nilv _ _ _ _, ((hb.setCell (by simp; omega) _).setCell (by simp; omega) _).setCell (by simp; omega) _⟩
  · have HO : Kept (lineOf f xls = some z) := ⟨h2⟩
    have hlt := (List.getElem?_eq_some_iff.1 h1).1
    obtain ⟨b1, o1, hXe, hb1, hz1, hz2, hz3, hzo⟩ := hx2.at_ h1
    have HC := kept (fun (W : World) (hB : Below w.heap.size w W) (hc : W.cell? ⟨w.heap.size + 1, 0, none⟩ = some (.int .u8 (f : Int))) (hg : w.heap.size + 1 < W.heap.size) => idx_at xX xls.length xc xls f (w.heap.size + 1) k0 z W rfl (hx2.next hB) hc hg h1 h3 h4 (by omega))
    have HS := kept (fun (W : World) (hB : Below w.heap.size w W) => sclone_any z.A z.m.length z.c z.m W rfl (strE_rd.2 (hzo.1.next hB)) (by have := hzo.2.2.2; omega))
    clear h1 h2 h3 h4
    subst hXe
    have hkx : (k0 : Int) < (xls.length : Int) := by omega
    have hkk : ¬ (k0 : Int) < 0 := by omega
    go_enter Try.func73, Try.ntmps73
    go_wp2_with fail
    refine (HC.out _ (HW.out _ _ _) ((K2.out _).cell (j := 0) rfl) (by simp)).mono ?_
    rintro e w1 ⟨rfl, hw1⟩
    have k1 := (K1.out _).next hw1
    have k3 : Blk _ (w.heap.size + 1 + 1) [.int .u8 0, .string ⟨#[]⟩, .slice none 0 0] 41 := (Blk.newAt _ [.int .u8 0, .string ⟨#[]⟩, .slice none 0 0] 41 (by simp)).next hw1
    have hb := (HW.out _ _ _).trans (hw1.mono (by simp; omega))
    have hs3 : w.heap.size + 3 ≤ w1.heap.size := by have := hw1.size; simp at this; omega
    have hx1' := k1.cell (j := 1) rfl
    have z1 := (hb.cell (p := ⟨b1, o1 + k0 * 3, none⟩) hb1).trans hz1
    have z2 := (hb.cell (p := ⟨b1, o1 + k0 * 3 + 1, none⟩) hb1).trans hz2
    have z3 := (hb.cell (p := ⟨b1, o1 + k0 * 3 + 2, none⟩) hb1).trans hz3
    clear hz1 hz2 hz3 hw1
    have hba := hb.alloc (by omega) (.cells #[.int .u8 (z.f : Int), .string z.t, .slice z.A z.m.length z.c] 41)
    have k3a := k3.alloc (.cells #[.int .u8 (z.f : Int), .string z.t, .slice z.A z.m.length z.c] 41)
    have k4a : Blk _ w1.heap.size [.int .u8 (z.f : Int), .string z.t, .slice z.A z.m.length z.c] 41 := Blk.new w1 [.int .u8 (z.f : Int), .string z.t, .slice z.A z.m.length z.c] _
    go_wp2_with fail
    refine (HS.out _ hba).mono ?_
    rintro e w2 ⟨A2, c2, rfl, hown2, hc2, hb2⟩
    have k3b := k3a.next hb2
    have k4b := k4a.next hb2
    have hbb := hba.trans (hb2.mono hba.size)
    have hown3 : strE.Own w2 (w1.heap.size + 1) 9 (.slice A2 z.m.length c2) z.m := hown2.mono (by simp)
    have hs4 : w1.heap.size < w2.heap.size := k4b.lt
    clear k3 k3a k4a hba hb2 hown2 z1 z2 z3
    have c0 := k3b.cell (j := 0) rfl
    have c1 := k3b.cell (j := 1) rfl
    have c2' := k3b.cell (j := 2) rfl
    have f0 := k3b.frozen 0
    have f1 := k3b.frozen 1
    have f2 := k3b.frozen 2
    have d0 := k4b.cell (j := 0) rfl
    have d1 := k4b.cell (j := 1) rfl
    have d2 := k4b.cell (j := 2) rfl
    have g2 := k4b.frozen 2
    have hne : w1.heap.size ≠ w.heap.size + 1 + 1 := by omega
    have k5 := (((k3b.other (p := ⟨w1.heap.size, 2, none⟩) hne (.slice A2 z.m.length c2)).set 0 (.int .u8 (z.f : Int))).set 1 (.string z.t)).set 2 (.slice A2 z.m.length c2)
    have e0 := k5.cell (j := 0) rfl
    have e1 := k5.cell (j := 1) rfl
    have e2 := k5.cell (j := 2) rfl
    go_wp2
    refine bodyPost_ret (v := .tuple #[.agg #[.int .u8 (z.f : Int), .string z.t, .slice A2 z.m.length c2], .bool true]) (by simp [results, Try.results73, go_sem, e0, e1, e2]) rfl ?_
    rw [HO.out]
    refine ⟨⟨z.f, z.t, A2, z.m, c2⟩, rfl, rfl, hzo.2.1, hzo.2.2.2, ?_, (((hbb.setCell (by simp; omega) _).setCell (by simp; omega) _).setCell (by simp; omega) _).setCell (by simp; omega) _⟩
    exact OwnK.mono (OwnK.low (OwnK.low (OwnK.low (OwnK.low hown3 (by simp) _) (by simp; omega) _) (by simp; omega) _) (by simp; omega) _) (by omega)
end Go.Proofs.Ytnmcclkpgbdenaa.Card
