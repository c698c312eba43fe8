import Derived.Test.YtfkfpanhbanljaaGreatDoorSet14
import Derived.Test.YtfkfpanhbanljaaGreatDoorSet13
import Derived.Test.YtfkfpanhbanljaaGreatDoorStabMath
import Derived.IntWalk
import Derived.BigQuiet
import Derived.Deep.DeepCutAuto
import Derived.Test.YtfkfpanhbanljaaGreatDoorListCmp
import Derived.Test.YtfkfpanhbanljaaGreatDoorHeldCall
/- slices.SortStableFunc of cards: exchanging two cards, two rows of cards. -/
namespace Go.Proofs.YtfkfpanhbanljaaGreatDoor.Stab
open Go.RowKit Go.Proofs.YtfkfpanhbanljaaGreatDoor.Mem Go.Proofs.YtfkfpanhbanljaaGreatDoor.Card

/-- a card stored at a place of a row -/
def putC (w : World) (g i : Nat) (y : CardM) : World := (w.setCell ⟨g, i * 2, none⟩ (.int .u64 (y.cid : Int))).setCell ⟨g, i * 2 + 1, none⟩ (.slice y.X y.ls.length y.c)
theorem card_row {w : World} {base : Nat} {A : Option Addr} {n c : Nat} {xs : List CardM} (h : cardE.Own w base 31 (.slice A n c) xs) {i : Nat} {x : CardM} (hi : xs[i]? = some x) :
    ∃ g, A = some ⟨g, 0, none⟩ ∧ base ≤ g ∧ g < w.heap.size ∧ w.cell? ⟨g, i * 2, none⟩ = some (.int .u64 (x.cid : Int)) ∧ w.cell? ⟨g, i * 2 + 1, none⟩ = some (.slice x.X x.ls.length x.c) ∧ w.frozen? ⟨g, i * 2, none⟩ = false ∧ w.frozen? ⟨g, i * 2 + 1, none⟩ = false ∧
      ∀ y : CardM, cardE.Own (putC w g i y) base 31 (.slice (some ⟨g, 0, none⟩) n c) (xs.set i y) := by
  obtain ⟨g, h1, h2, h3, h4, h5, h6⟩ := h.spot (i := i) (j := 0) hi rfl
  obtain ⟨g', h1', -, -, h4', h5', -⟩ := h.spot (i := i) (j := 1) hi rfl
  subst h1
  obtain rfl : g = g' := congrArg Addr.block (Option.some.inj h1')
  refine ⟨g, rfl, h2, h3, h4, h4', h5, h5', fun y => ?_⟩
  obtain ⟨s1, -⟩ := h6 ⟨y.cid, x.X, x.ls, x.c⟩ (.int .u64 (y.cid : Int)) rfl
  have hl : i < xs.length := (List.getElem?_eq_some_iff.1 hi).1
  obtain ⟨g2, e2, -, -, -, -, t⟩ := s1.spot (i := i) (j := 1) (x := ⟨y.cid, x.X, x.ls, x.c⟩) (by rw [List.getElem?_set_self hl]) rfl
  obtain rfl : g = g2 := congrArg Addr.block (Option.some.inj e2)
  have s2 := (t y (.slice y.X y.ls.length y.c) rfl).1
  rw [List.set_set] at s2
  exact s2
/-- two cards exchanged -/
theorem card_swap {w : World} {base : Nat} {g n c : Nat} {xs : List CardM} (h : cardE.Own w base 31 (.slice (some ⟨g, 0, none⟩) n c) xs) {p q : Nat} {x y : CardM} (hp : xs[p]? = some x) (hq : xs[q]? = some y) (hpq : p ≠ q) :
    cardE.Own (putC (putC w g p y) g q x) base 31 (.slice (some ⟨g, 0, none⟩) n c) ((xs.set p y).set q x) := by
  obtain ⟨g1, e1, -, -, -, -, -, -, s1⟩ := card_row h hp
  obtain rfl : g = g1 := congrArg Addr.block (Option.some.inj e1)
  obtain ⟨g2, e2, -, -, -, -, -, -, s2⟩ := card_row (s1 y) (i := q) (x := y) (by rw [List.getElem?_set_ne hpq]; exact hq)
  obtain rfl : g = g2 := congrArg Addr.block (Option.some.inj e2)
  exact s2 x
theorem putC_upd {S : Nat → Prop} {a w : World} (h : Upd S a w) {g i : Nat} (hg : S g) (y : CardM) : Upd S a (putC w g i y) := (h.setCell (p := ⟨g, i * 2, none⟩) (.inl hg) _).setCell (p := ⟨g, i * 2 + 1, none⟩) (.inl hg) _
theorem own_heap {w W : World} {base : Nat} {v : Value} {xs : List CardM} (hW : W.heap = w.heap) (h : cardE.Own w base 31 v xs) : cardE.Own W base 31 v xs := by
  unfold Elem.Own OwnK World.ownsRow at h ⊢
  rw [hW]; exact h
/-- what the exchange leaves, in the walk's words -/
def swW (w : World) (g p q : Nat) (x y : CardM) : World := ((((w.setCell ⟨g, p * 2, none⟩ (.int .u64 (y.cid : Int))).setCell ⟨g, p * 2 + 1, none⟩ (.slice y.X y.ls.length y.c)).setCell ⟨g, q * 2, none⟩ (.int .u64 (x.cid : Int))).setCell ⟨g, q * 2 + 1, none⟩ (.slice x.X x.ls.length x.c)).drew
theorem swW_own {w : World} {base : Nat} {g n c : Nat} {xs : List CardM} (h : cardE.Own w base 31 (.slice (some ⟨g, 0, none⟩) n c) xs) {p q : Nat} {x y : CardM} (hp : xs[p]? = some x) (hq : xs[q]? = some y) (hpq : p ≠ q) :
    cardE.Own (swW w g p q x y) base 31 (.slice (some ⟨g, 0, none⟩) n c) ((xs.set p y).set q x) := own_heap rfl (card_swap h hp hq hpq)
theorem swW_upd {S : Nat → Prop} {a w : World} (h : Upd S a w) {g p q : Nat} (hg : S g) (x y : CardM) : Upd S a (swW w g p q x y) := (putC_upd (putC_upd h hg y) hg x).drew
/-- exchanged, in parts -/
theorem list_swap {P M Q : List CardM} {x y : CardM} {p q : Nat} (hp : p = P.length) (hq : q = P.length + 1 + M.length) :
    (P ++ x :: M ++ y :: Q)[p]? = some x ∧ (P ++ x :: M ++ y :: Q)[q]? = some y ∧ ((P ++ x :: M ++ y :: Q).set p y).set q x = P ++ y :: M ++ x :: Q := by
  subst hp hq
  refine ⟨by simp, ?_, ?_⟩
  · rw [List.getElem?_append_right (by simp; omega)]
    have : P.length + 1 + M.length - (P ++ x :: M).length = 0 := by simp; omega
    rw [this]; rfl
  · rw [List.set_append_left _ _ (by simp), List.set_append_right _ _ (Nat.le_refl _), Nat.sub_self, List.set_cons_zero, List.set_append_right _ _ (by simp; omega)]
    have : P.length + 1 + M.length - (P ++ y :: M).length = 0 := by simp; omega
    rw [this]; rfl
set_option maxRecDepth 100000 in
set_option maxHeartbeats 4000000 in
theorem swapRange_own (base : Nat) (A : Option Addr) (c : Nat) (P X M Y Q : List CardM) (f : Value) (w : World) (k n : Nat) (hX : X.length = k) (hY : Y.length = k) (hn : (P ++ X ++ M ++ Y ++ Q).length = n) (hsz : n ≤ 1000000)
    (h : cardE.Own w base 31 (.slice A n c) (P ++ X ++ M ++ Y ++ Q)) :
    Calls Tryz.prog 166 #[.slice A n c, .int .i64 (P.length : Int), .int .i64 ((P.length + k + M.length : Nat) : Int), .int .i64 (k : Int), f] w fun e w' => e = .returned (.tuple #[]) ∧
      cardE.Own w' base 31 (.slice A n c) (P ++ Y ++ M ++ X ++ Q) ∧ Upd (fun b => (Value.slice A n c).ownBlock = some b) w w' := by
  have H := kept h
  have HL := kept hn
  have hle : P.length + k + M.length + k ≤ n := by simp at hn; omega
  have HX := kept hX
  have HY := kept hY
  clear h hn hX hY
  obtain ⟨pl, hpl⟩ : ∃ pl, P.length = pl := ⟨_, rfl⟩
  obtain ⟨ql, hql⟩ : ∃ ql, P.length + k + M.length = ql := ⟨_, rfl⟩
  have HPL := kept hpl
  have HQL := kept hql
  rw [hql, hpl]
  have hle2 : ql + k ≤ n := by omega
  have hle3 : pl + k ≤ ql := by omega
  clear hpl hql hle
  go_enter Tryz.func166, Tryz.ntmps166
  go_wp2_with fail
  go_loopw [10] (fun iv wr => ∃ (i : Nat) (X1 X2 Y1 Y2 : List CardM), i ≤ k ∧ iv = .int .i64 (i : Int) ∧ Kept (X = X1 ++ X2 ∧ Y = Y1 ++ Y2 ∧ X1.length = i ∧ Y1.length = i) ∧ Kept (cardE.Own wr base 31 (.slice A n c) (P ++ Y1 ++ X2 ++ M ++ X1 ++ Y2 ++ Q) ∧ Upd (fun b => (Value.slice A n c).ownBlock = some b) w wr)) (fun iv _ => k - (intOf iv).toNat)
  case atStart => exact ⟨0, [], X, [], Y, Nat.zero_le _, rfl, ⟨rfl, rfl, rfl, rfl⟩, ⟨by simpa using H.out, Upd.refl _ _⟩⟩
  case round =>
    obtain ⟨i, X1, X2, Y1, Y2, hi, rfl, HS, HO⟩ := hrel
    by_cases hlt : i < k
    · have hik : (i : Int) < (k : Int) := by omega
      obtain ⟨x, X3, rfl⟩ : ∃ x X3, X2 = x :: X3 := by
        cases X2 with
        | nil => exfalso; have h1 := HS.out.1; have h2 := HX.out; rw [h1] at h2; simp at h2; have := HS.out.2.2.1; omega
        | cons x X3 => exact ⟨x, X3, rfl⟩
      obtain ⟨y, Y3, rfl⟩ : ∃ y Y3, Y2 = y :: Y3 := by
        cases Y2 with
        | nil => exfalso; have h1 := HS.out.2.1; have h2 := HY.out; rw [h1] at h2; simp at h2; have := HS.out.2.2.2; omega
        | cons y Y3 => exact ⟨y, Y3, rfl⟩
      have e1 : P ++ Y1 ++ (x :: X3) ++ M ++ X1 ++ (y :: Y3) ++ Q = (P ++ Y1) ++ x :: (X3 ++ M ++ X1) ++ y :: (Y3 ++ Q) := by simp
      have e2 : (P ++ Y1) ++ y :: (X3 ++ M ++ X1) ++ x :: (Y3 ++ Q) = P ++ (Y1 ++ [y]) ++ X3 ++ M ++ (X1 ++ [x]) ++ Y3 ++ Q := by simp
      have hp1 : pl + i = (P ++ Y1).length := by rw [List.length_append, HPL.out, HS.out.2.2.2]
      have hq1 : ql + i = (P ++ Y1).length + 1 + (X3 ++ M ++ X1).length := by
        have h1 := HX.out
        rw [HS.out.1] at h1
        have h2 := HS.out.2.2.1
        have h3 := HS.out.2.2.2
        have h4 := HPL.out
        have h5 := HQL.out
        simp at h1 ⊢
        omega
      obtain ⟨l1, l2, l3⟩ := list_swap (x := x) (y := y) (Q := Y3 ++ Q) hp1 hq1
      have ho := HO.out.1
      rw [e1] at ho
      obtain ⟨g, rfl, hbg, hgl, c0, c1, f0, f1, -⟩ := card_row ho l1
      obtain ⟨g', e3, -, -, d0, d1, k0, k1, -⟩ := card_row ho l2
      obtain rfl : g = g' := congrArg Addr.block (Option.some.inj e3)
      have hsw := swW_own ho l1 l2 (show pl + i ≠ ql + i by omega)
      rw [l3, e2] at hsw
      have HSW := kept (And.intro hsw (swW_upd (g := g) (p := pl + i) (q := ql + i) HO.out.2 rfl x y))
      clear hsw
      have HS2 : Kept (X = (X1 ++ [x]) ++ X3 ∧ Y = (Y1 ++ [y]) ++ Y3 ∧ (X1 ++ [x]).length = i + 1 ∧ (Y1 ++ [y]).length = i + 1) := ⟨by rw [HS.out.1]; simp, by rw [HS.out.2.1]; simp, by simp; exact HS.out.2.2.1, by simp; exact HS.out.2.2.2⟩
      have hpi : ((pl : Int) + (i : Int)) < (n : Int) := by omega
      have hqi : ((ql : Int) + (i : Int)) < (n : Int) := by omega
      have hpi2 : pl + i < n := by omega
      have hqi2 : ql + i < n := by omega
      have hw1 : IntKind.i64.wrap ((pl : Int) + (i : Int)) = ((pl + i : Nat) : Int) := by rw [IntWalk.i64_in _ (by omega)]; omega
      have hw2 : IntKind.i64.wrap ((ql : Int) + (i : Int)) = ((ql + i : Nat) : Int) := by rw [IntWalk.i64_in _ (by omega)]; omega
      have hne : ¬ pl + i = ql + i := by omega
      have hne2 : ¬ ql + i = pl + i := by omega
      clear HS HO ho e1 e2 hp1 hq1 l1 l2 l3 e3 hpi hqi
      generalize pl + i = p1 at *
      generalize ql + i = q1 at *
      obtain ⟨xcid, xX, xls, xc⟩ := x
      obtain ⟨ycid, yX, yls, yc⟩ := y
      dsimp only at c0 c1 d0 d1
      unfold swW at HSW
      dsimp only at HSW
      go_upto_region 3 with fail
      go_region
      all_goals
        clear hw1 hw2
        go_wp2_with fail
        go_roundw
        case rel => (refine ⟨i + 1, X1 ++ [⟨xcid, xX, xls, xc⟩], X3, Y1 ++ [⟨ycid, yX, yls, yc⟩], Y3, by omega, by go_num, HS2, ?_⟩; with_reducible exact HSW)
        case measure => simp [intOf]; omega
    · obtain rfl : i = k := by omega
      have hge : ¬ (i : Int) < (i : Int) := by omega
      obtain rfl : X2 = [] := by
        have h1 := HS.out.1; have h2 := HX.out; rw [h1] at h2; simp at h2; have := HS.out.2.2.1
        exact List.eq_nil_of_length_eq_zero (by omega)
      obtain rfl : Y2 = [] := by
        have h1 := HS.out.2.1; have h2 := HY.out; rw [h1] at h2; simp at h2; have := HS.out.2.2.2
        exact List.eq_nil_of_length_eq_zero (by omega)
      have HF : Kept (cardE.Own wr base 31 (.slice A n c) (P ++ (Y ++ (M ++ (X ++ Q))))) := ⟨by
        have h1 := HO.out.1
        rw [HS.out.1, HS.out.2.1]
        simpa using h1⟩
      go_wp2_with fail
      go_end0
      exact ⟨rfl, HF.out, HO.out.2⟩
end Go.Proofs.YtfkfpanhbanljaaGreatDoor.Stab

/- slices.SortStableFunc of cards: two rows behind one another change places. -/
namespace Go.Proofs.YtfkfpanhbanljaaGreatDoor.Stab
open Go.RowKit Go.Proofs.YtfkfpanhbanljaaGreatDoor.Mem Go.Proofs.YtfkfpanhbanljaaGreatDoor.Card

/-- what a call leaves: the row, and all else as it was -/
def RowTo (base : Nat) (A : Option Addr) (n c : Nat) (w : World) (xs : List CardM) (e : Ending) (w' : World) : Prop :=
  e = .returned (.tuple #[]) ∧ cardE.Own w' base 31 (.slice A n c) xs ∧ Upd (fun b => (Value.slice A n c).ownBlock = some b) w w'
theorem split_at {α : Type} {l : List α} {k : Nat} (h : k ≤ l.length) : ∃ a b, l = a ++ b ∧ a.length = k := ⟨l.take k, l.drop k, (List.take_append_drop k l).symm, by rw [List.length_take]; omega⟩
set_option maxRecDepth 100000 in
set_option maxHeartbeats 4000000 in
theorem rotate_own (base : Nat) (A : Option Addr) (c : Nat) (P X Y Q : List CardM) (f : Value) (w : World) (n : Nat) (hX : 0 < X.length) (hY : 0 < Y.length) (hn : (P ++ X ++ Y ++ Q).length = n) (hsz : n ≤ 1000000)
    (h : cardE.Own w base 31 (.slice A n c) (P ++ X ++ Y ++ Q)) :
    Calls Tryz.prog 151 #[.slice A n c, .int .i64 (P.length : Int), .int .i64 ((P.length + X.length : Nat) : Int), .int .i64 ((P.length + X.length + Y.length : Nat) : Int), f] w (RowTo base A n c w (P ++ Y ++ X ++ Q)) := by
  obtain ⟨pl, hpl⟩ : ∃ pl, P.length = pl := ⟨_, rfl⟩
  obtain ⟨ml, hml⟩ : ∃ ml, P.length + X.length = ml := ⟨_, rfl⟩
  obtain ⟨bl, hbl⟩ : ∃ bl, P.length + X.length + Y.length = bl := ⟨_, rfl⟩
  have hbn : bl ≤ n := by simp at hn; omega
  have h1 : pl < ml := by omega
  have h2 : ml < bl := by omega
  rw [hbl, hml, hpl]
  have H0 : Kept (∃ (P' X' Y' Q' : List CardM), P' ++ X' ++ Y' ++ Q' = P ++ X ++ Y ++ Q ∧ P' ++ Y' ++ X' ++ Q' = P ++ Y ++ X ++ Q ∧ X'.length = ml - pl ∧ Y'.length = bl - ml ∧ P'.length = ml - X'.length) := ⟨P, X, Y, Q, rfl, rfl, by omega, by omega, by omega⟩
  have HO0 : Kept (cardE.Own w base 31 (.slice A n c) (P ++ X ++ Y ++ Q)) := ⟨h⟩
  have HR : Kept (∀ (W : World), cardE.Own W base 31 (.slice A n c) (P ++ Y ++ X ++ Q) → Upd (fun b => (Value.slice A n c).ownBlock = some b) w W → RowTo base A n c w (P ++ Y ++ X ++ Q) (.returned (.tuple #[])) W) := ⟨fun W a b => ⟨rfl, a, b⟩⟩
  generalize P ++ Y ++ X ++ Q = T at *
  generalize P ++ X ++ Y ++ Q = S0 at *
  have HN : Kept (S0.length = n) := ⟨hn⟩
  clear hn h hpl hml hbl hX hY
  clear P X Y Q
  have hi1 : (0 : Int) ≤ ((ml : Int) - (pl : Int)) := by omega
  have hi2 : (0 : Int) ≤ ((bl : Int) - (ml : Int)) := by omega
  go_enter Tryz.func151, Tryz.ntmps151
  go_wp2_with fail
  go_loopw [10, 11] (fun iv jv wr => ∃ (i j : Nat) (P' X' Y' Q' : List CardM), iv = .int .i64 (i : Int) ∧ jv = .int .i64 (j : Int) ∧ 0 < i ∧ 0 < j ∧ i ≤ ml ∧ ml + j ≤ n ∧ Kept (X'.length = i ∧ Y'.length = j ∧ P'.length + i = ml) ∧ Kept (P' ++ Y' ++ X' ++ Q' = T ∧ (P' ++ X' ++ Y' ++ Q').length = n) ∧ Kept (cardE.Own wr base 31 (.slice A n c) (P' ++ X' ++ Y' ++ Q') ∧ Upd (fun b => (Value.slice A n c).ownBlock = some b) w wr)) (fun iv jv _ => (intOf iv).toNat + (intOf jv).toNat)
  case atStart =>
    obtain ⟨P', X', Y', Q', e1, e2, e3, e4, e5⟩ := H0.out
    refine ⟨ml - pl, bl - ml, P', X', Y', Q', ?_, ?_, by omega, by omega, by omega, by omega, ⟨e3, e4, by omega⟩, ⟨e2, by rw [e1]; exact HN.out⟩, ⟨by rw [e1]; exact HO0.out, Upd.refl _ _⟩⟩
    · rw [show ((ml : Int) - (pl : Int)) = ((ml - pl : Nat) : Int) by omega]
    · rw [show ((bl : Int) - (ml : Int)) = ((bl - ml : Nat) : Int) by omega]
  case round =>
    clear H0 HO0 HN hi1 hi2
    obtain ⟨i, j, P', X', Y', Q', rfl, rfl, hi, hj, him, hjn, HL, HT, HO⟩ := hrel
    rcases Nat.lt_trichotomy i j with hlt | heq | hgt
    · -- fewer ahead: they change with the last ones
      obtain ⟨hx, hy, hp⟩ := HL.out
      obtain ⟨Y1, Y2, rfl, hl1⟩ := split_at (l := Y') (k := j - i) (by omega)
      have hl2 : Y2.length = i := by rw [List.length_append] at hy; omega
      have hO2 := HO.out.1
      rw [show P' ++ X' ++ (Y1 ++ Y2) ++ Q' = P' ++ X' ++ Y1 ++ Y2 ++ Q' by simp] at hO2
      have CS := swapRange_own base A c P' X' Y1 Y2 Q' f wr i n hx hl2 (by have := HT.out.2; simp at this ⊢; omega) hsz hO2
      rw [show (P'.length : Int) = (ml : Int) - (i : Int) by omega, show ((P'.length + i + Y1.length : Nat) : Int) = (ml : Int) + (j : Int) - (i : Int) by omega] at CS
      have CS := kept CS
      have HL2 : Kept (Y2.length = i ∧ Y1.length = j - i ∧ P'.length + i = ml) := ⟨hl2, hl1, hp⟩
      have HT2 : Kept (P' ++ Y1 ++ Y2 ++ (X' ++ Q') = T ∧ (P' ++ Y2 ++ Y1 ++ (X' ++ Q')).length = n) := ⟨by rw [← HT.out.1]; simp, by have := HT.out.2; simp at this ⊢; omega⟩
      have HA : Kept (P' ++ Y2 ++ Y1 ++ X' ++ Q' = P' ++ Y2 ++ Y1 ++ (X' ++ Q')) := ⟨by simp⟩
      have HU := kept HO.out.2
      have hne : ((i : Int) != (j : Int)) = true := by simp; omega
      have hng : ¬ (j : Int) < (i : Int) := by omega
      have hng2 : ¬ j < i := by omega
      have ha0 : (0 : Int) ≤ (ml : Int) - (i : Int) := by omega
      have ha1 : (0 : Int) ≤ (ml : Int) + (j : Int) - (i : Int) := by omega
      have ha2 : (0 : Int) ≤ (j : Int) - (i : Int) := by omega
      have hji : ((j : Int) - (i : Int)) = ((j - i : Nat) : Int) := by omega
      have HJI := kept hji
      clear hO2 hl1 hl2 hx hy hp hji HO HT HL
      go_wp2_with fail
      refine CS.out.mono ?_
      rintro e w5 ⟨rfl, ho5, hu5⟩
      rw [HA.out] at ho5
      have HO5 := kept (And.intro ho5 (HU.out.trans hu5))
      clear ho5 hu5 CS HA HU
      go_wp2_with fail
      go_roundw
      case rel => (refine ⟨i, j - i, P', Y2, Y1, X' ++ Q', rfl, by rw [HJI.out], by omega, by omega, by omega, by omega, HL2, HT2, ?_⟩; with_reducible exact HO5)
      case measure => simp [intOf]; omega
    · -- as many: they change, and that is all
      subst heq
      obtain ⟨hx, hy, hp⟩ := HL.out
      have hO2 := HO.out.1
      rw [show P' ++ X' ++ Y' ++ Q' = P' ++ X' ++ [] ++ Y' ++ Q' by simp] at hO2
      have CS := swapRange_own base A c P' X' [] Y' Q' f wr i n hx hy (by have := HT.out.2; simp at this ⊢; omega) hsz hO2
      rw [show (P'.length : Int) = (ml : Int) - (i : Int) by omega, show ((P'.length + i + ([] : List CardM).length : Nat) : Int) = (ml : Int) by simp; omega, show P' ++ Y' ++ [] ++ X' ++ Q' = T by rw [← HT.out.1]; simp] at CS
      have CS := kept CS
      have HU := kept HO.out.2
      have hne : ((i : Int) != (i : Int)) = false := by simp
      have ha0 : (0 : Int) ≤ (ml : Int) - (i : Int) := by omega
      clear hO2 hx hy hp HO HT HL
      go_wp2_with fail
      refine CS.out.mono ?_
      rintro e w5 ⟨rfl, ho5, hu5⟩
      have HF := kept (HR.out w5 ho5 (HU.out.trans hu5))
      clear ho5 hu5 CS HU
      go_wp2_with fail
      go_end0
      exact HF.out
    · -- more ahead: the first ones change with those behind
      obtain ⟨hx, hy, hp⟩ := HL.out
      obtain ⟨X1, X2, rfl, hl1⟩ := split_at (l := X') (k := j) (by omega)
      have hl2 : X2.length = i - j := by rw [List.length_append] at hx; omega
      have hO2 := HO.out.1
      rw [show P' ++ (X1 ++ X2) ++ Y' ++ Q' = P' ++ X1 ++ X2 ++ Y' ++ Q' by simp] at hO2
      have CS := swapRange_own base A c P' X1 X2 Y' Q' f wr j n hl1 hy (by have := HT.out.2; simp at this ⊢; omega) hsz hO2
      rw [show (P'.length : Int) = (ml : Int) - (i : Int) by omega, show ((P'.length + j + X2.length : Nat) : Int) = (ml : Int) by omega] at CS
      have CS := kept CS
      have HL2 : Kept (X2.length = i - j ∧ X1.length = j ∧ (P' ++ Y').length + (i - j) = ml) := ⟨hl2, hl1, by rw [List.length_append]; omega⟩
      have HT2 : Kept (P' ++ Y' ++ X1 ++ X2 ++ Q' = T ∧ (P' ++ Y' ++ X2 ++ X1 ++ Q').length = n) := ⟨by rw [← HT.out.1]; simp, by have := HT.out.2; simp at this ⊢; omega⟩
      have HU := kept HO.out.2
      have hne : ((i : Int) != (j : Int)) = true := by simp; omega
      have hng : (j : Int) < (i : Int) := by omega
      have ha0 : (0 : Int) ≤ (ml : Int) - (i : Int) := by omega
      have ha2 : (0 : Int) ≤ (i : Int) - (j : Int) := by omega
      have HJI : Kept (((i : Int) - (j : Int)) = ((i - j : Nat) : Int)) := ⟨by omega⟩
      clear hO2 hl1 hl2 hx hy hp HO HT HL
      go_wp2_with fail
      refine CS.out.mono ?_
      rintro e w5 ⟨rfl, ho5, hu5⟩
      have HO5 := kept (And.intro ho5 (HU.out.trans hu5))
      clear ho5 hu5 CS HU
      go_wp2_with fail
      go_roundw
      case rel => (refine ⟨i - j, j, P' ++ Y', X2, X1, Q', by rw [HJI.out], rfl, by omega, by omega, by omega, by omega, HL2, HT2, ?_⟩; with_reducible exact HO5)
      case measure => simp [intOf]; omega
end Go.Proofs.YtfkfpanhbanljaaGreatDoor.Stab

/- slices.SortStableFunc of cards: insertion. -/
namespace Go.Proofs.YtfkfpanhbanljaaGreatDoor.Stab
open Go.RowKit Go.Proofs.YtfkfpanhbanljaaGreatDoor.Mem Go.Proofs.YtfkfpanhbanljaaGreatDoor.Card Go.Proofs.YtfkfpanhbanljaaGreatDoor.List44

/-- the comparison may be asked of these cards, whatever the row holds -/
def CmpOk (A : Option Addr) (n c : Nat) (w : World) (l : List CardM) : Prop := ∀ W x y, Upd (fun b => (Value.slice A n c).ownBlock = some b) w W → x ∈ l → y ∈ l →
  Calls Tryz.prog 65 #[x.val, y.val] W fun e w' => e = .returned (.int .i64 (cmpC x y)) ∧ Below W.heap.size W w'
/-- the row, as it stands in a world -/
def SS (base : Nat) (A : Option Addr) (n c : Nat) (w W : World) (xs : List CardM) : Prop :=
  cardE.Own W base 31 (.slice A n c) xs ∧ Upd (fun b => (Value.slice A n c).ownBlock = some b) w W
section
variable {base n c : Nat} {A : Option Addr} {w W W' : World} {xs l : List CardM}
theorem SS.next (h : SS base A n c w W xs) (hb : Below W.heap.size W W') : SS base A n c w W' xs := ⟨h.1.next hb, h.2.next hb⟩
theorem SS.len (h : SS base A n c w W xs) : xs.length = n := h.1.len.symm
theorem CmpOk.at_ (hc : CmpOk A n c w l) (hs : SS base A n c w W xs) (hx : ∀ x ∈ xs, x ∈ l) {i j : Nat} {x y : CardM} (hi : xs[i]? = some x) (hj : xs[j]? = some y) :
    ∀ W', Below W.heap.size W W' → Calls Tryz.prog 65 #[x.val, y.val] W' fun e w' => e = .returned (.int .i64 (cmpC x y)) ∧ Below W'.heap.size W' w' :=
  fun W' hb => hc W' x y (hs.2.next hb) (hx x (List.mem_of_getElem? hi)) (hx y (List.mem_of_getElem? hj))
/-- the cells of two cards, in all later worlds -/
theorem SS.two (hs : SS base A n c w W xs) {i j : Nat} {x y : CardM} (hi : xs[i]? = some x) (hj : xs[j]? = some y) :
    ∃ g, A = some ⟨g, 0, none⟩ ∧ W.frozen? ⟨g, i * 2, none⟩ = false ∧ W.frozen? ⟨g, i * 2 + 1, none⟩ = false ∧ W.frozen? ⟨g, j * 2, none⟩ = false ∧ W.frozen? ⟨g, j * 2 + 1, none⟩ = false ∧ ∀ W', Below W.heap.size W W' →
      W'.cell? ⟨g, i * 2, none⟩ = some (.int .u64 (x.cid : Int)) ∧ W'.cell? ⟨g, i * 2 + 1, none⟩ = some (.slice x.X x.ls.length x.c) ∧ W'.cell? ⟨g, j * 2, none⟩ = some (.int .u64 (y.cid : Int)) ∧ W'.cell? ⟨g, j * 2 + 1, none⟩ = some (.slice y.X y.ls.length y.c) := by
  obtain ⟨g, rfl, -, hg, c0, c1, f0, f1, -⟩ := card_row hs.1 hi
  obtain ⟨g', e, -, -, d0, d1, k0, k1, -⟩ := card_row hs.1 hj
  obtain rfl : g = g' := congrArg Addr.block (Option.some.inj e)
  exact ⟨g, rfl, f0, f1, k0, k1, fun W' hb => ⟨(hb.cell (p := ⟨g, i * 2, none⟩) hg).trans c0, (hb.cell (p := ⟨g, i * 2 + 1, none⟩) hg).trans c1, (hb.cell (p := ⟨g, j * 2, none⟩) hg).trans d0, (hb.cell (p := ⟨g, j * 2 + 1, none⟩) hg).trans d1⟩⟩
end
/-- the exchange of neighbours, in parts -/
theorem list_next {P Q : List CardM} {u x : CardM} {k : Nat} (hk : k = P.length + 1) :
    (P ++ u :: x :: Q)[k]? = some x ∧ (P ++ u :: x :: Q)[k - 1]? = some u ∧ ((P ++ u :: x :: Q).set k u).set (k - 1) x = P ++ x :: u :: Q := by
  subst hk
  rw [Nat.add_sub_cancel]
  refine ⟨?_, by simp, ?_⟩
  · rw [List.getElem?_append_right (by omega), show P.length + 1 - P.length = 1 by omega]; rfl
  · rw [List.set_append_right _ _ (by omega), show P.length + 1 - P.length = 1 by omega, List.set_append_right _ _ (Nat.le_refl _), Nat.sub_self]; rfl
end Go.Proofs.YtfkfpanhbanljaaGreatDoor.Stab

/- slices.SortStableFunc of cards: insertion, the walk. (printed by tools/gensi.py) -/
namespace Go.Proofs.YtfkfpanhbanljaaGreatDoor.Stab
open Go.RowKit Go.Proofs.YtfkfpanhbanljaaGreatDoor.Mem Go.Proofs.YtfkfpanhbanljaaGreatDoor.Card Go.Proofs.YtfkfpanhbanljaaGreatDoor.List44

theorem ins_at {U V : List CardM} {u x : CardM} (hT : Srt ltC (U ++ [u] ++ V)) (h : ltC x u = false) (hV : ∀ v ∈ V, ltC x v = true) : ins ltC (U ++ [u] ++ V) x = U ++ [u] ++ x :: V := by
  refine ins_split (U ++ [u]) V x (fun q hq => ?_) fun v hv => hV v (List.mem_of_mem_head? hv)
  rcases List.mem_append.1 hq with hq | hq
  · have h1 : ltC u q = false := by
      have h2 := List.pairwise_append.1 (List.pairwise_append.1 hT).1
      exact h2.2.2 q hq u (List.mem_singleton.2 rfl)
    exact swoC.neg x u q h h1
  · rw [List.mem_singleton.1 hq]; exact h
set_option maxRecDepth 100000 in
set_option maxHeartbeats 8000000 in
theorem insC_own (base : Nat) (A : Option Addr) (c n : Nat) (P S Q l : List CardM) (w : World) (hn : (P ++ S ++ Q).length = n) (hsz : n ≤ 1000000) (h : cardE.Own w base 31 (.slice A n c) (P ++ S ++ Q)) (hc : CmpOk A n c w l) (hS : ∀ x ∈ S, x ∈ l) :
    Calls Tryz.prog 121 #[.slice A n c, .int .i64 (P.length : Int), .int .i64 ((P.length + S.length : Nat) : Int), .func (.func 65) #[] #[]] w (RowTo base A n c w (P ++ stab ltC S ++ Q)) := by
  have HCMP := kept hc
  have HSL := kept hS
  have H0 : Kept (SS base A n c w w (P ++ stab ltC (S.take 1) ++ S.drop 1 ++ Q)) := ⟨by
    have e : P ++ stab ltC (S.take 1) ++ S.drop 1 ++ Q = P ++ S ++ Q := by
      cases S with
      | nil => simp [stab]
      | cons a S => simp [stab, ins]
    exact ⟨by rw [e]; exact h, Upd.refl _ _⟩⟩
  obtain ⟨T0, hT0⟩ : ∃ T0, P ++ stab ltC S ++ Q = T0 := ⟨_, rfl⟩
  have HR : Kept (∀ W, SS base A n c w W (P ++ stab ltC S ++ Q) → RowTo base A n c w T0 (.returned (.tuple #[])) W) := ⟨fun W h => ⟨rfl, by rw [← hT0]; exact h.1, h.2⟩⟩
  rw [hT0]
  clear hT0
  have HN := kept hn
  obtain ⟨pl, hpl⟩ : ∃ pl, P.length = pl := ⟨_, rfl⟩
  obtain ⟨sl, hsl⟩ : ∃ sl, S.length = sl := ⟨_, rfl⟩
  have hle : pl + sl ≤ n := by simp at hn; omega
  have HPL := kept hpl
  have HSN := kept hsl
  rw [hpl, hsl]
  obtain ⟨bl, hbl⟩ : ∃ bl, pl + sl = bl := ⟨_, rfl⟩
  rw [hbl]
  have hble : pl ≤ bl := by omega
  have hbln : bl ≤ n := by omega
  have hblk : ∀ k, pl + k < bl ↔ k < sl := fun k => by omega
  have HBK := kept hblk
  clear hn hpl hsl hbl hle h hc hS hblk
  go_enter Tryz.func121, Tryz.ntmps121
  go_wp2_with fail
  go_loopw [8] (fun iv wr => ∃ (k i : Nat), 1 ≤ k ∧ (k ≤ sl ∨ k = 1) ∧ Kept (i = pl + k) ∧ iv = .int .i64 (i : Int) ∧ Kept (SS base A n c w wr (P ++ stab ltC (S.take k) ++ S.drop k ++ Q))) (fun iv _ => bl - (intOf iv).toNat)
  case atStart => exact ⟨1, pl + 1, Nat.le_refl _, .inr rfl, ⟨rfl⟩, by go_num, H0⟩
  case round =>
    clear H0
    obtain ⟨k, i, hk1, hk2, hik, rfl, HSS⟩ := hrel
    by_cases hlt : k < sl
    · have hib : i < bl := by rw [hik.out]; exact (HBK.out k).2 hlt
      have hibn : (i : Int) < (bl : Int) := by omega
      obtain ⟨x, hx⟩ : ∃ x, S[k]? = some x := ⟨_, List.getElem?_eq_getElem (by rw [HSN.out]; exact hlt)⟩
      have hdr : S.drop k = x :: S.drop (k + 1) := by
        obtain ⟨h1, h2⟩ := List.getElem?_eq_some_iff.1 hx
        rw [← h2]; exact List.drop_eq_getElem_cons h1
      have htk : S.take (k + 1) = S.take k ++ [x] := by
        obtain ⟨h1, h2⟩ := List.getElem?_eq_some_iff.1 hx
        rw [List.take_succ_eq_append_getElem h1, h2]
      have hst : stab ltC (S.take (k + 1)) = ins ltC (stab ltC (S.take k)) x := by rw [htk, stab_snoc]
      have hTs := stab_srt swoC (S.take k)
      have hTl : (stab ltC (S.take k)).length = k := by rw [stab_len, List.length_take, HSN.out]; omega
      have hTm : ∀ y ∈ stab ltC (S.take k), y ∈ l := fun y hy => HSL.out y (List.mem_of_mem_take ((stab_perm (S.take k)).mem_iff.1 hy))
      have hxl := HSL.out x (List.mem_of_getElem? hx)
      have HSS2 := HSS.out
      rw [hdr] at HSS2
      generalize hT : stab ltC (S.take k) = T at *
      have HIN : Kept (∀ U V, T = U ++ V → (∀ v ∈ V, ltC x v = true) → (∀ u U', U = U' ++ [u] → ltC x u = false) → ins ltC T x = U ++ x :: V) := ⟨fun U V e h1 h2 => by
        rcases List.eq_nil_or_concat U with rfl | ⟨U', u, rfl⟩
        · rw [e]; exact ins_split [] V x (fun _ h => by cases h) fun v hv => h1 v (List.mem_of_mem_head? hv)
        · rw [List.concat_eq_append] at e h2 ⊢
          rw [e] at hTs ⊢
          exact ins_at hTs (h2 u U' rfl) h1⟩
      have HD : Kept (∀ W, SS base A n c w W (P ++ ins ltC T x ++ S.drop (k + 1) ++ Q) → SS base A n c w W (P ++ stab ltC (S.take (k + 1)) ++ S.drop (k + 1) ++ Q)) := ⟨fun W h => by rw [hst]; exact h⟩
      have HTM := kept hTm
      have HXL := kept hxl
      have H1 : Kept (∃ U V, T = U ++ V ∧ i = pl + U.length ∧ (∀ v ∈ V, ltC x v = true) ∧ SS base A n c w wr (P ++ U ++ x :: V ++ S.drop (k + 1) ++ Q)) := ⟨T, [], by simp, by rw [hTl]; exact hik.out, fun v hv => (by cases hv), by
        have e : P ++ T ++ [x] ++ S.drop (k + 1) ++ Q = P ++ T ++ x :: S.drop (k + 1) ++ Q := by simp
        rw [e]; exact HSS2⟩
      clear hdr htk hst hTs hTl hTm hxl HSS2 HSS hx hT
      obtain ⟨R, hR⟩ : ∃ R, R = S.drop (k + 1) := ⟨_, rfl⟩
      have HD2 : Kept (∀ W, SS base A n c w W (P ++ ins ltC T x ++ R ++ Q) → SS base A n c w W (P ++ stab ltC (S.take (k + 1)) ++ S.drop (k + 1) ++ Q)) := ⟨fun W h => HD.out W (by rw [← hR]; exact h)⟩
      rw [← hR] at H1
      clear HD hR
      have HD := HD2
      clear HD2
      go_wp2_with fail
      go_loopw [9] (fun jv wr => ∃ (q : Nat) (U V : List CardM), jv = .int .i64 (q : Int) ∧ q ≤ i ∧ Kept (T = U ++ V ∧ q = pl + U.length ∧ (∀ v ∈ V, ltC x v = true) ∧ SS base A n c w wr (P ++ U ++ x :: V ++ R ++ Q))) (fun jv _ => (intOf jv).toNat)
      case atStart =>
        obtain ⟨U, V, h1, h2, h3, h4⟩ := H1.out
        exact ⟨i, U, V, rfl, Nat.le_refl _, ⟨h1, h2, h3, h4⟩⟩
      case round =>
        clear H1
        obtain ⟨q, U, V, rfl, hqi, HI⟩ := hrel
        rcases List.eq_nil_or_concat U with rfl | ⟨U', u, rfl⟩
        · have hqp : q = pl := by have := HI.out.2.1; simpa using this
          subst hqp
          have hge : ¬ (q : Int) < (q : Int) := by omega
          have hge2 : ¬ q < q := by omega
          have HF : Kept (SS base A n c w wr (P ++ stab ltC (S.take (k + 1)) ++ S.drop (k + 1) ++ Q)) := ⟨HD.out wr (by
            rw [HIN.out [] V HI.out.1 HI.out.2.2.1 fun u U' e => by simp at e]
            have e6 : P ++ ([] ++ x :: V) ++ R ++ Q = P ++ [] ++ x :: V ++ R ++ Q := by simp
            rw [e6]
            exact HI.out.2.2.2)⟩
          clear HI HIN HD HTM
          have hd0 : Below wr.heap.size wr wr := Below.refl _ _
          go_upto_region 4 with fail
          go_cut [34] (fun v wr' => v = .bool false ∧ Kept (Below wr.heap.size wr wr'))
          case first =>
            clear HF
            refine wp_region_noPanic ?_
            refine wp_region_held_drew (S := fun W => True) (by kernel_rfl) trivial (fun hS0 => ?_)
            refine wpAnyH_take (i := 0) (v := ?_) rfl (by kernel_rfl) (by kernel_rfl) (by kernel_rfl) (fun _ _ _ h => h) (Or.inl ⟨by rfl, ?_⟩) hS0 ?_
            case refine_2 => (intro W hSW; go_simp; try with_reducible rfl)
            try simp only [Act.put, List.setIfInBounds_toArray, List.set_cons_zero, List.set_cons_succ, List.getElem_toArray, List.getElem_cons_zero, List.getElem_cons_succ]
            refine wpAnyH_take (i := 1) (v := ?_) rfl (by kernel_rfl) (by kernel_rfl) (by kernel_rfl) (fun _ _ _ h => h) (Or.inl ⟨by rfl, ?_⟩) hS0 ?_
            case refine_2 => (intro W hSW; go_simp; try with_reducible rfl)
            try simp only [Act.put, List.setIfInBounds_toArray, List.set_cons_zero, List.set_cons_succ, List.getElem_toArray, List.getElem_cons_zero, List.getElem_cons_succ]
            refine wpAnyH_take (i := 2) (v := ?_) rfl (by kernel_rfl) (by kernel_rfl) (by kernel_rfl) (fun _ _ _ h => h) (Or.inl ⟨by rfl, ?_⟩) hS0 ?_
            case refine_2 => (intro W hSW; go_simp; try with_reducible rfl)
            try simp only [Act.put, List.setIfInBounds_toArray, List.set_cons_zero, List.set_cons_succ, List.getElem_toArray, List.getElem_cons_zero, List.getElem_cons_succ]
            refine wpAnyH_take (i := 3) (v := ?_) rfl (by kernel_rfl) (by kernel_rfl) (by kernel_rfl) (fun _ _ _ h => h) (Or.inl ⟨by rfl, ?_⟩) hS0 ?_
            case refine_2 => (intro W hSW; go_simp; try with_reducible rfl)
            try simp only [Act.put, List.setIfInBounds_toArray, List.set_cons_zero, List.set_cons_succ, List.getElem_toArray, List.getElem_cons_zero, List.getElem_cons_succ]
            refine wpAnyH_take (i := 4) (v := undef) rfl (by kernel_rfl) (by kernel_rfl) (by kernel_rfl) (fun _ _ _ h => h) (Or.inr ⟨by rfl, rfl⟩) hS0 ?_
            try simp only [Act.put, List.setIfInBounds_toArray, List.set_cons_zero, List.set_cons_succ, List.getElem_toArray, List.getElem_cons_zero, List.getElem_cons_succ]
            refine wpAnyH_take (i := 5) (v := undef) rfl (by kernel_rfl) (by kernel_rfl) (by kernel_rfl) (fun _ _ _ h => h) (Or.inr ⟨by rfl, rfl⟩) hS0 ?_
            try simp only [Act.put, List.setIfInBounds_toArray, List.set_cons_zero, List.set_cons_succ, List.getElem_toArray, List.getElem_cons_zero, List.getElem_cons_succ]
            refine wpAnyH_take (i := 6) (v := undef) rfl (by kernel_rfl) (by kernel_rfl) (by kernel_rfl) (fun _ _ _ h => h) (Or.inr ⟨by rfl, rfl⟩) hS0 ?_
            try simp only [Act.put, List.setIfInBounds_toArray, List.set_cons_zero, List.set_cons_succ, List.getElem_toArray, List.getElem_cons_zero, List.getElem_cons_succ]
            refine wpAnyH_take (i := 7) (v := undef) rfl (by kernel_rfl) (by kernel_rfl) (by kernel_rfl) (fun _ _ _ h => h) (Or.inr ⟨by rfl, rfl⟩) hS0 ?_
            try simp only [Act.put, List.setIfInBounds_toArray, List.set_cons_zero, List.set_cons_succ, List.getElem_toArray, List.getElem_cons_zero, List.getElem_cons_succ]
            refine wpAnyH_take (i := 8) (v := undef) rfl (by kernel_rfl) (by kernel_rfl) (by kernel_rfl) (fun _ _ _ h => h) (Or.inr ⟨by rfl, rfl⟩) hS0 ?_
            try simp only [Act.put, List.setIfInBounds_toArray, List.set_cons_zero, List.set_cons_succ, List.getElem_toArray, List.getElem_cons_zero, List.getElem_cons_succ]
            refine wpAnyH_take (i := 9) (v := undef) rfl (by kernel_rfl) (by kernel_rfl) (by kernel_rfl) (fun _ _ _ h => h) (Or.inr ⟨by rfl, rfl⟩) hS0 ?_
            try simp only [Act.put, List.setIfInBounds_toArray, List.set_cons_zero, List.set_cons_succ, List.getElem_toArray, List.getElem_cons_zero, List.getElem_cons_succ]
            refine wpAnyH_take (i := 10) (v := undef) rfl (by kernel_rfl) (by kernel_rfl) (by kernel_rfl) (fun _ _ _ h => h) (Or.inr ⟨by rfl, rfl⟩) hS0 ?_
            try simp only [Act.put, List.setIfInBounds_toArray, List.set_cons_zero, List.set_cons_succ, List.getElem_toArray, List.getElem_cons_zero, List.getElem_cons_succ]
            refine wpAnyH_take (i := 11) (v := undef) rfl (by kernel_rfl) (by kernel_rfl) (by kernel_rfl) (fun _ _ _ h => h) (Or.inr ⟨by rfl, rfl⟩) hS0 ?_
            try simp only [Act.put, List.setIfInBounds_toArray, List.set_cons_zero, List.set_cons_succ, List.getElem_toArray, List.getElem_cons_zero, List.getElem_cons_succ]
            refine wpAnyH_take (i := 12) (v := undef) rfl (by kernel_rfl) (by kernel_rfl) (by kernel_rfl) (fun _ _ _ h => h) (Or.inr ⟨by rfl, rfl⟩) hS0 ?_
            try simp only [Act.put, List.setIfInBounds_toArray, List.set_cons_zero, List.set_cons_succ, List.getElem_toArray, List.getElem_cons_zero, List.getElem_cons_succ]
            refine wpAnyH_take (i := 13) (v := undef) rfl (by kernel_rfl) (by kernel_rfl) (by kernel_rfl) (fun _ _ _ h => h) (Or.inr ⟨by rfl, rfl⟩) hS0 ?_
            try simp only [Act.put, List.setIfInBounds_toArray, List.set_cons_zero, List.set_cons_succ, List.getElem_toArray, List.getElem_cons_zero, List.getElem_cons_succ]
            refine wpAnyH_take (i := 14) (v := undef) rfl (by kernel_rfl) (by kernel_rfl) (by kernel_rfl) (fun _ _ _ h => h) (Or.inr ⟨by rfl, rfl⟩) hS0 ?_
            try simp only [Act.put, List.setIfInBounds_toArray, List.set_cons_zero, List.set_cons_succ, List.getElem_toArray, List.getElem_cons_zero, List.getElem_cons_succ]
            refine wpAnyH_take (i := 15) (v := undef) rfl (by kernel_rfl) (by kernel_rfl) (by kernel_rfl) (fun _ _ _ h => h) (Or.inr ⟨by rfl, rfl⟩) hS0 ?_
            try simp only [Act.put, List.setIfInBounds_toArray, List.set_cons_zero, List.set_cons_succ, List.getElem_toArray, List.getElem_cons_zero, List.getElem_cons_succ]
            refine wpAnyH_take (i := 16) (v := ?_) rfl (by kernel_rfl) (by kernel_rfl) (by kernel_rfl) (fun _ _ _ h => h) (Or.inl ⟨by rfl, ?_⟩) hS0 ?_
            case refine_2 => (intro W hSW; go_simp; try with_reducible rfl)
            try simp only [Act.put, List.setIfInBounds_toArray, List.set_cons_zero, List.set_cons_succ, List.getElem_toArray, List.getElem_cons_zero, List.getElem_cons_succ]
            refine wpAnyH_done (by kernel_rfl) (NoPanic.normal ?_) _
            go_wp2_with fail
            go_meet
            exact ⟨rfl, ⟨hd0.drew⟩⟩
          case rest =>
            obtain ⟨rfl, hcut⟩ := hcut
            have HF2 := kept (HF.out.next hcut.out)
            obtain ⟨w4, hw4⟩ : ∃ w4 : World, w4 = wc := ⟨_, rfl⟩
            rw [← hw4] at HF2 ⊢
            clear hw4 hcut HF hd0
            go_wp2_with fail
            go_roundw
            case rel => (refine ⟨k + 1, i + 1, by omega, .inl (by omega), ⟨by rw [hik.out]; omega⟩, by go_num, ?_⟩; with_reducible exact HF2)
            case measure => simp [intOf]; omega
        · rw [List.concat_eq_append] at HI
          have hq1 : q = (P ++ U').length + 1 := by have := HI.out.2.1; rw [List.length_append, List.length_append, HPL.out] at *; simp at this; omega
          have hqp : pl < q := by have := HI.out.2.1; simp at this; omega
          have hqn : q < n := by omega
          have e1 : P ++ (U' ++ [u]) ++ x :: V ++ R ++ Q = (P ++ U') ++ u :: x :: (V ++ R ++ Q) := by simp
          have e2 : (P ++ U') ++ x :: u :: (V ++ R ++ Q) = P ++ U' ++ x :: (u :: V) ++ R ++ Q := by simp
          obtain ⟨l1, l2, l3⟩ := list_next (u := u) (x := x) (Q := V ++ R ++ Q) hq1
          have hss := HI.out.2.2.2
          rw [e1] at hss
          obtain ⟨g, rfl, f0, f1, k0, k1, hcc⟩ := hss.two l1 l2
          have CL := kept (fun W' (hb : Below wr.heap.size wr W') => HCMP.out W' x u (hss.2.next hb) HXL.out (HTM.out u (by rw [HI.out.1]; simp)))
          have HLT : Kept (ltC x u = decide (cmpC x u < 0)) := ⟨rfl⟩
          have HNO : Kept (ltC x u = false → SS base (some ⟨g, 0, none⟩) n c w wr (P ++ stab ltC (S.take (k + 1)) ++ S.drop (k + 1) ++ Q)) := ⟨fun h => HD.out wr (by
            rw [HIN.out (U' ++ [u]) V HI.out.1 HI.out.2.2.1 fun u2 U2 e => by
              have e3 := List.append_inj' e rfl
              have e4 : u = u2 := by simpa using e3.2
              rw [← e4]; exact h]
            have e5 : P ++ (U' ++ [u] ++ x :: V) ++ R ++ Q = P ++ (U' ++ [u]) ++ x :: V ++ R ++ Q := by simp
            rw [e5]; exact HI.out.2.2.2)⟩
          have HYES : Kept (ltC x u = true → T = U' ++ (u :: V) ∧ q - 1 = pl + U'.length ∧ (∀ v ∈ u :: V, ltC x v = true)) := ⟨fun h => ⟨by rw [HI.out.1]; simp, by have := HI.out.2.1; simp at this; omega, fun v hv => by
            rcases List.mem_cons.1 hv with rfl | hv
            · exact h
            · exact HI.out.2.2.1 v hv⟩⟩
          have HSW : Kept (∀ W, Below wr.heap.size wr W → SS base (some ⟨g, 0, none⟩) n c w (swW W g q (q - 1) x u) (P ++ U' ++ x :: (u :: V) ++ R ++ Q)) := ⟨fun W hb => by
            have h1 := hss.next hb
            have h2 := swW_own h1.1 l1 l2 (show q ≠ q - 1 by omega)
            rw [l3, e2] at h2
            exact ⟨h2, swW_upd h1.2 rfl _ _⟩⟩
          have HC := kept hcc
          have HFZ : Kept (∀ W, Below wr.heap.size wr W → W.frozen? ⟨g, q * 2, none⟩ = false ∧ W.frozen? ⟨g, q * 2 + 1, none⟩ = false ∧ W.frozen? ⟨g, (q - 1) * 2, none⟩ = false ∧ W.frozen? ⟨g, (q - 1) * 2 + 1, none⟩ = false) := ⟨fun W hb => by
            obtain ⟨g', e, k0', k1', f0', f1', -⟩ := (hss.next hb).two l2 l1
            obtain rfl : g = g' := congrArg Addr.block (Option.some.inj e)
            exact ⟨f0', f1', k0', k1'⟩⟩
          clear hcc f0 f1 k0 k1 e1 e2 l1 l2 l3 hss HI HIN HD HTM
          obtain ⟨xcid, xX, xls, xc⟩ := x
          obtain ⟨ucid, uX, uls, uc⟩ := u
          unfold CardM.val at CL
          dsimp only at HC CL HLT HNO HYES HSW
          unfold swW at HSW
          dsimp only at HSW
          have hgt : (pl : Int) < (q : Int) := by omega
          have hq1n : q - 1 < n := by omega
          have hqi2 : (0 : Int) ≤ ((q - 1 : Nat) : Int) := by omega
          have hqi3 : ((q - 1 : Nat) : Int) < (n : Int) := by omega
          have hqi4 : (q : Int) < (n : Int) := by omega
          have hne : ¬ q = q - 1 := by omega
          have hne2 : ¬ q - 1 = q := by omega
          have HW1 : Kept (IntKind.i64.wrap ((q : Int) - 1) = ((q - 1 : Nat) : Int)) := ⟨by rw [IntWalk.i64_in _ (by omega)]; omega⟩
          have HQI : Kept (((q : Int) - 1) = ((q - 1 : Nat) : Int)) := ⟨by omega⟩
          clear hq1
          generalize hcz : cmpC ⟨xcid, xX, xls, xc⟩ ⟨ucid, uX, uls, uc⟩ = z at *
          clear hcz
          obtain ⟨d, hd⟩ : ∃ d, ltC ⟨xcid, xX, xls, xc⟩ ⟨ucid, uX, uls, uc⟩ = d := ⟨_, rfl⟩
          rw [hd] at HLT HNO HYES
          have hdz : decide (z < 0) = d := HLT.out.symm
          clear hd HLT
          go_upto_region 4 with fail
          go_cut [34] (fun v wr' => v = .bool d ∧ Kept (Below wr.heap.size wr wr'))
          case first =>
            have hd0 : Below wr.heap.size wr wr := Below.refl _ _
            have hw1 := HW1.out
            clear HNO HYES HSW HFZ HQI
            refine wp_region_noPanic ?_
            refine wp_region_held_drew (S := fun W => W.cell? ⟨g, q * 2, none⟩ = some (.int .u64 (xcid : Int)) ∧ W.cell? ⟨g, q * 2 + 1, none⟩ = some (.slice xX xls.length xc) ∧ W.cell? ⟨g, (q - 1) * 2, none⟩ = some (.int .u64 (ucid : Int)) ∧ W.cell? ⟨g, (q - 1) * 2 + 1, none⟩ = some (.slice uX uls.length uc)) (by kernel_rfl) (HC.out _ (by (repeat (first | with_reducible assumption | with_reducible refine below_new ?_ _ | with_reducible refine Below.drew ?_ | with_reducible exact Below.refl _ _)))) (fun hS0 => ?_)
            refine wpAnyH_take (i := 0) (v := ?_) rfl (by kernel_rfl) (by kernel_rfl) (by kernel_rfl) (fun _ _ _ h => h) (Or.inl ⟨by rfl, ?_⟩) hS0 ?_
            case refine_2 => (intro W hSW; go_simp; try with_reducible rfl)
            try simp only [Act.put, List.setIfInBounds_toArray, List.set_cons_zero, List.set_cons_succ, List.getElem_toArray, List.getElem_cons_zero, List.getElem_cons_succ]
            refine wpAnyH_take (i := 1) (v := ?_) rfl (by kernel_rfl) (by kernel_rfl) (by kernel_rfl) (fun _ _ _ h => h) (Or.inl ⟨by rfl, ?_⟩) hS0 ?_
            case refine_2 => (intro W hSW; go_simp; try with_reducible rfl)
            try simp only [Act.put, List.setIfInBounds_toArray, List.set_cons_zero, List.set_cons_succ, List.getElem_toArray, List.getElem_cons_zero, List.getElem_cons_succ]
            refine wpAnyH_take (i := 2) (v := ?_) rfl (by kernel_rfl) (by kernel_rfl) (by kernel_rfl) (fun _ _ _ h => h) (Or.inl ⟨by rfl, ?_⟩) hS0 ?_
            case refine_2 => (intro W hSW; go_simp; try with_reducible rfl)
            try simp only [Act.put, List.setIfInBounds_toArray, List.set_cons_zero, List.set_cons_succ, List.getElem_toArray, List.getElem_cons_zero, List.getElem_cons_succ]
            refine wpAnyH_take (i := 3) (v := ?_) rfl (by kernel_rfl) (by kernel_rfl) (by kernel_rfl) (fun _ _ _ h => h) (Or.inl ⟨by rfl, ?_⟩) hS0 ?_
            case refine_2 => (intro W hSW; go_simp; try with_reducible rfl)
            try simp only [Act.put, List.setIfInBounds_toArray, List.set_cons_zero, List.set_cons_succ, List.getElem_toArray, List.getElem_cons_zero, List.getElem_cons_succ]
            refine wpAnyH_take (i := 4) (v := ?_) rfl (by kernel_rfl) (by kernel_rfl) (by kernel_rfl) (fun _ _ _ h => h) (Or.inl ⟨by rfl, ?_⟩) hS0 ?_
            case refine_2 => (intro W hSW; go_simp; try with_reducible rfl)
            try simp only [Act.put, List.setIfInBounds_toArray, List.set_cons_zero, List.set_cons_succ, List.getElem_toArray, List.getElem_cons_zero, List.getElem_cons_succ]
            refine wpAnyH_take (i := 5) (v := ?_) rfl (by kernel_rfl) (by kernel_rfl) (by kernel_rfl) (fun _ _ _ h => h) (Or.inl ⟨by rfl, ?_⟩) hS0 ?_
            case refine_2 => (intro W hSW; go_simp; try with_reducible rfl)
            try simp only [Act.put, List.setIfInBounds_toArray, List.set_cons_zero, List.set_cons_succ, List.getElem_toArray, List.getElem_cons_zero, List.getElem_cons_succ]
            refine wpAnyH_take (i := 6) (v := ?_) rfl (by kernel_rfl) (by kernel_rfl) (by kernel_rfl) (fun _ _ _ h => h) (Or.inl ⟨by rfl, ?_⟩) hS0 ?_
            case refine_2 => (intro W hSW; go_simp; try with_reducible rfl)
            try simp only [Act.put, List.setIfInBounds_toArray, List.set_cons_zero, List.set_cons_succ, List.getElem_toArray, List.getElem_cons_zero, List.getElem_cons_succ]
            refine wpAnyH_take (i := 7) (v := ?_) rfl (by kernel_rfl) (by kernel_rfl) (by kernel_rfl) (fun _ _ _ h => h) (Or.inl ⟨by rfl, ?_⟩) hS0 ?_
            case refine_2 => (intro W hSW; go_simp; try with_reducible rfl)
            try simp only [Act.put, List.setIfInBounds_toArray, List.set_cons_zero, List.set_cons_succ, List.getElem_toArray, List.getElem_cons_zero, List.getElem_cons_succ]
            refine wpAnyH_take (i := 8) (v := ?_) rfl (by kernel_rfl) (by kernel_rfl) (by kernel_rfl) (fun _ _ _ h => h) (Or.inl ⟨by rfl, ?_⟩) hS0 ?_
            case refine_2 => (intro W hSW; obtain ⟨z0, z1, z2, z3⟩ := hSW; go_simp; try with_reducible rfl)
            try simp only [Act.put, List.setIfInBounds_toArray, List.set_cons_zero, List.set_cons_succ, List.getElem_toArray, List.getElem_cons_zero, List.getElem_cons_succ]
            refine wpAnyH_take (i := 9) (v := ?_) rfl (by kernel_rfl) (by kernel_rfl) (by kernel_rfl) (fun _ _ _ h => h) (Or.inl ⟨by rfl, ?_⟩) hS0 ?_
            case refine_2 => (intro W hSW; go_simp; try with_reducible rfl)
            try simp only [Act.put, List.setIfInBounds_toArray, List.set_cons_zero, List.set_cons_succ, List.getElem_toArray, List.getElem_cons_zero, List.getElem_cons_succ]
            refine wpAnyH_take (i := 10) (v := ?_) rfl (by kernel_rfl) (by kernel_rfl) (by kernel_rfl) (fun _ _ _ h => h) (Or.inl ⟨by rfl, ?_⟩) hS0 ?_
            case refine_2 => (intro W hSW; go_simp; try with_reducible rfl)
            try simp only [Act.put, List.setIfInBounds_toArray, List.set_cons_zero, List.set_cons_succ, List.getElem_toArray, List.getElem_cons_zero, List.getElem_cons_succ]
            refine wpAnyH_take (i := 11) (v := ?_) rfl (by kernel_rfl) (by kernel_rfl) (by kernel_rfl) (fun _ _ _ h => h) (Or.inl ⟨by rfl, ?_⟩) hS0 ?_
            case refine_2 => (intro W hSW; go_simp; try with_reducible rfl)
            try simp only [Act.put, List.setIfInBounds_toArray, List.set_cons_zero, List.set_cons_succ, List.getElem_toArray, List.getElem_cons_zero, List.getElem_cons_succ]
            refine wpAnyH_take (i := 12) (v := ?_) rfl (by kernel_rfl) (by kernel_rfl) (by kernel_rfl) (fun _ _ _ h => h) (Or.inl ⟨by rfl, ?_⟩) hS0 ?_
            case refine_2 => (intro W hSW; go_simp; try with_reducible rfl)
            try simp only [Act.put, List.setIfInBounds_toArray, List.set_cons_zero, List.set_cons_succ, List.getElem_toArray, List.getElem_cons_zero, List.getElem_cons_succ]
            refine wpAnyH_take (i := 13) (v := ?_) rfl (by kernel_rfl) (by kernel_rfl) (by kernel_rfl) (fun _ _ _ h => h) (Or.inl ⟨by rfl, ?_⟩) hS0 ?_
            case refine_2 => (intro W hSW; obtain ⟨z0, z1, z2, z3⟩ := hSW; go_simp; try with_reducible rfl)
            try simp only [Act.put, List.setIfInBounds_toArray, List.set_cons_zero, List.set_cons_succ, List.getElem_toArray, List.getElem_cons_zero, List.getElem_cons_succ]
            refine wpAnyH_ready (rs := [14]) (by kernel_rfl) (by simp) ?_
            refine AllReadyH.cons rfl (fun K' hK => ?_) AllReadyH.nil
            go_simp
            go_at_call 65
            refine (CL.out _ (by (repeat (first | with_reducible assumption | with_reducible refine below_new ?_ _ | with_reducible refine Below.drew ?_ | with_reducible exact Below.refl _ _)))).mono ?_
            rintro e x1 ⟨rfl, hx1⟩
            have hk1 : Below wr.heap.size wr x1 := below_next (by (repeat (first | with_reducible assumption | with_reducible refine below_new ?_ _ | with_reducible refine Below.drew ?_ | with_reducible exact Below.refl _ _))) hx1
            try simp only [Act.put, List.setIfInBounds_toArray, List.set_cons_zero, List.set_cons_succ, List.getElem_toArray, List.getElem_cons_zero, List.getElem_cons_succ]
            refine hK.out _ _ (HC.out x1 hk1) (fun hS0 => ?_)
            refine wpAnyH_take (i := 15) (v := ?_) rfl (by kernel_rfl) (by kernel_rfl) (by kernel_rfl) (fun _ _ _ h => h) (Or.inl ⟨by rfl, ?_⟩) hS0 ?_
            case refine_2 => (intro W hSW; go_simp; try with_reducible rfl)
            try simp only [Act.put, List.setIfInBounds_toArray, List.set_cons_zero, List.set_cons_succ, List.getElem_toArray, List.getElem_cons_zero, List.getElem_cons_succ]
            refine wpAnyH_take (i := 16) (v := ?_) rfl (by kernel_rfl) (by kernel_rfl) (by kernel_rfl) (fun _ _ _ h => h) (Or.inl ⟨by rfl, ?_⟩) hS0 ?_
            case refine_2 => (intro W hSW; go_simp; try with_reducible rfl)
            try simp only [Act.put, List.setIfInBounds_toArray, List.set_cons_zero, List.set_cons_succ, List.getElem_toArray, List.getElem_cons_zero, List.getElem_cons_succ]
            refine wpAnyH_done (by kernel_rfl) (NoPanic.normal ?_) _
            go_wp2_with fail
            go_meet
            exact ⟨rfl, ⟨hk1⟩⟩
          case rest =>
            obtain ⟨rfl, hcut⟩ := hcut
            obtain ⟨c0, c1, d0, d1⟩ := HC.out wc hcut.out
            obtain ⟨f0, f1, k0, k1⟩ := HFZ.out wc hcut.out
            have HSW2 := kept (HSW.out wc hcut.out)
            have HNO2 : Kept (d = false → SS base (some ⟨g, 0, none⟩) n c w wc (P ++ stab ltC (S.take (k + 1)) ++ S.drop (k + 1) ++ Q)) := ⟨fun h => (HNO.out h).next hcut.out⟩
            obtain ⟨w4, hw4⟩ : ∃ w4 : World, w4 = wc := ⟨_, rfl⟩
            rw [← hw4] at HSW2 HNO2 c0 c1 d0 d1 f0 f1 k0 k1 ⊢
            clear hw4 hcut HC HFZ HSW HNO CL hdz
            cases d with
            | false =>
              have HF2 := kept (HNO2.out rfl)
              clear HSW2 HNO2 HYES c0 c1 d0 d1 f0 f1 k0 k1
              go_wp2_with fail
              go_roundw
              case rel => (refine ⟨k + 1, i + 1, by omega, .inl (by omega), ⟨by rw [hik.out]; omega⟩, by go_num, ?_⟩; with_reducible exact HF2)
              case measure => simp [intOf]; omega
            | true =>
              obtain ⟨t1, t2, t3⟩ := HYES.out rfl
              have HT3 := kept (And.intro t1 (And.intro t2 t3))
              clear HNO2 HYES t1 t2 t3
              have hw1 := HW1.out
              go_upto_region 6 with fail
              go_region
              all_goals
                clear hw1
                go_wp2_with fail
                go_roundw
                case rel => (refine ⟨q - 1, U', ⟨ucid, uX, uls, uc⟩ :: V, by first | rfl | (rw [HQI.out]), by omega, ⟨HT3.out.1, HT3.out.2.1, HT3.out.2.2, ?_⟩⟩; with_reducible exact HSW2.out)
                case measure => simp [intOf]; omega
    · have hib : ¬ i < bl := by rw [hik.out]; exact fun h => hlt ((HBK.out k).1 h)
      have hibn : ¬ (i : Int) < (bl : Int) := by omega
      have HF := kept (HR.out wr (by
        have h1 := HSS.out
        rw [List.take_of_length_le (by rw [HSN.out]; omega), List.drop_of_length_le (by rw [HSN.out]; omega)] at h1
        simpa using h1))
      go_wp2_with fail
      go_end0
      exact HF.out
end Go.Proofs.YtfkfpanhbanljaaGreatDoor.Stab
