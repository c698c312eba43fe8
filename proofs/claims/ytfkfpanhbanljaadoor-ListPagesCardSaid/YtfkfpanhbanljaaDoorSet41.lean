import Derived.Test.YtfkfpanhbanljaaDoorSet14
import Derived.Test.YtfkfpanhbanljaaDoorSet13
import Derived.Test.YtfkfpanhbanljaaDoorStabMath
import Derived.IntWalk
import Derived.BigQuiet
import Derived.Deep.DeepCutAuto
/- slices.SortStableFunc of cards: exchanging two cards, two rows of cards. -/
namespace Go.Proofs.YtfkfpanhbanljaaDoor.Stab
open Go.RowKit Go.Proofs.YtfkfpanhbanljaaDoor.Mem Go.Proofs.YtfkfpanhbanljaaDoor.Card

/-- a card stored at a place of a row -/
def putC (w : World) (g i : Nat) (y : CardM) : World := (w.setCell ⟨g, i * 2, none⟩ (.int .u64 (y.cid : Int))).setCell ⟨g, i * 2 + 1, none⟩ (.slice y.X y.ls.length y.c)
theorem card_row {w : World} {base : Nat} {A : Option Addr} {n c : Nat} {xs : List CardM} (h : cardE.Own w base 28 (.slice A n c) xs) {i : Nat} {x : CardM} (hi : xs[i]? = some x) :
    ∃ g, A = some ⟨g, 0, none⟩ ∧ base ≤ g ∧ g < w.heap.size ∧ w.cell? ⟨g, i * 2, none⟩ = some (.int .u64 (x.cid : Int)) ∧ w.cell? ⟨g, i * 2 + 1, none⟩ = some (.slice x.X x.ls.length x.c) ∧ w.frozen? ⟨g, i * 2, none⟩ = false ∧ w.frozen? ⟨g, i * 2 + 1, none⟩ = false ∧
      ∀ y : CardM, cardE.Own (putC w g i y) base 28 (.slice (some ⟨g, 0, none⟩) n c) (xs.set i y) := by
  obtain ⟨g, h1, h2, h3, h4, h5, h6⟩ := h.spot (i := i) (j := 0) hi rfl
  obtain ⟨g', h1', -, -, h4', h5', -⟩ := h.spot (i := i) (j := 1) hi rfl
  subst h1
  obtain rfl : g = g' := congrArg Addr.block (Option.some.inj h1')
  refine ⟨g, rfl, h2, h3, h4, h4', h5, h5', fun y => ?_⟩
  obtain ⟨s1, -⟩ := h6 ⟨y.cid, x.X, x.ls, x.c⟩ (.int .u64 (y.cid : Int)) rfl
  have hl : i < xs.length := (List.getElem?_eq_some_iff.1 hi).1
  obtain ⟨g2, e2, -, -, -, -, t⟩ := s1.spot (i := i) (j := 1) (x := ⟨y.cid, x.X, x.ls, x.c⟩) (by rw [List.getElem?_set_self hl]) rfl
  obtain rfl : g = g2 := congrArg Addr.block (Option.some.inj e2)
  have s2 := (t y (.slice y.X y.ls.length y.c) rfl).1
  rw [List.set_set] at s2
  exact s2
/-- two cards exchanged -/
theorem card_swap {w : World} {base : Nat} {g n c : Nat} {xs : List CardM} (h : cardE.Own w base 28 (.slice (some ⟨g, 0, none⟩) n c) xs) {p q : Nat} {x y : CardM} (hp : xs[p]? = some x) (hq : xs[q]? = some y) (hpq : p ≠ q) :
    cardE.Own (putC (putC w g p y) g q x) base 28 (.slice (some ⟨g, 0, none⟩) n c) ((xs.set p y).set q x) := by
  obtain ⟨g1, e1, -, -, -, -, -, -, s1⟩ := card_row h hp
  obtain rfl : g = g1 := congrArg Addr.block (Option.some.inj e1)
  obtain ⟨g2, e2, -, -, -, -, -, -, s2⟩ := card_row (s1 y) (i := q) (x := y) (by rw [List.getElem?_set_ne hpq]; exact hq)
  obtain rfl : g = g2 := congrArg Addr.block (Option.some.inj e2)
  exact s2 x
theorem putC_upd {S : Nat → Prop} {a w : World} (h : Upd S a w) {g i : Nat} (hg : S g) (y : CardM) : Upd S a (putC w g i y) := (h.setCell (p := ⟨g, i * 2, none⟩) (.inl hg) _).setCell (p := ⟨g, i * 2 + 1, none⟩) (.inl hg) _
theorem own_heap {w W : World} {base : Nat} {v : Value} {xs : List CardM} (hW : W.heap = w.heap) (h : cardE.Own w base 28 v xs) : cardE.Own W base 28 v xs := by
  unfold Elem.Own OwnK World.ownsRow at h ⊢
  rw [hW]; exact h
/-- what the exchange leaves, in the walk's words -/
def swW (w : World) (g p q : Nat) (x y : CardM) : World := ((((w.setCell ⟨g, p * 2, none⟩ (.int .u64 (y.cid : Int))).setCell ⟨g, p * 2 + 1, none⟩ (.slice y.X y.ls.length y.c)).setCell ⟨g, q * 2, none⟩ (.int .u64 (x.cid : Int))).setCell ⟨g, q * 2 + 1, none⟩ (.slice x.X x.ls.length x.c)).drew
theorem swW_own {w : World} {base : Nat} {g n c : Nat} {xs : List CardM} (h : cardE.Own w base 28 (.slice (some ⟨g, 0, none⟩) n c) xs) {p q : Nat} {x y : CardM} (hp : xs[p]? = some x) (hq : xs[q]? = some y) (hpq : p ≠ q) :
    cardE.Own (swW w g p q x y) base 28 (.slice (some ⟨g, 0, none⟩) n c) ((xs.set p y).set q x) := own_heap rfl (card_swap h hp hq hpq)
theorem swW_upd {S : Nat → Prop} {a w : World} (h : Upd S a w) {g p q : Nat} (hg : S g) (x y : CardM) : Upd S a (swW w g p q x y) := (putC_upd (putC_upd h hg y) hg x).drew
/-- exchanged, in parts -/
theorem list_swap {P M Q : List CardM} {x y : CardM} {p q : Nat} (hp : p = P.length) (hq : q = P.length + 1 + M.length) :
    (P ++ x :: M ++ y :: Q)[p]? = some x ∧ (P ++ x :: M ++ y :: Q)[q]? = some y ∧ ((P ++ x :: M ++ y :: Q).set p y).set q x = P ++ y :: M ++ x :: Q := by
  subst hp hq
  refine ⟨by simp, ?_, ?_⟩
  · rw [List.getElem?_append_right (by simp; omega)]
    have : P.length + 1 + M.length - (P ++ x :: M).length = 0 := by simp; omega
    rw [this]; rfl
  · rw [List.set_append_left _ _ (by simp), List.set_append_right _ _ (Nat.le_refl _), Nat.sub_self, List.set_cons_zero, List.set_append_right _ _ (by simp; omega)]
    have : P.length + 1 + M.length - (P ++ y :: M).length = 0 := by simp; omega
    rw [this]; rfl
set_option maxRecDepth 100000 in
set_option maxHeartbeats 4000000 in
theorem swapRange_own (base : Nat) (A : Option Addr) (c : Nat) (P X M Y Q : List CardM) (f : Value) (w : World) (k n : Nat) (hX : X.length = k) (hY : Y.length = k) (hn : (P ++ X ++ M ++ Y ++ Q).length = n) (hsz : n ≤ 1000000)
    (h : cardE.Own w base 28 (.slice A n c) (P ++ X ++ M ++ Y ++ Q)) :
    Calls Tryd.prog 163 #[.slice A n c, .int .i64 (P.length : Int), .int .i64 ((P.length + k + M.length : Nat) : Int), .int .i64 (k : Int), f] w fun e w' => e = .returned (.tuple #[]) ∧
      cardE.Own w' base 28 (.slice A n c) (P ++ Y ++ M ++ X ++ Q) ∧ Upd (fun b => (Value.slice A n c).ownBlock = some b) w w' := by
  have H := kept h
  have HL := kept hn
  have hle : P.length + k + M.length + k ≤ n := by simp at hn; omega
  have HX := kept hX
  have HY := kept hY
  clear h hn hX hY
  obtain ⟨pl, hpl⟩ : ∃ pl, P.length = pl := ⟨_, rfl⟩
  obtain ⟨ql, hql⟩ : ∃ ql, P.length + k + M.length = ql := ⟨_, rfl⟩
  have HPL := kept hpl
  have HQL := kept hql
  rw [hql, hpl]
  have hle2 : ql + k ≤ n := by omega
  have hle3 : pl + k ≤ ql := by omega
  clear hpl hql hle
  go_enter Tryd.func163, Tryd.ntmps163
  go_wp2_with fail
  go_loopw [10] (fun iv wr => ∃ (i : Nat) (X1 X2 Y1 Y2 : List CardM), i ≤ k ∧ iv = .int .i64 (i : Int) ∧ Kept (X = X1 ++ X2 ∧ Y = Y1 ++ Y2 ∧ X1.length = i ∧ Y1.length = i) ∧ Kept (cardE.Own wr base 28 (.slice A n c) (P ++ Y1 ++ X2 ++ M ++ X1 ++ Y2 ++ Q) ∧ Upd (fun b => (Value.slice A n c).ownBlock = some b) w wr)) (fun iv _ => k - (intOf iv).toNat)
  case atStart => exact ⟨0, [], X, [], Y, Nat.zero_le _, rfl, ⟨rfl, rfl, rfl, rfl⟩, ⟨by simpa using H.out, Upd.refl _ _⟩⟩
  case round =>
    obtain ⟨i, X1, X2, Y1, Y2, hi, rfl, HS, HO⟩ := hrel
    by_cases hlt : i < k
    · have hik : (i : Int) < (k : Int) := by omega
      obtain ⟨x, X3, rfl⟩ : ∃ x X3, X2 = x :: X3 := by
        cases X2 with
        | nil => exfalso; have h1 := HS.out.1; have h2 := HX.out; rw [h1] at h2; simp at h2; have := HS.out.2.2.1; omega
        | cons x X3 => exact ⟨x, X3, rfl⟩
      obtain ⟨y, Y3, rfl⟩ : ∃ y Y3, Y2 = y :: Y3 := by
        cases Y2 with
        | nil => exfalso; have h1 := HS.out.2.1; have h2 := HY.out; rw [h1] at h2; simp at h2; have := HS.out.2.2.2; omega
        | cons y Y3 => exact ⟨y, Y3, rfl⟩
      have e1 : P ++ Y1 ++ (x :: X3) ++ M ++ X1 ++ (y :: Y3) ++ Q = (P ++ Y1) ++ x :: (X3 ++ M ++ X1) ++ y :: (Y3 ++ Q) := by simp
      have e2 : (P ++ Y1) ++ y :: (X3 ++ M ++ X1) ++ x :: (Y3 ++ Q) = P ++ (Y1 ++ [y]) ++ X3 ++ M ++ (X1 ++ [x]) ++ Y3 ++ Q := by simp
      have hp1 : pl + i = (P ++ Y1).length := by rw [List.length_append, HPL.out, HS.out.2.2.2]
      have hq1 : ql + i = (P ++ Y1).length + 1 + (X3 ++ M ++ X1).length := by
        have h1 := HX.out
        rw [HS.out.1] at h1
        have h2 := HS.out.2.2.1
        have h3 := HS.out.2.2.2
        have h4 := HPL.out
        have h5 := HQL.out
        simp at h1 ⊢
        omega
      obtain ⟨l1, l2, l3⟩ := list_swap (x := x) (y := y) (Q := Y3 ++ Q) hp1 hq1
      have ho := HO.out.1
      rw [e1] at ho
      obtain ⟨g, rfl, hbg, hgl, c0, c1, f0, f1, -⟩ := card_row ho l1
      obtain ⟨g', e3, -, -, d0, d1, k0, k1, -⟩ := card_row ho l2
      obtain rfl : g = g' := congrArg Addr.block (Option.some.inj e3)
      have hsw := swW_own ho l1 l2 (show pl + i ≠ ql + i by omega)
      rw [l3, e2] at hsw
      have HSW := kept (And.intro hsw (swW_upd (g := g) (p := pl + i) (q := ql + i) HO.out.2 rfl x y))
      clear hsw
      have HS2 : Kept (X = (X1 ++ [x]) ++ X3 ∧ Y = (Y1 ++ [y]) ++ Y3 ∧ (X1 ++ [x]).length = i + 1 ∧ (Y1 ++ [y]).length = i + 1) := ⟨by rw [HS.out.1]; simp, by rw [HS.out.2.1]; simp, by simp; exact HS.out.2.2.1, by simp; exact HS.out.2.2.2⟩
      have hpi : ((pl : Int) + (i : Int)) < (n : Int) := by omega
      have hqi : ((ql : Int) + (i : Int)) < (n : Int) := by omega
      have hpi2 : pl + i < n := by omega
      have hqi2 : ql + i < n := by omega
      have hw1 : IntKind.i64.wrap ((pl : Int) + (i : Int)) = ((pl + i : Nat) : Int) := by rw [IntWalk.i64_in _ (by omega)]; omega
      have hw2 : IntKind.i64.wrap ((ql : Int) + (i : Int)) = ((ql + i : Nat) : Int) := by rw [IntWalk.i64_in _ (by omega)]; omega
      have hne : ¬ pl + i = ql + i := by omega
      have hne2 : ¬ ql + i = pl + i := by omega
      clear HS HO ho e1 e2 hp1 hq1 l1 l2 l3 e3 hpi hqi
      generalize pl + i = p1 at *
      generalize ql + i = q1 at *
      obtain ⟨xcid, xX, xls, xc⟩ := x
      obtain ⟨ycid, yX, yls, yc⟩ := y
      dsimp only at c0 c1 d0 d1
      unfold swW at HSW
      dsimp only at HSW
      go_upto_region 3 with fail
      go_region
      all_goals
        clear hw1 hw2
        go_wp2_with fail
        go_roundw
        case rel => (refine ⟨i + 1, X1 ++ [⟨xcid, xX, xls, xc⟩], X3, Y1 ++ [⟨ycid, yX, yls, yc⟩], Y3, by omega, by go_num, HS2, ?_⟩; with_reducible exact HSW)
        case measure => simp [intOf]; omega
    · obtain rfl : i = k := by omega
      have hge : ¬ (i : Int) < (i : Int) := by omega
      obtain rfl : X2 = [] := by
        have h1 := HS.out.1; have h2 := HX.out; rw [h1] at h2; simp at h2; have := HS.out.2.2.1
        exact List.eq_nil_of_length_eq_zero (by omega)
      obtain rfl : Y2 = [] := by
        have h1 := HS.out.2.1; have h2 := HY.out; rw [h1] at h2; simp at h2; have := HS.out.2.2.2
        exact List.eq_nil_of_length_eq_zero (by omega)
      have HF : Kept (cardE.Own wr base 28 (.slice A n c) (P ++ (Y ++ (M ++ (X ++ Q))))) := ⟨by
        have h1 := HO.out.1
        rw [HS.out.1, HS.out.2.1]
        simpa using h1⟩
      go_wp2_with fail
      go_end0
      exact ⟨rfl, HF.out, HO.out.2⟩
end Go.Proofs.YtfkfpanhbanljaaDoor.Stab

/- slices.SortStableFunc of cards: two rows behind one another change places. -/
namespace Go.Proofs.YtfkfpanhbanljaaDoor.Stab
open Go.RowKit Go.Proofs.YtfkfpanhbanljaaDoor.Mem Go.Proofs.YtfkfpanhbanljaaDoor.Card

/-- what a call leaves: the row, and all else as it was -/
def RowTo (base : Nat) (A : Option Addr) (n c : Nat) (w : World) (xs : List CardM) (e : Ending) (w' : World) : Prop :=
  e = .returned (.tuple #[]) ∧ cardE.Own w' base 28 (.slice A n c) xs ∧ Upd (fun b => (Value.slice A n c).ownBlock = some b) w w'
theorem split_at {α : Type} {l : List α} {k : Nat} (h : k ≤ l.length) : ∃ a b, l = a ++ b ∧ a.length = k := ⟨l.take k, l.drop k, (List.take_append_drop k l).symm, by rw [List.length_take]; omega⟩
set_option maxRecDepth 100000 in
set_option maxHeartbeats 4000000 in
theorem rotate_own (base : Nat) (A : Option Addr) (c : Nat) (P X Y Q : List CardM) (f : Value) (w : World) (n : Nat) (hX : 0 < X.length) (hY : 0 < Y.length) (hn : (P ++ X ++ Y ++ Q).length = n) (hsz : n ≤ 1000000)
    (h : cardE.Own w base 28 (.slice A n c) (P ++ X ++ Y ++ Q)) :
    Calls Tryd.prog 131 #[.slice A n c, .int .i64 (P.length : Int), .int .i64 ((P.length + X.length : Nat) : Int), .int .i64 ((P.length + X.length + Y.length : Nat) : Int), f] w (RowTo base A n c w (P ++ Y ++ X ++ Q)) := by
  obtain ⟨pl, hpl⟩ : ∃ pl, P.length = pl := ⟨_, rfl⟩
  obtain ⟨ml, hml⟩ : ∃ ml, P.length + X.length = ml := ⟨_, rfl⟩
  obtain ⟨bl, hbl⟩ : ∃ bl, P.length + X.length + Y.length = bl := ⟨_, rfl⟩
  have hbn : bl ≤ n := by simp at hn; omega
  have h1 : pl < ml := by omega
  have h2 : ml < bl := by omega
  rw [hbl, hml, hpl]
  have H0 : Kept (∃ (P' X' Y' Q' : List CardM), P' ++ X' ++ Y' ++ Q' = P ++ X ++ Y ++ Q ∧ P' ++ Y' ++ X' ++ Q' = P ++ Y ++ X ++ Q ∧ X'.length = ml - pl ∧ Y'.length = bl - ml ∧ P'.length = ml - X'.length) := ⟨P, X, Y, Q, rfl, rfl, by omega, by omega, by omega⟩
  have HO0 : Kept (cardE.Own w base 28 (.slice A n c) (P ++ X ++ Y ++ Q)) := ⟨h⟩
  have HR : Kept (∀ (W : World), cardE.Own W base 28 (.slice A n c) (P ++ Y ++ X ++ Q) → Upd (fun b => (Value.slice A n c).ownBlock = some b) w W → RowTo base A n c w (P ++ Y ++ X ++ Q) (.returned (.tuple #[])) W) := ⟨fun W a b => ⟨rfl, a, b⟩⟩
  generalize P ++ Y ++ X ++ Q = T at *
  generalize P ++ X ++ Y ++ Q = S0 at *
  have HN : Kept (S0.length = n) := ⟨hn⟩
  clear hn h hpl hml hbl hX hY
  clear P X Y Q
  have hi1 : (0 : Int) ≤ ((ml : Int) - (pl : Int)) := by omega
  have hi2 : (0 : Int) ≤ ((bl : Int) - (ml : Int)) := by omega
  go_enter Tryd.func131, Tryd.ntmps131
  go_wp2_with fail
  go_loopw [10, 11] (fun iv jv wr => ∃ (i j : Nat) (P' X' Y' Q' : List CardM), iv = .int .i64 (i : Int) ∧ jv = .int .i64 (j : Int) ∧ 0 < i ∧ 0 < j ∧ i ≤ ml ∧ ml + j ≤ n ∧ Kept (X'.length = i ∧ Y'.length = j ∧ P'.length + i = ml) ∧ Kept (P' ++ Y' ++ X' ++ Q' = T ∧ (P' ++ X' ++ Y' ++ Q').length = n) ∧ Kept (cardE.Own wr base 28 (.slice A n c) (P' ++ X' ++ Y' ++ Q') ∧ Upd (fun b => (Value.slice A n c).ownBlock = some b) w wr)) (fun iv jv _ => (intOf iv).toNat + (intOf jv).toNat)
  case atStart =>
    obtain ⟨P', X', Y', Q', e1, e2, e3, e4, e5⟩ := H0.out
    refine ⟨ml - pl, bl - ml, P', X', Y', Q', ?_, ?_, by omega, by omega, by omega, by omega, ⟨e3, e4, by omega⟩, ⟨e2, by rw [e1]; exact HN.out⟩, ⟨by rw [e1]; exact HO0.out, Upd.refl _ _⟩⟩
    · rw [show ((ml : Int) - (pl : Int)) = ((ml - pl : Nat) : Int) by omega]
    · rw [show ((bl : Int) - (ml : Int)) = ((bl - ml : Nat) : Int) by omega]
  case round =>
    clear H0 HO0 HN hi1 hi2
    obtain ⟨i, j, P', X', Y', Q', rfl, rfl, hi, hj, him, hjn, HL, HT, HO⟩ := hrel
    rcases Nat.lt_trichotomy i j with hlt | heq | hgt
    · -- fewer ahead: they change with the last ones
      obtain ⟨hx, hy, hp⟩ := HL.out
      obtain ⟨Y1, Y2, rfl, hl1⟩ := split_at (l := Y') (k := j - i) (by omega)
      have hl2 : Y2.length = i := by rw [List.length_append] at hy; omega
      have hO2 := HO.out.1
      rw [show P' ++ X' ++ (Y1 ++ Y2) ++ Q' = P' ++ X' ++ Y1 ++ Y2 ++ Q' by simp] at hO2
      have CS := swapRange_own base A c P' X' Y1 Y2 Q' f wr i n hx hl2 (by have := HT.out.2; simp at this ⊢; omega) hsz hO2
      rw [show (P'.length : Int) = (ml : Int) - (i : Int) by omega, show ((P'.length + i + Y1.length : Nat) : Int) = (ml : Int) + (j : Int) - (i : Int) by omega] at CS
      have CS := kept CS
      have HL2 : Kept (Y2.length = i ∧ Y1.length = j - i ∧ P'.length + i = ml) := ⟨hl2, hl1, hp⟩
      have HT2 : Kept (P' ++ Y1 ++ Y2 ++ (X' ++ Q') = T ∧ (P' ++ Y2 ++ Y1 ++ (X' ++ Q')).length = n) := ⟨by rw [← HT.out.1]; simp, by have := HT.out.2; simp at this ⊢; omega⟩
      have HA : Kept (P' ++ Y2 ++ Y1 ++ X' ++ Q' = P' ++ Y2 ++ Y1 ++ (X' ++ Q')) := ⟨by simp⟩
      have HU := kept HO.out.2
      have hne : ((i : Int) != (j : Int)) = true := by simp; omega
      have hng : ¬ (j : Int) < (i : Int) := by omega
      have hng2 : ¬ j < i := by omega
      have ha0 : (0 : Int) ≤ (ml : Int) - (i : Int) := by omega
      have ha1 : (0 : Int) ≤ (ml : Int) + (j : Int) - (i : Int) := by omega
      have ha2 : (0 : Int) ≤ (j : Int) - (i : Int) := by omega
      have hji : ((j : Int) - (i : Int)) = ((j - i : Nat) : Int) := by omega
      have HJI := kept hji
      clear hO2 hl1 hl2 hx hy hp hji HO HT HL
      go_wp2_with fail
      refine CS.out.mono ?_
      rintro e w5 ⟨rfl, ho5, hu5⟩
      rw [HA.out] at ho5
      have HO5 := kept (And.intro ho5 (HU.out.trans hu5))
      clear ho5 hu5 CS HA HU
      go_wp2_with fail
      go_roundw
      case rel => (refine ⟨i, j - i, P', Y2, Y1, X' ++ Q', rfl, by rw [HJI.out], by omega, by omega, by omega, by omega, HL2, HT2, ?_⟩; with_reducible exact HO5)
      case measure => simp [intOf]; omega
    · -- as many: they change, and that is all
      subst heq
      obtain ⟨hx, hy, hp⟩ := HL.out
      have hO2 := HO.out.1
      rw [show P' ++ X' ++ Y' ++ Q' = P' ++ X' ++ [] ++ Y' ++ Q' by simp] at hO2
      have CS := swapRange_own base A c P' X' [] Y' Q' f wr i n hx hy (by have := HT.out.2; simp at this ⊢; omega) hsz hO2
      rw [show (P'.length : Int) = (ml : Int) - (i : Int) by omega, show ((P'.length + i + ([] : List CardM).length : Nat) : Int) = (ml : Int) by simp; omega, show P' ++ Y' ++ [] ++ X' ++ Q' = T by rw [← HT.out.1]; simp] at CS
      have CS := kept CS
      have HU := kept HO.out.2
      have hne : ((i : Int) != (i : Int)) = false := by simp
      have ha0 : (0 : Int) ≤ (ml : Int) - (i : Int) := by omega
      clear hO2 hx hy hp HO HT HL
      go_wp2_with fail
      refine CS.out.mono ?_
      rintro e w5 ⟨rfl, ho5, hu5⟩
      have HF := kept (HR.out w5 ho5 (HU.out.trans hu5))
      clear ho5 hu5 CS HU
      go_wp2_with fail
      go_end0
      exact HF.out
    · -- more ahead: the first ones change with those behind
      obtain ⟨hx, hy, hp⟩ := HL.out
      obtain ⟨X1, X2, rfl, hl1⟩ := split_at (l := X') (k := j) (by omega)
      have hl2 : X2.length = i - j := by rw [List.length_append] at hx; omega
      have hO2 := HO.out.1
      rw [show P' ++ (X1 ++ X2) ++ Y' ++ Q' = P' ++ X1 ++ X2 ++ Y' ++ Q' by simp] at hO2
      have CS := swapRange_own base A c P' X1 X2 Y' Q' f wr j n hl1 hy (by have := HT.out.2; simp at this ⊢; omega) hsz hO2
      rw [show (P'.length : Int) = (ml : Int) - (i : Int) by omega, show ((P'.length + j + X2.length : Nat) : Int) = (ml : Int) by omega] at CS
      have CS := kept CS
      have HL2 : Kept (X2.length = i - j ∧ X1.length = j ∧ (P' ++ Y').length + (i - j) = ml) := ⟨hl2, hl1, by rw [List.length_append]; omega⟩
      have HT2 : Kept (P' ++ Y' ++ X1 ++ X2 ++ Q' = T ∧ (P' ++ Y' ++ X2 ++ X1 ++ Q').length = n) := ⟨by rw [← HT.out.1]; simp, by have := HT.out.2; simp at this ⊢; omega⟩
      have HU := kept HO.out.2
      have hne : ((i : Int) != (j : Int)) = true := by simp; omega
      have hng : (j : Int) < (i : Int) := by omega
      have ha0 : (0 : Int) ≤ (ml : Int) - (i : Int) := by omega
      have ha2 : (0 : Int) ≤ (i : Int) - (j : Int) := by omega
      have HJI : Kept (((i : Int) - (j : Int)) = ((i - j : Nat) : Int)) := ⟨by omega⟩
      clear hO2 hl1 hl2 hx hy hp HO HT HL
      go_wp2_with fail
      refine CS.out.mono ?_
      rintro e w5 ⟨rfl, ho5, hu5⟩
      have HO5 := kept (And.intro ho5 (HU.out.trans hu5))
      clear ho5 hu5 CS HU
      go_wp2_with fail
      go_roundw
      case rel => (refine ⟨i - j, j, P' ++ Y', X2, X1, Q', by rw [HJI.out], rfl, by omega, by omega, by omega, by omega, HL2, HT2, ?_⟩; with_reducible exact HO5)
      case measure => simp [intOf]; omega
end Go.Proofs.YtfkfpanhbanljaaDoor.Stab
