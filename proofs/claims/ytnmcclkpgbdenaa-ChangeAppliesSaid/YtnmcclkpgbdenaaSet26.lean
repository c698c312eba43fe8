import Derived.Test.YtnmcclkpgbdenaaSet25
import Derived.Test.YtnmcclkpgbdenaaCardLine
import Derived.Lib.MinMax
/- Layer 50 (change): what stands in a list in order. -/
namespace Go.Proofs.Ytnmcclkpgbdenaa.Chg
open Go.RowKit Go.Proofs.Ytnmcclkpgbdenaa.Mem Go.Proofs.Ytnmcclkpgbdenaa.Card

theorem good_at {l : List CardM} (h : goodL l = true) {j : Nat} {x : CardM} (hx : l[j]? = some x) : cardGood x = true ∧ ∀ p, 0 < j → l[j - 1]? = some p → p.cid < x.cid := by
  have h1 := List.all_eq_true.1 h j (List.mem_range.2 (List.getElem?_eq_some_iff.1 hx).1)
  rw [goodAt_get hx, Bool.and_eq_true] at h1
  refine ⟨h1.1, fun p hj hp => ?_⟩
  have h2 := h1.2
  rw [show l.getD (j - 1) ⟨0, none, [], 0⟩ = p by simp [List.getD, hp]] at h2
  simp at h2
  omega
theorem good_sorted {l : List CardM} (h : goodL l = true) : SortedC l := by
  intro i j x y hx hy hij
  induction j generalizing y with
  | zero => omega
  | succ j ih =>
    have hj : j < l.length := by have := (List.getElem?_eq_some_iff.1 hy).1; omega
    have hp := List.getElem?_eq_getElem hj
    have h1 := (good_at h hy).2 _ (by omega) hp
    rcases Nat.lt_or_ge i j with h2 | h2
    · have := ih _ hp h2; omega
    · obtain rfl : i = j := by omega
      rw [hx] at hp
      rw [← Option.some.inj hp] at h1
      exact h1
theorem lines_sorted {x : CardM} (h : cardGood x = true) : SortedL x.ls := by
  unfold cardGood at h
  rw [Bool.and_eq_true] at h
  have hl := List.all_eq_true.1 h.1
  intro i j a b ha hb hij
  induction j generalizing b with
  | zero => omega
  | succ j ih =>
    have hj1 := (List.getElem?_eq_some_iff.1 hb).1
    have hj : j < x.ls.length := by omega
    have hp := List.getElem?_eq_getElem hj
    have h1 : (x.ls[j]'hj).f < b.f := by
      have h2 := hl (j + 1) (List.mem_range.2 hj1)
      unfold lineAt at h2
      rw [Bool.and_eq_true] at h2
      have h3 := h2.2
      rw [show x.ls.getD (j + 1) zeroL = b by simp [List.getD, hb], show j + 1 - 1 = j from rfl, show x.ls.getD j zeroL = x.ls[j]'hj by simp [List.getD, hp]] at h3
      simpa using h3
    rcases Nat.lt_or_ge i j with h2 | h2
    · have := ih _ hp h2; omega
    · obtain rfl : i = j := by omega
      rw [ha] at hp
      rw [← Option.some.inj hp] at h1
      exact h1
/-- a list of good cards in order is in order -/
theorem good_of {l : List CardM} (hg : ∀ x ∈ l, cardGood x = true) (hs : SortedC l) : goodL l = true := good_full fun j hj => by
  have hx := List.getElem?_eq_getElem hj
  rw [goodAt_get hx, hg _ (List.getElem_mem hj), Bool.true_and]
  rcases Nat.eq_zero_or_pos j with h0 | h0
  · subst h0; rfl
  · have hp : l[j - 1]? = some (l[j - 1]'(by omega)) := List.getElem?_eq_getElem _
    have := hs (j - 1) j _ _ hp hx (by omega)
    rw [show l.getD (j - 1) ⟨0, none, [], 0⟩ = l[j - 1]'(by omega) by simp [List.getD, hp]]
    simp [this]
theorem sortedC_pair {l : List CardM} : SortedC l ↔ l.Pairwise fun a b => a.cid < b.cid := by
  constructor
  · intro h
    exact List.pairwise_iff_getElem.2 fun i j hi hj hij => h i j _ _ (List.getElem?_eq_getElem hi) (List.getElem?_eq_getElem hj) hij
  · intro h i j a b ha hb hij
    obtain ⟨h1, rfl⟩ := List.getElem?_eq_some_iff.1 ha
    obtain ⟨h2, rfl⟩ := List.getElem?_eq_some_iff.1 hb
    exact List.pairwise_iff_getElem.1 h i j h1 h2 hij
theorem good_mem {l : List CardM} (h : goodL l = true) {x : CardM} (hx : x ∈ l) : cardGood x = true := by
  obtain ⟨j, hj⟩ := List.getElem?_of_mem hx
  exact (good_at h hj).1
theorem put_good {l : List CardM} {x : CardM} (h : goodL l = true) (hx : cardGood x = true) : goodL (putM l x) = true := by
  have hp := sortedC_pair.1 (good_sorted h)
  refine good_of (fun y hy => ?_) (sortedC_pair.2 ?_)
  · unfold putM at hy
    rw [List.mem_append, List.mem_append] at hy
    rcases hy with (hy | hy) | hy
    · exact good_mem h (List.mem_filter.1 hy).1
    · rw [List.mem_singleton.1 hy]; exact hx
    · exact good_mem h (List.mem_filter.1 hy).1
  · unfold putM
    rw [List.pairwise_append, List.pairwise_append]
    refine ⟨⟨hp.filter _, List.pairwise_singleton _ _, fun a ha b hb => ?_⟩, hp.filter _, fun a ha b hb => ?_⟩
    · rw [List.mem_singleton.1 hb]; simpa using (List.mem_filter.1 ha).2
    · have h2 : x.cid < b.cid := by simpa using (List.mem_filter.1 hb).2
      rcases List.mem_append.1 ha with ha | ha
      · have h1 : a.cid < x.cid := by simpa using (List.mem_filter.1 ha).2
        omega
      · rw [List.mem_singleton.1 ha]; exact h2
theorem erase_good {l : List CardM} {i : Nat} (h : goodL l = true) : goodL (l.eraseIdx i) = true :=
  good_of (fun y hy => good_mem h ((List.eraseIdx_sublist l i).subset hy)) (sortedC_pair.2 ((sortedC_pair.1 (good_sorted h)).sublist (List.eraseIdx_sublist l i)))
theorem goodL_p_len {l : List CardM} (h : goodL l = true) {x : CardM} (hx : x ∈ l) : SortedL x.ls := lines_sorted (good_mem h hx)
end Go.Proofs.Ytnmcclkpgbdenaa.Chg

/- Layer 50 (change): what the answers say hangs on what the cards say alone. -/
namespace Go.Proofs.Ytnmcclkpgbdenaa.Chg
open Go.RowKit Go.Proofs.Ytnmcclkpgbdenaa.Mem Go.Proofs.Ytnmcclkpgbdenaa.Card

theorem map_get {α β : Type} {f : α → β} {a b : List α} (h : a.map f = b.map f) {i : Nat} {x : α} (hx : a[i]? = some x) : ∃ y, b[i]? = some y ∧ f x = f y := by
  have e := congrArg (·[i]?) h
  simp only [List.getElem?_map, hx, Option.map_some] at e
  cases hb : b[i]? with
  | none => rw [hb] at e; cases e
  | some y => rw [hb] at e; exact ⟨y, rfl, Option.some.inj e⟩
theorem lineAt_p {a b : List LineM} (h : a.map LineM.p = b.map LineM.p) {k : Nat} (hk : k < a.length) : lineAt a k = lineAt b k := by
  have hl : a.length = b.length := by have := congrArg List.length h; simpa using this
  have hx := List.getElem?_eq_getElem hk
  obtain ⟨y, hy, hp⟩ := map_get h hx
  obtain ⟨e1, e2, e3⟩ := line_p.1 hp
  unfold lineAt
  rw [show a.getD k zeroL = a[k] by simp [List.getD, hx], show b.getD k zeroL = y by simp [List.getD, hy], e1, e2, e3]
  rcases Nat.eq_zero_or_pos k with h0 | h0
  · subst h0; rfl
  · have hx2 : a[k - 1]? = some (a[k - 1]'(by omega)) := List.getElem?_eq_getElem _
    obtain ⟨y2, hy2, hp2⟩ := map_get h hx2
    rw [show a.getD (k - 1) zeroL = a[k - 1]'(by omega) by simp [List.getD, hx2], show b.getD (k - 1) zeroL = y2 by simp [List.getD, hy2], (line_p.1 hp2).1]
theorem linesOk_p {a b : List LineM} (h : a.map LineM.p = b.map LineM.p) : linesOk a = linesOk b := by
  have hl : a.length = b.length := by have := congrArg List.length h; simpa using this
  unfold linesOk
  rw [← hl, Bool.eq_iff_iff, List.all_eq_true, List.all_eq_true]
  constructor
  · intro h1 k hk
    rw [← lineAt_p h (List.mem_range.1 hk)]; exact h1 k hk
  · intro h1 k hk
    rw [lineAt_p h (List.mem_range.1 hk)]; exact h1 k hk
theorem cardGood_p {x y : CardM} (h : x.p = y.p) : cardGood x = cardGood y := by
  obtain ⟨h1, h2⟩ := card_p.1 h
  have hl : x.ls.length = y.ls.length := by have := congrArg List.length h2; simpa using this
  unfold cardGood
  rw [linesOk_p h2, h1, hl]
theorem filter_p (f : Nat → Bool) : ∀ {a b : List CardM}, a.map CardM.p = b.map CardM.p → (a.filter fun y => f y.cid).map CardM.p = (b.filter fun y => f y.cid).map CardM.p
  | [], [], _ => rfl
  | [], _ :: _, h => by simp at h
  | _ :: _, [], h => by simp at h
  | x :: a, y :: b, h => by
    rw [List.map_cons, List.map_cons] at h
    injection h with h1 h2
    have hc := (card_p.1 h1).1
    have ih := filter_p f h2
    simp only [List.filter_cons, ← hc]
    split
    · rw [List.map_cons, List.map_cons, ih, h1]
    · exact ih
theorem putM_p {a b : List CardM} {x y : CardM} (h : a.map CardM.p = b.map CardM.p) (hx : x.p = y.p) : (putM a x).map CardM.p = (putM b y).map CardM.p := by
  have hc := (card_p.1 hx).1
  unfold putM
  rw [hc, List.map_append, List.map_append, List.map_append, List.map_append, filter_p (fun n => decide (n < y.cid)) h, filter_p (fun n => decide (y.cid < n)) h]
  simp [hx]
theorem setR_p {x y : LineM} (hx : x.p = y.p) : ∀ (d : Bool) {a b : List LineM}, a.map LineM.p = b.map LineM.p → (setR x d a).map LineM.p = (setR y d b).map LineM.p
  | d, [], [], _ => by unfold setR; cases d <;> simp [hx]
  | _, [], _ :: _, h => by simp at h
  | _, _ :: _, [], h => by simp at h
  | d, u :: a, v :: b, h => by
    rw [List.map_cons, List.map_cons] at h
    injection h with h1 h2
    have e1 := (line_p.1 h1).1
    have e2 := (line_p.1 hx).1
    unfold setR
    rw [List.map_append, List.map_append, List.map_append, List.map_append, e1, e2, setR_p hx _ h2]
    congr 1
    congr 1
    · split <;> simp [hx]
    · split <;> simp [h1]
theorem goodL_p {a b : List CardM} (h : a.map CardM.p = b.map CardM.p) : goodL a = goodL b := by
  have key : ∀ {a b : List CardM}, a.map CardM.p = b.map CardM.p → goodL a = true → goodL b = true := by
    intro a b h hg
    refine good_of (fun y hy => ?_) ?_
    · obtain ⟨j, hj⟩ := List.getElem?_of_mem hy
      obtain ⟨x, hx, hp⟩ := map_get h.symm hj
      rw [cardGood_p hp]; exact good_mem hg (List.mem_of_getElem? hx)
    · intro i j x y hx hy hij
      obtain ⟨x2, hx2, hp2⟩ := map_get h.symm hx
      obtain ⟨y2, hy2, hq2⟩ := map_get h.symm hy
      rw [(card_p.1 hp2).1, (card_p.1 hq2).1]
      exact good_sorted hg i j x2 y2 hx2 hy2 hij
  rw [Bool.eq_iff_iff]
  exact ⟨key h, key h.symm⟩
end Go.Proofs.Ytnmcclkpgbdenaa.Chg

/- The walk of the reference's Line. -/
namespace Go.Proofs.Ytnmcclkpgbdenaa.Card
open Go.RowKit Go.Proofs.Ytnmcclkpgbdenaa.Mem

theorem isF_beq (f : Nat) (x : LineM) : ((x.f : Int) == (f : Int)) = isF f x := int_beq x.f f
theorem rline_any (x : CardM) (f : Nat) (w : World) (hx : x.Ok w w.heap.size) :
    Calls Try.prog 77 #[x.val, .int .u8 (f : Int)] w fun e w' => e = .returned (.tuple #[((lineOf f x.ls).getD zeroL).val, .bool (lineOf f x.ls).isSome]) ∧ Below w.heap.size w w' := by
  obtain ⟨xcid, xX, xls, xc⟩ := x
  obtain ⟨hx1, hx2, hx3, hx4⟩ := hx
  dsimp only at hx1 hx2 hx3 hx4 ⊢
  have hb0 : Below w.heap.size w ((w.alloc (.cells #[.int .u64 (xcid : Int), .slice xX xls.length xc] 38)).alloc (.cells #[.int .u8 0, .string ⟨#[]⟩, .slice none 0 0] 41)) := ((Below.refl _ _).alloc (Nat.le_refl _) _).alloc (by simp) _
  have k1 : Blk ((w.alloc (.cells #[.int .u64 (xcid : Int), .slice xX xls.length xc] 38)).alloc (.cells #[.int .u8 0, .string ⟨#[]⟩, .slice none 0 0] 41)) w.heap.size [.int .u64 (xcid : Int), .slice xX xls.length xc] 38 := (Blk.new w _ _).alloc _
  have k2 : Blk ((w.alloc (.cells #[.int .u64 (xcid : Int), .slice xX xls.length xc] 38)).alloc (.cells #[.int .u8 0, .string ⟨#[]⟩, .slice none 0 0] 41)) (w.heap.size + 1) [.int .u8 0, .string ⟨#[]⟩, .slice none 0 0] 41 := Blk.newAt _ _ _ (by simp)
  unfold CardM.val
  go_enter Try.func77, Try.ntmps77
  go_wp2
  obtain ⟨w1, hw1⟩ : ∃ w1, (w.alloc (.cells #[.int .u64 (xcid : Int), .slice xX xls.length xc] 38)).alloc (.cells #[.int .u8 0, .string ⟨#[]⟩, .slice none 0 0] 41) = w1 := ⟨_, rfl⟩
  rw [hw1] at hb0 k1 k2 ⊢
  clear hw1
  have hc1 := k1.cell (j := 1) rfl
  have d0 := k2.cell (j := 0) rfl
  have d1 := k2.cell (j := 1) rfl
  have d2 := k2.cell (j := 2) rfl
  have f0 := k2.frozen 0
  have f1 := k2.frozen 1
  have f2 := k2.frozen 2
  rcases find_cases (isF f) xls with ⟨h1, h2⟩ | ⟨k0, z, h1, h2, h3, h4⟩
  · have HO : Kept (lineOf f xls = none) := ⟨h1⟩
    clear h1
    go_loop [6] (fun i => ∃ k : Nat, k ≤ xls.length ∧ i = .int .i64 (k : Int)) (fun i => xls.length - (intOf i).toNat)
    case atStart => exact ⟨0, Nat.zero_le _, rfl⟩
    case round =>
      obtain ⟨k, hk, rfl⟩ := hrel
      by_cases hlt : k < xls.length
      · obtain ⟨x, hx⟩ : ∃ x, xls[k]? = some x := ⟨_, List.getElem?_eq_getElem hlt⟩
        obtain ⟨b1, o1, rfl, hb1, hx1, hx2, hx3, hxo⟩ := (hx2.below hb0).at_ hx
        have hf := (isF_beq f x).trans (h2 k x hx)
        clear hx h2
        go_wp2
        go_round
        case rel => exact ⟨k + 1, by omega, by go_num⟩
        case measure => simp [intOf]; omega
      · have k5 := ((k2.set 0 (.int .u8 0)).set 1 (.string ⟨#[]⟩)).set 2 (.slice none 0 0)
        have e0 := k5.cell (j := 0) rfl
        have e1 := k5.cell (j := 1) rfl
        have e2 := k5.cell (j := 2) rfl
        clear h2
        go_wp2
        refine bodyPost_ret (v := .tuple #[.agg #[.int .u8 0, .string ⟨#[]⟩, .slice none 0 0], .bool false]) (by simp [results, Try.results77, go_sem, e0, e1, e2]) rfl ?_
        rw [HO.out]
        exact ⟨rfl, ((hb0.setCell (by simp) _).setCell (by simp) _).setCell (by simp) _⟩
  · have HO : Kept (lineOf f xls = some z) := ⟨h2⟩
    have hlt0 := (List.getElem?_eq_some_iff.1 h1).1
    clear h2
    go_loop [6] (fun i => ∃ k : Nat, k ≤ k0 ∧ i = .int .i64 (k : Int)) (fun i => xls.length - (intOf i).toNat)
    case atStart => exact ⟨0, Nat.zero_le _, rfl⟩
    case round =>
      obtain ⟨k, hk, rfl⟩ := hrel
      have hlt : k < xls.length := by omega
      obtain ⟨x, hx⟩ : ∃ x, xls[k]? = some x := ⟨_, List.getElem?_eq_getElem hlt⟩
      obtain ⟨b1, o1, rfl, hb1, hx1, hx2, hx3, hxo⟩ := (hx2.below hb0).at_ hx
      by_cases he : k = k0
      · subst he
        obtain rfl : x = z := Option.some.inj (hx.symm.trans h1)
        have hf := (isF_beq f x).trans h3
        have hb1n : b1 ≠ w.heap.size + 1 := by omega
        have k5 := ((k2.set 0 (.int .u8 (x.f : Int))).set 1 (.string x.t)).set 2 (.slice x.A x.m.length x.c)
        have e0 := k5.cell (j := 0) rfl
        have e1 := k5.cell (j := 1) rfl
        have e2 := k5.cell (j := 2) rfl
        clear hx h1 h3 h4
        go_wp2
        refine bodyPost_ret (v := .tuple #[.agg #[.int .u8 (x.f : Int), .string x.t, .slice x.A x.m.length x.c], .bool true]) (by simp [results, Try.results77, go_sem, e0, e1, e2]) rfl ?_
        rw [HO.out]
        exact ⟨rfl, ((hb0.setCell (by simp) _).setCell (by simp) _).setCell (by simp) _⟩
      · have hf := (isF_beq f x).trans (h4 k x (by omega) hx)
        clear hx h1 h3 h4
        go_wp2
        go_round
        case rel => exact ⟨k + 1, by omega, by go_num⟩
        case measure => simp [intOf]; omega
end Go.Proofs.Ytnmcclkpgbdenaa.Card

/- The walks of Title and Odds, of the package and of the reference; the example. -/
namespace Go.Proofs.Ytnmcclkpgbdenaa.Card
open Go.RowKit Go.Proofs.Ytnmcclkpgbdenaa.Mem

def hasT (x : LineM) : Bool := !x.t.toList.isEmpty
def titleOf (ls : List LineM) : ByteArray := ((ls.find? hasT).map LineM.t).getD ⟨#[]⟩
def isOdd (x : LineM) : Bool := decide (0 < x.m.length)
def oddsN (ls : List LineM) : Nat := (ls.filter isOdd).length
theorem odds_take (ls : List LineM) (k : Nat) (x : LineM) (h : ls[k]? = some x) : oddsN (ls.take (k + 1)) = oddsN (ls.take k) + (if 0 < x.m.length then 1 else 0) := by
  obtain ⟨hk, rfl⟩ := List.getElem?_eq_some_iff.1 h
  unfold oddsN
  rw [List.take_succ_eq_append_getElem hk, List.filter_append, List.length_append]
  by_cases h0 : 0 < ls[k].m.length
  · rw [if_pos h0]; simp [isOdd, h0]
  · rw [if_neg h0]; simp [isOdd, h0]
theorem odds_le (ls : List LineM) (k : Nat) : oddsN (ls.take k) ≤ k := by
  unfold oddsN
  exact Nat.le_trans (List.length_filter_le _ _) (List.length_take_le _ _)
theorem ret_str {a b : ByteArray} (h : a = b) : Ending.returned (.string a) = .returned (.string b) := by rw [h]
end Go.Proofs.Ytnmcclkpgbdenaa.Card
