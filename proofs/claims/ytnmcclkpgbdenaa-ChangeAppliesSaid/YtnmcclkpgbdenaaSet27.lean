import Derived.Test.YtnmcclkpgbdenaaSet26
import Derived.Test.YtnmcclkpgbdenaaSet24
import Derived.Test.YtnmcclkpgbdenaaSet25
import Derived.Test.YtnmcclkpgbdenaaSet14
/- What stays while a copy is written to: relations for the loops of the law CardSame. -/
namespace Go.Proofs.Ytnmcclkpgbdenaa.Card
open Go.RowKit Go.Proofs.Ytnmcclkpgbdenaa.Mem

/-- a row of texts of the call's own, whatever they are: n places at A -/
def StrB (w : World) (base : Nat) (A : Option Addr) (n : Nat) : Prop :=
  n = 0 ∨ ∃ (g : Nat) (cur : Array Value), A = some ⟨g, 0, none⟩ ∧ base ≤ g ∧ w.heap[g]? = some (.cells cur 9 (0, 0)) ∧ n ≤ cur.size
theorem strB_own {w : World} {base : Nat} {A : Option Addr} {n c : Nat} {l : List ByteArray} (h : strE.Own w base 9 (.slice A n c) l) : StrB w base A n := by
  have hn := h.len
  rcases h.2 with ⟨h1, h0⟩ | ⟨g, cap, cur, h1, hb, hg, hnc, _, hcs, _⟩
  · exact .inl (by omega)
  · injection h1 with e1 e2 e3
    exact .inr ⟨g, cur, e1, hb, hg, by rw [hcs, show strE.k = 1 from rfl]; omega⟩
theorem StrB.set {w : World} {base : Nat} {A : Option Addr} {n : Nat} (h : StrB w base A n) (p : Addr) (u : Value) : StrB (w.setCell p u) base A n := by
  rcases h with h | ⟨g, cur, h1, h2, h3, h4⟩
  · exact .inl h
  · refine .inr ?_
    by_cases hp : p.block = g
    · obtain ⟨hlt, he⟩ := Array.getElem?_eq_some_iff.1 h3
      refine ⟨g, (if p.spot.isSome then cur else cur.setIfInBounds p.off u), h1, h2, ?_, ?_⟩
      · simp only [World.setCell, hp, Array.getElem?_modify, if_pos trivial, h3, Option.map_some]
      · split <;> simpa using h4
    · exact ⟨g, cur, h1, h2, (Below.heap_setCell w p u g (fun e => hp e.symm)).trans h3, h4⟩
theorem StrB.below {w w' : World} {base B : Nat} {A : Option Addr} {n : Nat} (h : StrB w base A n) (hb : Below B w w') (hB : w.heap.size ≤ B) : StrB w' base A n := by
  rcases h with h | ⟨g, cur, h1, h2, h3, h4⟩
  · exact .inl h
  · exact .inr ⟨g, cur, h1, h2, (hb.block g (by have := (Array.getElem?_eq_some_iff.1 h3).1; omega)).trans h3, h4⟩
/-- one place of it -/
theorem StrB.spot {w : World} {base : Nat} {A : Option Addr} {n : Nat} (h : StrB w base A n) {j : Nat} (hj : j < n) :
    ∃ (g : Nat) (cur : Array Value) (u : Value), A = some ⟨g, 0, none⟩ ∧ base ≤ g ∧ w.heap[g]? = some (.cells cur 9 (0, 0)) ∧ w.cell? ⟨g, j, none⟩ = some u ∧ w.frozen? ⟨g, j, none⟩ = false := by
  rcases h with h | ⟨g, cur, h1, h2, h3, h4⟩
  · omega
  · have hlt : j < cur.size := by omega
    refine ⟨g, cur, cur[j], h1, h2, h3, ?_, ?_⟩
    · rw [cell_of_row w g j cur _ _ h3]; simp [hlt]
    · simp [World.frozen?, h3]
theorem blk_apart {w : World} {g g' : Nat} {cs : List Value} {cur : Array Value} {t t' : TypeId} (h : Blk w g cs t) (h' : w.heap[g']? = some (.cells cur t' (0, 0))) (hne : t ≠ t') : g' ≠ g := by
  rintro rfl
  unfold Blk at h
  rw [h] at h'
  injection Option.some.inj h' with _ h5
  exact hne h5
theorem own_apart {size : Nat} {w : World} {base : Nat} {e t' : TypeId} {v : Value} {n : Nat} {xs : List Value} {g' : Nat} {cur : Array Value} (h : OwnK size w base e v n xs) (h' : w.heap[g']? = some (.cells cur t' (0, 0))) (hne : e ≠ t') : v.ownBlock = none ∨ v.ownBlock ≠ some g' := by
  rcases h.2 with ⟨rfl, _⟩ | ⟨g1, cap, cur1, rfl, _, hg1, _⟩
  · exact .inl rfl
  · refine .inr fun e1 => ?_
    have hgg : g1 = g' := Option.some.inj e1
    subst hgg
    rw [hg1] at h'
    injection Option.some.inj h' with _ h5
    exact hne h5
/-- the two copies while the second one is written to: ys are its lines now -/
structure Wr (wd : World) (y1 y2 : CardM) (gc gd base1 base2 : Nat) (ys : List LineM) (wr : World) : Prop where
  len : ys.length = y2.ls.length
  own : lineE.Own wr base2 41 (.slice y2.X y2.ls.length y2.c) ys
  more : ∀ z ∈ ys, StrB wr base2 z.A z.m.length ∧ z.m.length ≤ 8796093022208
  kc : Blk wr gc y1.cells 38
  kd : Blk wr gd y2.cells 38
  fresh : y1.Fresh wr base1
  under : y1.Under base2
  below : Below wd.heap.size wd wr
  low : wd.heap.size ≤ base2
theorem Wr.start {wd wr : World} {y1 y2 : CardM} {gc gd base1 base2 : Nat} (kc : Blk wr gc y1.cells 38) (kd : Blk wr gd y2.cells 38) (f1 : y1.Fresh wr base1) (hu : y1.Under base2) (f2 : y2.Fresh wr base2) (hb : Below wd.heap.size wd wr) (hl : wd.heap.size ≤ base2) :
    Wr wd y1 y2 gc gd base1 base2 y2.ls wr := ⟨rfl, f2.2.1, fun z hz => ⟨strB_own (f2.2.2.2 z hz).2.2, (f2.2.2.2 z hz).2.1⟩, kc, kd, f1, hu, hb, hl⟩
theorem Wr.drew {wd wr : World} {y1 y2 : CardM} {gc gd base1 base2 : Nat} {ys : List LineM} (h : Wr wd y1 y2 gc gd base1 base2 ys wr) : Wr wd y1 y2 gc gd base1 base2 ys wr.drew :=
  ⟨h.len, h.own, h.more, h.kc, h.kd, h.fresh, h.under, h.below.drew, h.low⟩
/-- a text of a line is written -/
theorem Wr.text {wd wr : World} {y1 y2 : CardM} {gc gd base1 base2 : Nat} {ys : List LineM} (h : Wr wd y1 y2 gc gd base1 base2 ys wr) {k : Nat} {z : LineM} (hz : ys[k]? = some z) {g : Nat} (hX : y2.X = some ⟨g, 0, none⟩) (t : ByteArray) :
    Wr wd y1 y2 gc gd base1 base2 (ys.set k ⟨z.f, t, z.A, z.m, z.c⟩) (wr.setCell ⟨g, k * 3 + 1, none⟩ (.string t)) := by
  obtain ⟨g', hg, hg1, hg2, hgc, hgf, hgs⟩ := h.own.spot (j := 1) hz rfl
  obtain rfl : g' = g := (congrArg Addr.block (Option.some.inj (hX.symm.trans hg))).symm
  obtain ⟨s1, s2⟩ := hgs ⟨z.f, t, z.A, z.m, z.c⟩ (.string t) rfl
  rw [show lineE.k = 3 from rfl] at s1 s2
  rw [← hX] at s1
  obtain ⟨cur, hcur⟩ : ∃ cur, wr.heap[g']? = some (.cells cur 41 (0, 0)) := by
    rcases h.own.2 with ⟨h1, _⟩ | ⟨g1, cap, cur, h1, _, hg', _⟩
    · rw [hX] at h1; cases h1
    · rw [hX] at h1
      injection h1 with h1
      obtain rfl : g' = g1 := congrArg Addr.block (Option.some.inj h1)
      exact ⟨cur, hg'⟩
  refine ⟨by rw [List.length_set]; exact h.len, s1, fun y hy => ?_, h.kc.other (blk_apart h.kc hcur (by decide)) _, h.kd.other (blk_apart h.kd hcur (by decide)) _, h.fresh.above h.under hg1 _, h.under, h.below.setCell (Nat.le_trans h.low hg1) _, h.low⟩
  rcases List.mem_or_eq_of_mem_set hy with h1 | rfl
  · exact ⟨(h.more y h1).1.set _ _, (h.more y h1).2⟩
  · exact ⟨(h.more z (List.mem_of_getElem? hz)).1.set _ _, (h.more z (List.mem_of_getElem? hz)).2⟩
/-- one of the other texts is written -/
theorem Wr.other {wd wr : World} {y1 y2 : CardM} {gc gd base1 base2 : Nat} {ys : List LineM} (h : Wr wd y1 y2 gc gd base1 base2 ys wr) {g j : Nat} {cur : Array Value} (hg : base2 ≤ g) (hcur : wr.heap[g]? = some (.cells cur 9 (0, 0))) (u : Value) :
    Wr wd y1 y2 gc gd base1 base2 ys (wr.setCell ⟨g, j, none⟩ u) :=
  ⟨h.len, OwnK.other h.own (own_apart h.own hcur (by decide)) u, fun y hy => ⟨(h.more y hy).1.set _ _, (h.more y hy).2⟩, h.kc.other (blk_apart h.kc hcur (by decide)) _, h.kd.other (blk_apart h.kd hcur (by decide)) _, h.fresh.above h.under hg _, h.under, h.below.setCell (Nat.le_trans h.low hg) _, h.low⟩
theorem size_p {x y : CardM} {B : Nat} (h : y.p = x.p) (hs : ∀ z ∈ x.ls, z.t.size ≤ B) : ∀ z ∈ y.ls, z.t.size ≤ B := by
  intro z hz
  have h2 : y.ls.map LineM.p = x.ls.map LineM.p := (card_p.1 h).2
  have h3 : z.p ∈ x.ls.map LineM.p := by rw [← h2]; exact List.mem_map_of_mem hz
  obtain ⟨z', hz', he⟩ := List.mem_map.1 h3
  rw [← (line_p.1 he).2.1]
  exact hs z' hz'
/-- lines that say the same have the same line of a field -/
theorem lineOf_p (f : Nat) : ∀ (a b : List LineM), a.map LineM.p = b.map LineM.p → (lineOf f a).isSome = (lineOf f b).isSome ∧ ((lineOf f a).getD zeroL).p = ((lineOf f b).getD zeroL).p
  | [], [], _ => ⟨rfl, rfl⟩
  | [], _ :: _, h => by simp at h
  | _ :: _, [], h => by simp at h
  | x :: a, y :: b, h => by
    simp only [List.map_cons, List.cons.injEq] at h
    have hf : isF f x = isF f y := by unfold isF; rw [(line_p.1 h.1).1]
    unfold lineOf
    cases hx : isF f x with
    | true =>
      rw [hx] at hf
      rw [List.find?_cons_of_pos hx, List.find?_cons_of_pos hf.symm]
      exact ⟨rfl, h.1⟩
    | false =>
      rw [hx] at hf
      rw [List.find?_cons_of_neg (by rw [hx]; decide), List.find?_cons_of_neg (by rw [← hf]; decide)]
      exact lineOf_p f a b h.2
theorem lineOf_ok (f : Nat) {x : CardM} {w : World} {B : Nat} (h : x.Ok w B) : ((lineOf f x.ls).getD zeroL).Ok w B := by
  unfold lineOf
  rcases find_cases (isF f) x.ls with ⟨h1, _⟩ | ⟨k, z, h1, h2, _, _⟩
  · rw [h1]; exact ⟨Rd.nil, by decide, by decide, by decide⟩
  · rw [h2]; exact h.2.1.2 z (List.mem_of_getElem? h1)
/-- what the law's end needs of the two cards, in the form in which the walk meets it -/
theorem end_facts {wh : World} {a y : CardM} {base : Nat} (hf : y.Fresh wh base) (ha : a.Ok wh wh.heap.size) (hp : y.p = a.p) :
    ∃ (v : Bool) (mm : List ByteArray), mm.length ≤ 8796093022208 ∧
      Kept (∀ W, Below wh.heap.size wh W → Calls Try.prog 73 #[.agg #[.int .u64 (a.cid : Int), .slice a.X a.ls.length a.c], .int .u8 1] W fun e w' => ∃ (xf : Nat) (xt : ByteArray) (xA : Option Addr) (n xc : Nat),
        e = .returned (.tuple #[.agg #[.int .u8 (xf : Int), .string xt, .slice xA n xc], .bool v]) ∧ n ≤ 8796093022208 ∧ StrB w' W.heap.size xA n ∧ Below W.heap.size W w') ∧
      Kept (∀ W, Below wh.heap.size wh W → Calls Try.prog 77 #[.agg #[.int .u64 (y.cid : Int), .slice y.X y.ls.length y.c], .int .u8 1] W fun e w' => ∃ (xf : Nat) (xt : ByteArray) (xA : Option Addr) (xc : Nat),
        e = .returned (.tuple #[.agg #[.int .u8 (xf : Int), .string xt, .slice xA mm.length xc], .bool v]) ∧ Rd w' w'.heap.size xA (SB mm) ∧ Below W.heap.size W w') ∧
      Kept (∀ W, Below wh.heap.size wh W → Calls Try.prog 73 #[.agg #[.int .u64 (y.cid : Int), .slice y.X y.ls.length y.c], .int .u8 1] W fun e w' => ∃ (xf : Nat) (xt : ByteArray) (xA : Option Addr) (xc : Nat),
        e = .returned (.tuple #[.agg #[.int .u8 (xf : Int), .string xt, .slice xA mm.length xc], .bool v]) ∧ Rd w' w'.heap.size xA (SB mm) ∧ Below W.heap.size W w') ∧
      Kept (∀ W, Below wh.heap.size wh W → Calls Try.prog 39 #[.agg #[.int .u64 (y.cid : Int), .slice y.X y.ls.length y.c], .agg #[.int .u64 (a.cid : Int), .slice a.X a.ls.length a.c]] W fun e w' => e = .returned (.bool true) ∧ Below W.heap.size W w') := by
  obtain ⟨h1, h2⟩ := lineOf_p 1 y.ls a.ls (card_p.1 hp).2
  have hm := (line_p.1 h2).2.2
  have hok := fun W (h : Below wh.heap.size wh W) => lineOf_ok 1 (hf.ok.next h)
  refine ⟨(lineOf 1 a.ls).isSome, ((lineOf 1 a.ls).getD zeroL).m, ?_, ⟨fun W h => ?_⟩, ⟨fun W h => ?_⟩, ⟨fun W h => ?_⟩, ⟨fun W h => ?_⟩⟩
  · exact (lineOf_ok 1 ha).2.2.2
  · refine (line_any a 1 W (ha.next h)).mono ?_
    rintro e w' ⟨z, rfl, _, _, z3, z4, z5⟩
    exact ⟨z.f, z.t, z.A, z.m.length, z.c, rfl, z3, strB_own z4, z5⟩
  · refine (rline_any y 1 W (hf.ok.next h)).mono ?_
    rintro e w' ⟨rfl, hb⟩
    rw [h1, ← hm]
    exact ⟨_, _, _, _, rfl, (hok W h).1.next hb, hb⟩
  · refine (line_any y 1 W (hf.ok.next h)).mono ?_
    rintro e w' ⟨z, rfl, zp, _, z3, z4, z5⟩
    have zm := (line_p.1 zp).2.2
    rw [h1, ← hm, ← zm]
    exact ⟨z.f, z.t, z.A, z.c, rfl, strE_rd.1 z4.rd, z5⟩
  · refine (rsame_any y a W (hf.ok.next h) (ha.next h)).mono ?_
    rintro e w' ⟨rfl, hb⟩
    rw [decide_eq_true hp]
    exact ⟨rfl, hb⟩
end Go.Proofs.Ytnmcclkpgbdenaa.Card

/- Layer 50 (change): what one change makes of a list: the plain law. -/
namespace Go.Proofs.Ytnmcclkpgbdenaa.Chg
open Go.RowKit Go.Proofs.Ytnmcclkpgbdenaa.Mem Go.Proofs.Ytnmcclkpgbdenaa.Card

/-- a card with another line of a field, or without one -/
def withK (x : CardM) (z : LineM) (d : Bool) : CardM := ⟨x.cid, none, setR z d x.ls, 0⟩
/-- at which place a number stands -/
def findC (t : Nat) (l : List CardM) : Option Nat := l.findIdx? fun y => decide (y.cid = t)
/-- one change done: the list, and an error's number -/
def oneM (l : List CardM) (x : ChM) : List CardM × Nat :=
  if x.k < 1 ∨ 4 < x.k then ([], 4)
  else if x.k = 1 then
    if (findC x.card.cid l).isSome = true then ([], 7) else if cardGood x.card = true then (putM l x.card, 0) else ([], 4)
  else match findC x.card.cid l with
    | none => ([], 6)
    | some i => if x.k = 2 then (l.eraseIdx i, 0) else
      match l[i]? with
      | none => ([], 6)
      | some y => if x.k = 4 ∧ (lineOf x.line.f y.ls).isSome = false then ([], 6)
        else if cardGood (withK y x.line (decide (x.k = 4))) = true then (putM l (withK y x.line (decide (x.k = 4))), 0) else ([], 4)
theorem findC_some {t i : Nat} {l : List CardM} : findC t l = some i ↔ (∃ x, l[i]? = some x ∧ x.cid = t) ∧ ∀ (j : Nat) (y : CardM), j < i → l[j]? = some y → y.cid ≠ t := by
  unfold findC
  rw [List.findIdx?_eq_some_iff_getElem]
  constructor
  · rintro ⟨h, h1, h2⟩
    refine ⟨⟨_, List.getElem?_eq_getElem h, by simpa using h1⟩, fun j y hj hy => ?_⟩
    obtain ⟨h3, rfl⟩ := List.getElem?_eq_some_iff.1 hy
    simpa using h2 j hj
  · rintro ⟨⟨x, hx, hxt⟩, h2⟩
    obtain ⟨h3, rfl⟩ := List.getElem?_eq_some_iff.1 hx
    exact ⟨h3, by simpa using hxt, fun j hj => by simpa using h2 j _ hj (List.getElem?_eq_getElem (by omega))⟩
theorem findC_none {t : Nat} {l : List CardM} : findC t l = none ↔ ∀ (j : Nat) (y : CardM), l[j]? = some y → y.cid ≠ t := by
  unfold findC
  rw [List.findIdx?_eq_none_iff]
  constructor
  · intro h j y hy
    simpa using h y (List.mem_of_getElem? hy)
  · intro h y hy
    obtain ⟨j, hj⟩ := List.getElem?_of_mem hy
    simpa using h j y hj
/-- the program's place, and the document's -/
theorem find_pos {t i : Nat} {l : List CardM} (hs : SortedC l) (h : PosAt l t i) : findC t l = if isAt l t i then some i else none := by
  obtain ⟨h1, h2, h3⟩ := h
  unfold isAt
  cases hx : l[i]? with
  | none =>
    simp only [Bool.false_eq_true, if_false]
    rw [findC_none]
    intro j y hy
    have hlt := (List.getElem?_eq_some_iff.1 hy).1
    have : l.length ≤ i := by simpa using hx
    have := h2 j y hy (by omega)
    omega
  | some x =>
    by_cases he : x.cid = t
    · simp only [he, decide_true, if_true]
      rw [findC_some]
      exact ⟨⟨x, hx, he⟩, fun j y hj hy => by have := h2 j y hy hj; omega⟩
    · simp only [he, decide_false, Bool.false_eq_true, if_false]
      rw [findC_none]
      intro j y hy
      rcases Nat.lt_or_ge j i with hj | hj
      · have := h2 j y hy hj; omega
      · have := h3 j y hy hj
        intro e
        rcases Nat.lt_or_ge i j with hij | hij
        · have h5 := h3 i x hx (Nat.le_refl _)
          have h6 := hs i j x y hx hy hij
          omega
        · obtain rfl : j = i := by omega
          rw [hx] at hy
          exact he (by rw [Option.some.inj hy]; exact e)
theorem find_idx {t : Nat} {l : List CardM} {r : Int} (h : idxC t l r) : r = match findC t l with | some i => (i : Int) | none => -1 := by
  rcases h with ⟨k, x, rfl, hx, hxt, hb⟩ | ⟨rfl, hn⟩
  · rw [findC_some.2 ⟨⟨x, hx, hxt⟩, hb⟩]
  · rw [findC_none.2 hn]
theorem findC_p {t : Nat} {a b : List CardM} (h : a.map CardM.p = b.map CardM.p) : findC t a = findC t b := by
  have e : ∀ l : List CardM, findC t l = (l.map CardM.p).findIdx? fun q => decide (q.1 = t) := fun l => by
    unfold findC
    rw [List.findIdx?_map]
    rfl
  rw [e, e, h]
theorem withK_p {x y : CardM} (h : x.p = y.p) (z : LineM) (d : Bool) : (withK x z d).p = (withK y z d).p := by
  obtain ⟨h1, h2⟩ := card_p.1 h
  exact card_p.2 ⟨h1, setR_p rfl d h2⟩
theorem oneM_p {a b : List CardM} (x : ChM) (h : a.map CardM.p = b.map CardM.p) : (oneM a x).2 = (oneM b x).2 ∧ (oneM a x).1.map CardM.p = (oneM b x).1.map CardM.p := by
  unfold oneM
  rw [findC_p h]
  split
  · exact ⟨rfl, rfl⟩
  · split
    · split
      · exact ⟨rfl, rfl⟩
      · split
        · exact ⟨rfl, putM_p h rfl⟩
        · exact ⟨rfl, rfl⟩
    · cases findC x.card.cid b with
      | none => exact ⟨rfl, rfl⟩
      | some i =>
        dsimp only
        split
        · refine ⟨rfl, ?_⟩
          rw [List.eraseIdx_eq_take_drop_succ, List.eraseIdx_eq_take_drop_succ, List.map_append, List.map_append, List.map_take, List.map_take, List.map_drop, List.map_drop, h]
        · cases hi : a[i]? with
          | none =>
            have hj : b[i]? = none := by
              have h1 : a.length = b.length := by have := congrArg List.length h; simpa using this
              have h2 : a.length ≤ i := by simpa using hi
              simp; omega
            rw [hj]
            exact ⟨rfl, rfl⟩
          | some y =>
            obtain ⟨y2, hy2, hp⟩ := map_get h hi
            rw [hy2]
            dsimp only
            rw [(lineOf_p x.line.f y.ls y2.ls (card_p.1 hp).2).1, cardGood_p (withK_p hp x.line _)]
            split
            · exact ⟨rfl, rfl⟩
            · split
              · exact ⟨rfl, putM_p h (withK_p hp _ _)⟩
              · exact ⟨rfl, rfl⟩
theorem oneM_good {l : List CardM} {x : ChM} (h : goodL l = true) : goodL (oneM l x).1 = true := by
  have h0 : goodL [] = true := rfl
  unfold oneM
  split
  · exact h0
  · split
    · split
      · exact h0
      · split
        · exact put_good h (by assumption)
        · exact h0
    · cases findC x.card.cid l with
      | none => exact h0
      | some i =>
        dsimp only
        split
        · exact erase_good h
        · cases l[i]? with
          | none => exact h0
          | some y =>
            dsimp only
            split
            · exact h0
            · split
              · exact put_good h (by assumption)
              · exact h0
/-- bounds of what stands in a list -/
def BdL (z : LineM) : Prop := z.t.size ≤ 200 ∧ z.m.length ≤ 10 ∧ ∀ q ∈ z.m, q.size ≤ 9223372036854775807
def BdK (n : Nat) (y : CardM) : Prop := y.ls.length ≤ n ∧ ∀ z ∈ y.ls, BdL z
def BdC (n : Nat) (l : List CardM) : Prop := l.length ≤ 25 + n ∧ ∀ y ∈ l, BdK (12 + n) y
def BdX (x : ChM) : Prop := BdK 12 x.card ∧ BdL x.line
theorem BdK.mono {n m : Nat} {y : CardM} (h : BdK n y) (hm : n ≤ m) : BdK m y := ⟨by have := h.1; omega, h.2⟩
theorem bdK_p {n : Nat} {x y : CardM} (h : x.p = y.p) (hx : BdK n x) : BdK n y := by
  obtain ⟨h1, h2⟩ := card_p.1 h
  refine ⟨?_, fun z hz => ?_⟩
  · have := congrArg List.length h2
    simp at this
    have := hx.1
    omega
  · obtain ⟨j, hj⟩ := List.getElem?_of_mem hz
    obtain ⟨u, hu, hp⟩ := map_get h2.symm hj
    obtain ⟨e1, e2, e3⟩ := line_p.1 hp
    have := hx.2 u (List.mem_of_getElem? hu)
    unfold BdL at this ⊢
    rw [e2, e3]
    exact this
theorem bdC_p {n : Nat} {a b : List CardM} (h : a.map CardM.p = b.map CardM.p) (ha : BdC n a) : BdC n b := by
  refine ⟨?_, fun y hy => ?_⟩
  · have := congrArg List.length h
    simp at this
    have := ha.1
    omega
  · obtain ⟨j, hj⟩ := List.getElem?_of_mem hy
    obtain ⟨u, hu, hp⟩ := map_get h.symm hj
    exact bdK_p hp.symm (ha.2 u (List.mem_of_getElem? hu))
theorem setR_mem {x : LineM} : ∀ {d : Bool} {l : List LineM} {z : LineM}, z ∈ setR x d l → z = x ∨ z ∈ l
  | d, [], z, h => by
    unfold setR at h
    split at h
    · cases h
    · exact .inl (List.mem_singleton.1 h)
  | d, y :: l, z, h => by
    unfold setR at h
    rw [List.mem_append, List.mem_append] at h
    rcases h with (h | h) | h
    · split at h
      · exact .inl (List.mem_singleton.1 h)
      · cases h
    · split at h
      · cases h
      · rw [List.mem_singleton.1 h]; exact .inr (List.mem_cons_self ..)
    · rcases setR_mem h with h | h
      · exact .inl h
      · exact .inr (List.mem_cons_of_mem _ h)
theorem setR_len (x : LineM) : ∀ (d : Bool) (l : List LineM), (setR x d l).length ≤ l.length + (if d then 0 else 1)
  | d, [] => by unfold setR; cases d <;> simp
  | d, y :: l => by
    unfold setR
    have ih := setR_len x (d || decide (x.f ≤ y.f)) l
    rw [List.length_append, List.length_append]
    by_cases h1 : x.f ≤ y.f <;> by_cases h2 : y.f = x.f <;> cases d <;> simp [h1, h2] at ih ⊢ <;> omega
theorem bd_with {n : Nat} {y : CardM} {z : LineM} (hy : BdK n y) (hz : BdL z) (d : Bool) : BdK (n + 1) (withK y z d) := by
  refine ⟨?_, fun u hu => ?_⟩
  · have := setR_len z d y.ls
    have h2 := hy.1
    show (setR z d y.ls).length ≤ _
    cases d <;> simp at this <;> omega
  · rcases setR_mem hu with rfl | h
    · exact hz
    · exact hy.2 u h
theorem bd_put {n : Nat} {l : List CardM} {y : CardM} (hl : BdC n l) (hy : BdK (12 + (n + 1)) y) : BdC (n + 1) (putM l y) := by
  refine ⟨?_, fun u hu => ?_⟩
  · have h1 := hl.1
    have h3 : ∀ q : List CardM, (q.filter fun u => decide (u.cid < y.cid)).length + (q.filter fun u => decide (y.cid < u.cid)).length ≤ q.length := fun q => by
      induction q with
      | nil => simp
      | cons a q ih =>
        rw [List.filter_cons, List.filter_cons]
        by_cases e1 : a.cid < y.cid <;> by_cases e2 : y.cid < a.cid <;> simp [e1, e2] <;> omega
    have h4 := h3 l
    unfold putM
    simp only [List.length_append, List.length_singleton]
    omega
  · unfold putM at hu
    rw [List.mem_append, List.mem_append] at hu
    rcases hu with (hu | hu) | hu
    · exact (hl.2 u (List.mem_filter.1 hu).1).mono (by omega)
    · rw [List.mem_singleton.1 hu]; exact hy
    · exact (hl.2 u (List.mem_filter.1 hu).1).mono (by omega)
theorem oneM_bd {n : Nat} {l : List CardM} {x : ChM} (hl : BdC n l) (hx : BdX x) : BdC (n + 1) (oneM l x).1 := by
  have h0 : BdC (n + 1) [] := ⟨by simp, fun y hy => by cases hy⟩
  unfold oneM
  split
  · exact h0
  · split
    · split
      · exact h0
      · split
        · exact bd_put hl (hx.1.mono (by omega))
        · exact h0
    · cases findC x.card.cid l with
      | none => exact h0
      | some i =>
        dsimp only
        split
        · refine ⟨?_, fun y hy => (hl.2 y ((List.eraseIdx_sublist l i).subset hy)).mono (by omega)⟩
          have := (List.eraseIdx_sublist l i).length_le
          have := hl.1
          show (l.eraseIdx i).length ≤ _
          omega
        · cases hi : l[i]? with
          | none => exact h0
          | some y =>
            dsimp only
            split
            · exact h0
            · split
              · exact bd_put hl ((bd_with (hl.2 y (List.mem_of_getElem? hi)) hx.2 _).mono (by omega))
              · exact h0
/-- all changes done -/
def allM (l : List CardM) : List ChM → List CardM × Nat
  | [] => (l, 0)
  | x :: cs => if (oneM l x).2 = 0 then allM (oneM l x).1 cs else ([], (oneM l x).2)
theorem allM_p : ∀ (cs : List ChM) {a b : List CardM}, a.map CardM.p = b.map CardM.p → (allM a cs).2 = (allM b cs).2 ∧ (allM a cs).1.map CardM.p = (allM b cs).1.map CardM.p
  | [], _, _, h => ⟨rfl, h⟩
  | x :: cs, a, b, h => by
    obtain ⟨h1, h2⟩ := oneM_p x h
    unfold allM
    rw [h1]
    split
    · exact allM_p cs h2
    · exact ⟨rfl, rfl⟩
end Go.Proofs.Ytnmcclkpgbdenaa.Chg
