/- What stays while a copy is written to: relations for the loops of the law CardSame. -/
import Derived.Test.YtijdkbejlaebhaaCardTitle
namespace Go.Proofs.Ytijdkbejlaebhaa.Card
open Go.RowKit Go.Proofs.Ytijdkbejlaebhaa.Mem

/-- a row of texts of the call's own, whatever they are: n places at A -/
def StrB (w : World) (base : Nat) (A : Option Addr) (n : Nat) : Prop :=
  n = 0 ∨ ∃ (g : Nat) (cur : Array Value), A = some ⟨g, 0, none⟩ ∧ base ≤ g ∧ w.heap[g]? = some (.cells cur 9 (0, 0)) ∧ n ≤ cur.size
theorem strB_own {w : World} {base : Nat} {A : Option Addr} {n c : Nat} {l : List ByteArray} (h : strE.Own w base 9 (.slice A n c) l) : StrB w base A n := by
  have hn := h.len
  rcases h.2 with ⟨h1, h0⟩ | ⟨g, cap, cur, h1, hb, hg, hnc, _, hcs, _⟩
  · exact .inl (by omega)
  · injection h1 with e1 e2 e3
    exact .inr ⟨g, cur, e1, hb, hg, by rw [hcs, show strE.k = 1 from rfl]; omega⟩
theorem StrB.set {w : World} {base : Nat} {A : Option Addr} {n : Nat} (h : StrB w base A n) (p : Addr) (u : Value) : StrB (w.setCell p u) base A n := by
  rcases h with h | ⟨g, cur, h1, h2, h3, h4⟩
  · exact .inl h
  · refine .inr ?_
    by_cases hp : p.block = g
    · obtain ⟨hlt, he⟩ := Array.getElem?_eq_some_iff.1 h3
      refine ⟨g, (if p.spot.isSome then cur else cur.setIfInBounds p.off u), h1, h2, ?_, ?_⟩
      · simp only [World.setCell, hp, Array.getElem?_modify, if_pos trivial, h3, Option.map_some]
      · split <;> simpa using h4
    · exact ⟨g, cur, h1, h2, (Below.heap_setCell w p u g (fun e => hp e.symm)).trans h3, h4⟩
theorem StrB.below {w w' : World} {base B : Nat} {A : Option Addr} {n : Nat} (h : StrB w base A n) (hb : Below B w w') (hB : w.heap.size ≤ B) : StrB w' base A n := by
  rcases h with h | ⟨g, cur, h1, h2, h3, h4⟩
  · exact .inl h
  · exact .inr ⟨g, cur, h1, h2, (hb.block g (by have := (Array.getElem?_eq_some_iff.1 h3).1; omega)).trans h3, h4⟩
/-- one place of it -/
theorem StrB.spot {w : World} {base : Nat} {A : Option Addr} {n : Nat} (h : StrB w base A n) {j : Nat} (hj : j < n) :
    ∃ (g : Nat) (cur : Array Value) (u : Value), A = some ⟨g, 0, none⟩ ∧ base ≤ g ∧ w.heap[g]? = some (.cells cur 9 (0, 0)) ∧ w.cell? ⟨g, j, none⟩ = some u ∧ w.frozen? ⟨g, j, none⟩ = false := by
  rcases h with h | ⟨g, cur, h1, h2, h3, h4⟩
  · omega
  · have hlt : j < cur.size := by omega
    refine ⟨g, cur, cur[j], h1, h2, h3, ?_, ?_⟩
    · rw [cell_of_row w g j cur _ _ h3]; simp [hlt]
    · simp [World.frozen?, h3]
theorem blk_apart {w : World} {g g' : Nat} {cs : List Value} {cur : Array Value} {t t' : TypeId} (h : Blk w g cs t) (h' : w.heap[g']? = some (.cells cur t' (0, 0))) (hne : t ≠ t') : g' ≠ g := by
  rintro rfl
  unfold Blk at h
  rw [h] at h'
  injection Option.some.inj h' with _ h5
  exact hne h5
theorem own_apart {size : Nat} {w : World} {base : Nat} {e t' : TypeId} {v : Value} {n : Nat} {xs : List Value} {g' : Nat} {cur : Array Value} (h : OwnK size w base e v n xs) (h' : w.heap[g']? = some (.cells cur t' (0, 0))) (hne : e ≠ t') : v.ownBlock = none ∨ v.ownBlock ≠ some g' := by
  rcases h.2 with ⟨rfl, _⟩ | ⟨g1, cap, cur1, rfl, _, hg1, _⟩
  · exact .inl rfl
  · refine .inr fun e1 => ?_
    have hgg : g1 = g' := Option.some.inj e1
    subst hgg
    rw [hg1] at h'
    injection Option.some.inj h' with _ h5
    exact hne h5
/-- the two copies while the second one is written to: ys are its lines now -/
structure Wr (wd : World) (y1 y2 : CardM) (gc gd base1 base2 : Nat) (ys : List LineM) (wr : World) : Prop where
  len : ys.length = y2.ls.length
  own : lineE.Own wr base2 45 (.slice y2.X y2.ls.length y2.c) ys
  more : ∀ z ∈ ys, StrB wr base2 z.A z.m.length ∧ z.m.length ≤ 8796093022208
  kc : Blk wr gc y1.cells 38
  kd : Blk wr gd y2.cells 38
  fresh : y1.Fresh wr base1
  under : y1.Under base2
  below : Below wd.heap.size wd wr
  low : wd.heap.size ≤ base2
theorem Wr.start {wd wr : World} {y1 y2 : CardM} {gc gd base1 base2 : Nat} (kc : Blk wr gc y1.cells 38) (kd : Blk wr gd y2.cells 38) (f1 : y1.Fresh wr base1) (hu : y1.Under base2) (f2 : y2.Fresh wr base2) (hb : Below wd.heap.size wd wr) (hl : wd.heap.size ≤ base2) :
    Wr wd y1 y2 gc gd base1 base2 y2.ls wr := ⟨rfl, f2.2.1, fun z hz => ⟨strB_own (f2.2.2.2 z hz).2.2, (f2.2.2.2 z hz).2.1⟩, kc, kd, f1, hu, hb, hl⟩
theorem Wr.drew {wd wr : World} {y1 y2 : CardM} {gc gd base1 base2 : Nat} {ys : List LineM} (h : Wr wd y1 y2 gc gd base1 base2 ys wr) : Wr wd y1 y2 gc gd base1 base2 ys wr.drew :=
  ⟨h.len, h.own, h.more, h.kc, h.kd, h.fresh, h.under, h.below.drew, h.low⟩
/-- a text of a line is written -/
theorem Wr.text {wd wr : World} {y1 y2 : CardM} {gc gd base1 base2 : Nat} {ys : List LineM} (h : Wr wd y1 y2 gc gd base1 base2 ys wr) {k : Nat} {z : LineM} (hz : ys[k]? = some z) {g : Nat} (hX : y2.X = some ⟨g, 0, none⟩) (t : ByteArray) :
    Wr wd y1 y2 gc gd base1 base2 (ys.set k ⟨z.f, t, z.A, z.m, z.c⟩) (wr.setCell ⟨g, k * 3 + 1, none⟩ (.string t)) := by
  obtain ⟨g', hg, hg1, hg2, hgc, hgf, hgs⟩ := h.own.spot (j := 1) hz rfl
  obtain rfl : g' = g := (congrArg Addr.block (Option.some.inj (hX.symm.trans hg))).symm
  obtain ⟨s1, s2⟩ := hgs ⟨z.f, t, z.A, z.m, z.c⟩ (.string t) rfl
  rw [show lineE.k = 3 from rfl] at s1 s2
  rw [← hX] at s1
  obtain ⟨cur, hcur⟩ : ∃ cur, wr.heap[g']? = some (.cells cur 45 (0, 0)) := by
    rcases h.own.2 with ⟨h1, _⟩ | ⟨g1, cap, cur, h1, _, hg', _⟩
    · rw [hX] at h1; cases h1
    · rw [hX] at h1
      injection h1 with h1
      obtain rfl : g' = g1 := congrArg Addr.block (Option.some.inj h1)
      exact ⟨cur, hg'⟩
  refine ⟨by rw [List.length_set]; exact h.len, s1, fun y hy => ?_, h.kc.other (blk_apart h.kc hcur (by decide)) _, h.kd.other (blk_apart h.kd hcur (by decide)) _, h.fresh.above h.under hg1 _, h.under, h.below.setCell (Nat.le_trans h.low hg1) _, h.low⟩
  rcases List.mem_or_eq_of_mem_set hy with h1 | rfl
  · exact ⟨(h.more y h1).1.set _ _, (h.more y h1).2⟩
  · exact ⟨(h.more z (List.mem_of_getElem? hz)).1.set _ _, (h.more z (List.mem_of_getElem? hz)).2⟩
/-- one of the other texts is written -/
theorem Wr.other {wd wr : World} {y1 y2 : CardM} {gc gd base1 base2 : Nat} {ys : List LineM} (h : Wr wd y1 y2 gc gd base1 base2 ys wr) {g j : Nat} {cur : Array Value} (hg : base2 ≤ g) (hcur : wr.heap[g]? = some (.cells cur 9 (0, 0))) (u : Value) :
    Wr wd y1 y2 gc gd base1 base2 ys (wr.setCell ⟨g, j, none⟩ u) :=
  ⟨h.len, OwnK.other h.own (own_apart h.own hcur (by decide)) u, fun y hy => ⟨(h.more y hy).1.set _ _, (h.more y hy).2⟩, h.kc.other (blk_apart h.kc hcur (by decide)) _, h.kd.other (blk_apart h.kd hcur (by decide)) _, h.fresh.above h.under hg _, h.under, h.below.setCell (Nat.le_trans h.low hg) _, h.low⟩
theorem size_p {x y : CardM} {B : Nat} (h : y.p = x.p) (hs : ∀ z ∈ x.ls, z.t.size ≤ B) : ∀ z ∈ y.ls, z.t.size ≤ B := by
  intro z hz
  have h2 : y.ls.map LineM.p = x.ls.map LineM.p := (card_p.1 h).2
  have h3 : z.p ∈ x.ls.map LineM.p := by rw [← h2]; exact List.mem_map_of_mem hz
  obtain ⟨z', hz', he⟩ := List.mem_map.1 h3
  rw [← (line_p.1 he).2.1]
  exact hs z' hz'
/-- lines that say the same have the same line of a field -/
theorem lineOf_p (f : Nat) : ∀ (a b : List LineM), a.map LineM.p = b.map LineM.p → (lineOf f a).isSome = (lineOf f b).isSome ∧ ((lineOf f a).getD zeroL).p = ((lineOf f b).getD zeroL).p
  | [], [], _ => ⟨rfl, rfl⟩
  | [], _ :: _, h => by simp at h
  | _ :: _, [], h => by simp at h
  | x :: a, y :: b, h => by
    simp only [List.map_cons, List.cons.injEq] at h
    have hf : isF f x = isF f y := by unfold isF; rw [(line_p.1 h.1).1]
    unfold lineOf
    cases hx : isF f x with
    | true =>
      rw [hx] at hf
      rw [List.find?_cons_of_pos hx, List.find?_cons_of_pos hf.symm]
      exact ⟨rfl, h.1⟩
    | false =>
      rw [hx] at hf
      rw [List.find?_cons_of_neg (by rw [hx]; decide), List.find?_cons_of_neg (by rw [← hf]; decide)]
      exact lineOf_p f a b h.2
theorem lineOf_ok (f : Nat) {x : CardM} {w : World} {B : Nat} (h : x.Ok w B) : ((lineOf f x.ls).getD zeroL).Ok w B := by
  unfold lineOf
  rcases find_cases (isF f) x.ls with ⟨h1, _⟩ | ⟨k, z, h1, h2, _, _⟩
  · rw [h1]; exact ⟨Rd.nil, by decide, by decide, by decide⟩
  · rw [h2]; exact h.2.1.2 z (List.mem_of_getElem? h1)
/-- what the law's end needs of the two cards, in the form in which the walk meets it -/
theorem end_facts {wh : World} {a y : CardM} {base : Nat} (hf : y.Fresh wh base) (ha : a.Ok wh wh.heap.size) (hp : y.p = a.p) :
    ∃ (v : Bool) (mm : List ByteArray), mm.length ≤ 8796093022208 ∧
      Kept (∀ W, Below wh.heap.size wh W → Calls Try.prog 41 #[.agg #[.int .u64 (a.cid : Int), .slice a.X a.ls.length a.c], .int .u8 1] W fun e w' => ∃ (xf : Nat) (xt : ByteArray) (xA : Option Addr) (n xc : Nat),
        e = .returned (.tuple #[.agg #[.int .u8 (xf : Int), .string xt, .slice xA n xc], .bool v]) ∧ n ≤ 8796093022208 ∧ StrB w' W.heap.size xA n ∧ Below W.heap.size W w') ∧
      Kept (∀ W, Below wh.heap.size wh W → Calls Try.prog 42 #[.agg #[.int .u64 (y.cid : Int), .slice y.X y.ls.length y.c], .int .u8 1] W fun e w' => ∃ (xf : Nat) (xt : ByteArray) (xA : Option Addr) (xc : Nat),
        e = .returned (.tuple #[.agg #[.int .u8 (xf : Int), .string xt, .slice xA mm.length xc], .bool v]) ∧ Rd w' w'.heap.size xA (SB mm) ∧ Below W.heap.size W w') ∧
      Kept (∀ W, Below wh.heap.size wh W → Calls Try.prog 41 #[.agg #[.int .u64 (y.cid : Int), .slice y.X y.ls.length y.c], .int .u8 1] W fun e w' => ∃ (xf : Nat) (xt : ByteArray) (xA : Option Addr) (xc : Nat),
        e = .returned (.tuple #[.agg #[.int .u8 (xf : Int), .string xt, .slice xA mm.length xc], .bool v]) ∧ Rd w' w'.heap.size xA (SB mm) ∧ Below W.heap.size W w') ∧
      Kept (∀ W, Below wh.heap.size wh W → Calls Try.prog 37 #[.agg #[.int .u64 (y.cid : Int), .slice y.X y.ls.length y.c], .agg #[.int .u64 (a.cid : Int), .slice a.X a.ls.length a.c]] W fun e w' => e = .returned (.bool true) ∧ Below W.heap.size W w') := by
  obtain ⟨h1, h2⟩ := lineOf_p 1 y.ls a.ls (card_p.1 hp).2
  have hm := (line_p.1 h2).2.2
  have hok := fun W (h : Below wh.heap.size wh W) => lineOf_ok 1 (hf.ok.next h)
  refine ⟨(lineOf 1 a.ls).isSome, ((lineOf 1 a.ls).getD zeroL).m, ?_, ⟨fun W h => ?_⟩, ⟨fun W h => ?_⟩, ⟨fun W h => ?_⟩, ⟨fun W h => ?_⟩⟩
  · exact (lineOf_ok 1 ha).2.2.2
  · refine (line_any a 1 W (ha.next h)).mono ?_
    rintro e w' ⟨z, rfl, _, _, z3, z4, z5⟩
    exact ⟨z.f, z.t, z.A, z.m.length, z.c, rfl, z3, strB_own z4, z5⟩
  · refine (rline_any y 1 W (hf.ok.next h)).mono ?_
    rintro e w' ⟨rfl, hb⟩
    rw [h1, ← hm]
    exact ⟨_, _, _, _, rfl, (hok W h).1.next hb, hb⟩
  · refine (line_any y 1 W (hf.ok.next h)).mono ?_
    rintro e w' ⟨z, rfl, zp, _, z3, z4, z5⟩
    have zm := (line_p.1 zp).2.2
    rw [h1, ← hm, ← zm]
    exact ⟨z.f, z.t, z.A, z.c, rfl, strE_rd.1 z4.rd, z5⟩
  · refine (rsame_any y a W (hf.ok.next h) (ha.next h)).mono ?_
    rintro e w' ⟨rfl, hb⟩
    rw [decide_eq_true hp]
    exact ⟨rfl, hb⟩
end Go.Proofs.Ytijdkbejlaebhaa.Card
