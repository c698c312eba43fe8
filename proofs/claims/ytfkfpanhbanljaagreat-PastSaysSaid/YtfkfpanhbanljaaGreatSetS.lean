import Derived.Test.YtfkfpanhbanljaaGreatCardRef
import Derived.Test.YtfkfpanhbanljaaGreatMemK
import Derived.Deep.DeepCutAuto
/- Texts and lines copied: the library's slices.Clone. -/
namespace Go.Proofs.YtfkfpanhbanljaaGreat.Card
open Go.RowKit Go.Proofs.YtfkfpanhbanljaaGreat.Mem

theorem str_info : (Tryz.prog.info? 9).map (fun i => (i.zero, i.size, i.bytes)) = some (some (.string ByteArray.empty), 1, 16) := by kernel_rfl
theorem line_info : (Tryz.prog.info? 92).map (fun i => (i.zero, i.size, i.bytes)) = some (some (.agg #[.int .u8 0, .string ByteArray.empty, .slice none 0 0]), 3, 48) := by kernel_rfl
def strE : Elem ByteArray := ⟨fun s => [.string s], 1, by decide, fun _ => rfl, fun _ u hu => by rcases List.mem_singleton.1 hu with rfl; rfl⟩
def lineE : Elem LineM := ⟨LineM.cells, 3, by decide, fun _ => rfl, fun x u hu => by
  simp only [LineM.cells, List.mem_cons, List.not_mem_nil, or_false] at hu
  rcases hu with rfl | rfl | rfl <;> rfl⟩
def cardE : Elem CardM := ⟨CardM.cells, 2, by decide, fun _ => rfl, fun x u hu => by
  simp only [CardM.cells, List.mem_cons, List.not_mem_nil, or_false] at hu
  rcases hu with rfl | rfl <;> rfl⟩
theorem strE_cells (l : List ByteArray) : strE.cells l = SB l := by
  unfold Elem.cells SB
  induction l with
  | nil => rfl
  | cons x l ih => rw [List.flatMap_cons, ih]; rfl
theorem strE_rd {w : World} {B : Nat} {A : Option Addr} {l : List ByteArray} : strE.Rd w B A l ↔ Rd w B A (SB l) := by unfold Elem.Rd; rw [strE_cells]
end Go.Proofs.YtfkfpanhbanljaaGreat.Card

/- The walk of card.Copy: a card that shares nothing. -/
namespace Go.Proofs.YtfkfpanhbanljaaGreat.Card
open Go.RowKit Go.Proofs.YtfkfpanhbanljaaGreat.Mem

/-- a card of the call's own, in blocks from 'base' on -/
def CardM.Fresh (w : World) (base : Nat) (y : CardM) : Prop :=
  y.cid < 18446744073709551616 ∧ lineE.Own w base 92 (.slice y.X y.ls.length y.c) y.ls ∧ y.ls.length ≤ 2932031007402 ∧ ∀ z ∈ y.ls, z.f < 256 ∧ z.m.length ≤ 8796093022208 ∧ strE.Own w base 9 (.slice z.A z.m.length z.c) z.m
theorem CardM.Fresh.ok {w : World} {base : Nat} {y : CardM} (h : y.Fresh w base) : y.Ok w w.heap.size := by
  obtain ⟨h1, h2, h3, h4⟩ := h
  refine ⟨h1, ⟨h2.rd, fun z hz => ?_⟩, h2.cap, h3⟩
  obtain ⟨h5, h6, h7⟩ := h4 z hz
  exact ⟨strE_rd.1 h7.rd, h5, h7.cap, h6⟩
theorem CardM.Fresh.below {w w' : World} {base : Nat} {y : CardM} (h : y.Fresh w base) {B : Nat} (hb : Below B w w') (hB : w.heap.size ≤ B) : y.Fresh w' base :=
  ⟨h.1, h.2.1.below hb hB, h.2.2.1, fun z hz => ⟨(h.2.2.2 z hz).1, (h.2.2.2 z hz).2.1, (h.2.2.2 z hz).2.2.below hb hB⟩⟩
theorem CardM.Fresh.low {w : World} {base : Nat} {y : CardM} (h : y.Fresh w base) {p : Addr} (hp : p.block < base) (u : Value) : y.Fresh (w.setCell p u) base :=
  ⟨h.1, OwnK.low h.2.1 hp u, h.2.2.1, fun z hz => ⟨(h.2.2.2 z hz).1, (h.2.2.2 z hz).2.1, OwnK.low (h.2.2.2 z hz).2.2 hp u⟩⟩
theorem CardM.Fresh.mono {w : World} {base b' : Nat} {y : CardM} (h : y.Fresh w base) (hb : b' ≤ base) : y.Fresh w b' :=
  ⟨h.1, h.2.1.mono hb, h.2.2.1, fun z hz => ⟨(h.2.2.2 z hz).1, (h.2.2.2 z hz).2.1, (h.2.2.2 z hz).2.2.mono hb⟩⟩
/-- its blocks lie below block number B -/
def CardM.Under (y : CardM) (B : Nat) : Prop := (∀ k, (Value.slice y.X y.ls.length y.c).ownBlock = some k → k < B) ∧ ∀ z ∈ y.ls, ∀ k, (Value.slice z.A z.m.length z.c).ownBlock = some k → k < B
theorem CardM.Fresh.under {w : World} {base : Nat} {y : CardM} (h : y.Fresh w base) : y.Under w.heap.size :=
  ⟨fun k hk => (OwnK.under h.2.1 k hk).2, fun z hz k hk => (OwnK.under (h.2.2.2 z hz).2.2 k hk).2⟩
theorem CardM.Under.mono {y : CardM} {B B' : Nat} (h : y.Under B) (hB : B ≤ B') : y.Under B' := ⟨fun k hk => Nat.lt_of_lt_of_le (h.1 k hk) hB, fun z hz k hk => Nat.lt_of_lt_of_le (h.2 z hz k hk) hB⟩
theorem ne_block {v : Value} {B g : Nat} (h : ∀ k, v.ownBlock = some k → k < B) (hg : B ≤ g) : v.ownBlock = none ∨ v.ownBlock ≠ some g := by
  cases hv : v.ownBlock with
  | none => exact .inl rfl
  | some k => exact .inr (fun e => by have := h k hv; have h2 : k = g := Option.some.inj e; omega)
/-- a store above it -/
theorem CardM.Fresh.above {w : World} {base B : Nat} {y : CardM} (h : y.Fresh w base) (hu : y.Under B) {p : Addr} (hp : B ≤ p.block) (u : Value) : y.Fresh (w.setCell p u) base :=
  ⟨h.1, OwnK.other h.2.1 (ne_block hu.1 hp) u, h.2.2.1, fun z hz => ⟨(h.2.2.2 z hz).1, (h.2.2.2 z hz).2.1, OwnK.other (h.2.2.2 z hz).2.2 (ne_block (hu.2 z hz) hp) u⟩⟩
/-- a store into a card's variable -/
theorem CardM.Fresh.box {w : World} {base g : Nat} {cs : List Value} {y : CardM} (h : y.Fresh w base) (hk : Blk w g cs 77) (j : Nat) (u : Value) : y.Fresh (w.setCell ⟨g, j, none⟩ u) base :=
  ⟨h.1, OwnK.other h.2.1 (OwnK.apartB h.2.1 hk (by decide)) u, h.2.2.1, fun z hz => ⟨(h.2.2.2 z hz).1, (h.2.2.2 z hz).2.1, OwnK.other (h.2.2.2 z hz).2.2 (OwnK.apartB (h.2.2.2 z hz).2.2 hk (by decide)) u⟩⟩
def Copies (w : World) (x : CardM) (en : Ending) (w' : World) : Prop := ∃ y : CardM, en = .returned y.val ∧ y.p = x.p ∧ y.Fresh w' w.heap.size ∧ Below w.heap.size w w'
/-- the state of the copy behind k lines -/
def CopyRel (x : CardM) (w : World) (A1 : Option Addr) (c1 k : Nat) (wr : World) : Prop :=
  ∃ ys : List LineM, ys.length = k ∧ Kept (ys.map LineM.p = (x.ls.take k).map LineM.p) ∧ (∀ z ∈ ys, z.f < 256 ∧ z.m.length ≤ 8796093022208 ∧ strE.Own wr (w.heap.size + 2) 9 (.slice z.A z.m.length z.c) z.m) ∧
    lineE.Own wr (w.heap.size + 2) 92 (.slice A1 x.ls.length c1) (ys ++ x.ls.drop k) ∧ Blk wr w.heap.size [.int .u64 (x.cid : Int), .slice A1 x.ls.length c1] 77 ∧ Blk wr (w.heap.size + 1) [.int .u64 0, .slice none 0 0] 77 ∧ w.heap.size + 2 ≤ wr.heap.size ∧ Below w.heap.size w wr
theorem copy_step {x : CardM} {w wr w2 : World} {g c1 k : Nat} {z : LineM} {A2 : Option Addr} {c2 : Nat} (h : CopyRel x w (some ⟨g, 0, none⟩) c1 k wr) (hz : x.ls[k]? = some z) (hzf : z.f < 256) (hzm : z.m.length ≤ 8796093022208)
    (hown2 : strE.Own w2 wr.heap.size 9 (.slice A2 z.m.length c2) z.m) (hb2 : Below wr.heap.size wr w2) :
    CopyRel x w (some ⟨g, 0, none⟩) c1 (k + 1) (w2.setCell ⟨g, k * 3 + 2, none⟩ (.slice A2 z.m.length c2)) := by
  obtain ⟨ys, hyl, hyp, hyo, hown, hk1, hk2, hsz, hb⟩ := h
  have hlt := (List.getElem?_eq_some_iff.1 hz).1
  have hdz : x.ls.drop k = z :: x.ls.drop (k + 1) := by
    rw [List.drop_eq_getElem_cons hlt]
    congr 1
    exact Option.some.inj ((List.getElem?_eq_getElem hlt).symm.trans hz)
  have hown' := hown.below hb2 (Nat.le_refl _)
  have hmid : (ys ++ x.ls.drop k)[k]? = some z := by rw [List.getElem?_append_right (by omega), hyl, Nat.sub_self, hdz]; rfl
  obtain ⟨g', hg, hg1, hg2, hgc, hgf, hgs⟩ := hown'.spot (j := 2) hmid rfl
  obtain rfl : g' = g := (congrArg Addr.block (Option.some.inj hg)).symm
  obtain ⟨s1, s2⟩ := hgs ⟨z.f, z.t, A2, z.m, c2⟩ (.slice A2 z.m.length c2) rfl
  rw [show lineE.k = 3 from rfl] at s1 s2
  have hset : (ys ++ x.ls.drop k).set k ⟨z.f, z.t, A2, z.m, c2⟩ = (ys ++ [⟨z.f, z.t, A2, z.m, c2⟩]) ++ x.ls.drop (k + 1) := by
    rw [List.set_append_right _ _ (by omega), hyl, Nat.sub_self, hdz, List.set_cons_zero, List.append_assoc]; rfl
  rw [hset] at s1
  have hkeep : ∀ (v : Value) (l : List ByteArray) (b : Nat), strE.Own w2 b 9 v l → strE.Own (w2.setCell ⟨g', k * 3 + 2, none⟩ (.slice A2 z.m.length c2)) b 9 v l := fun v l b h => by
    exact OwnK.kept h s2 (OwnK.apart (e2 := 92) h hown' (by decide))
  refine ⟨ys ++ [⟨z.f, z.t, A2, z.m, c2⟩], by simp [hyl], ⟨?_⟩, ?_, s1, ?_, ?_, ?_, ?_⟩
  · rw [List.map_append, hyp.out, take_map LineM.p x.ls k z hz]; rfl
  · intro y hy
    rcases List.mem_append.1 hy with h | h
    · obtain ⟨h1, h2, h3⟩ := hyo y h
      exact ⟨h1, h2, hkeep _ _ _ (h3.below hb2 (Nat.le_refl _))⟩
    · rcases List.mem_singleton.1 h with rfl
      exact ⟨hzf, hzm, hkeep _ _ _ (hown2.mono hsz)⟩
  · exact (hk1.next hb2).other (by simp; omega) _
  · exact (hk2.next hb2).other (by simp; omega) _
  · have := hb2.size; simp [World.setCell]; omega
  · exact (hb.trans (hb2.mono hb.size)).setCell (by simp; omega) _
end Go.Proofs.YtfkfpanhbanljaaGreat.Card

/- The walks of card.Line, of slices.IndexFunc beneath it, and of the reference's Line. -/
namespace Go.Proofs.YtfkfpanhbanljaaGreat.Card
open Go.RowKit Go.Proofs.YtfkfpanhbanljaaGreat.Mem

/-- the first line of a field -/
def isF (f : Nat) (x : LineM) : Bool := decide (x.f = f)
def zeroL : LineM := ⟨0, ⟨#[]⟩, none, [], 0⟩
theorem find_cases {α : Type} (p : α → Bool) : ∀ l : List α, (l.find? p = none ∧ ∀ (j : Nat) y, l[j]? = some y → p y = false) ∨
    (∃ k x, l[k]? = some x ∧ l.find? p = some x ∧ p x = true ∧ ∀ (j : Nat) y, j < k → l[j]? = some y → p y = false)
  | [] => .inl ⟨rfl, fun j y h => by simp at h⟩
  | z :: l => by
    cases hz : p z with
    | true => exact .inr ⟨0, z, rfl, by rw [List.find?_cons_of_pos hz], hz, fun j y hj => by omega⟩
    | false =>
      have hf : (z :: l).find? p = l.find? p := by rw [List.find?_cons_of_neg (by rw [hz]; decide)]
      rcases find_cases p l with ⟨h1, h2⟩ | ⟨k, x, h1, h2, h3, h4⟩
      · refine .inl ⟨by rw [hf, h1], fun j y hy => ?_⟩
        rcases j with _ | j
        · simp at hy; subst hy; exact hz
        · exact h2 j y (by simpa using hy)
      · refine .inr ⟨k + 1, x, by simpa using h1, by rw [hf, h2], h3, fun j y hj hy => ?_⟩
        rcases j with _ | j
        · simp at hy; subst hy; exact hz
        · exact h4 j y (by omega) (by simpa using hy)
/-- the line of a field, or an empty one -/
def lineOf (f : Nat) (ls : List LineM) : Option LineM := ls.find? (isF f)
/-- what card.Line gives: the line, its other texts copied -/
def GivesL (w : World) (o : Option LineM) (en : Ending) (w' : World) : Prop :=
  ∃ y : LineM, en = .returned (.tuple #[y.val, .bool o.isSome]) ∧ y.p = (o.getD zeroL).p ∧ y.f < 256 ∧ y.m.length ≤ 8796093022208 ∧ strE.Own w' w.heap.size 9 (.slice y.A y.m.length y.c) y.m ∧ Below w.heap.size w w'
end Go.Proofs.YtfkfpanhbanljaaGreat.Card
