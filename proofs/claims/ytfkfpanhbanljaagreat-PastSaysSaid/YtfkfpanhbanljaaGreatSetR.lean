import Derived.Test.YtfkfpanhbanljaaGreatProg
import Derived.Test.YtfkfpanhbanljaaGreatMem
import Derived.Outline
import Derived.Deep.QuietTactic
import Derived.BigQuiet
/- Lists of texts, lines, cards in memory: what reads as which. -/
namespace Go.Proofs.YtfkfpanhbanljaaGreat.Card
open Go.RowKit Go.Proofs.YtfkfpanhbanljaaGreat.Mem

/-- texts as values -/
def SB (l : List ByteArray) : List Value := l.map Value.string
theorem SB_length (l : List ByteArray) : (SB l).length = l.length := by simp [SB]
theorem SB_get (l : List ByteArray) (k : Nat) (h : k < l.length) : (SB l)[k]? = some (.string (l.getD k ByteArray.empty)) := by
  simp [SB, List.getElem?_eq_getElem h]
theorem SB_append (a b : List ByteArray) : SB (a ++ b) = SB a ++ SB b := by simp [SB]
theorem str_beq (a b : ByteArray) : (a.toList == b.toList) = decide (a = b) := by
  rw [ByteArray.toList_eq, ByteArray.toList_eq]
  by_cases h : a = b
  · subst h; simp
  · rw [decide_eq_false h]
    refine beq_eq_false_iff_ne.2 fun e => h ?_
    obtain ⟨⟨x⟩⟩ := a
    obtain ⟨⟨y⟩⟩ := b
    simp at e
    subst e
    rfl
/-- a line where it lies: its field, its text, and the other texts that stand there -/
structure LineM where
  f : Nat
  t : ByteArray
  A : Option Addr
  m : List ByteArray
  c : Nat
def LineM.cells (x : LineM) : List Value := [.int .u8 (x.f : Int), .string x.t, .slice x.A x.m.length x.c]
def LineM.val (x : LineM) : Value := .agg #[.int .u8 (x.f : Int), .string x.t, .slice x.A x.m.length x.c]
/-- what it says -/
def LineM.p (x : LineM) : Nat × ByteArray × List ByteArray := (x.f, x.t, x.m)
def LineM.Ok (w : World) (B : Nat) (x : LineM) : Prop := Rd w B x.A (SB x.m) ∧ x.f < 256 ∧ x.m.length ≤ x.c ∧ x.m.length ≤ 8796093022208
def LB (ls : List LineM) : List Value := ls.flatMap LineM.cells
def RdLines (w : World) (B : Nat) (X : Option Addr) (ls : List LineM) : Prop := Rd w B X (LB ls) ∧ ∀ x ∈ ls, x.Ok w B
/-- a card where it lies -/
structure CardM where
  cid : Nat
  X : Option Addr
  ls : List LineM
  c : Nat
def CardM.cells (x : CardM) : List Value := [.int .u64 (x.cid : Int), .slice x.X x.ls.length x.c]
def CardM.val (x : CardM) : Value := .agg #[.int .u64 (x.cid : Int), .slice x.X x.ls.length x.c]
def CardM.p (x : CardM) : Nat × List (Nat × ByteArray × List ByteArray) := (x.cid, x.ls.map LineM.p)
def CardM.Ok (w : World) (B : Nat) (x : CardM) : Prop := x.cid < 18446744073709551616 ∧ RdLines w B x.X x.ls ∧ x.ls.length ≤ x.c ∧ x.ls.length ≤ 2932031007402
def CB (cs : List CardM) : List Value := cs.flatMap CardM.cells
def RdCards (w : World) (B : Nat) (X : Option Addr) (cs : List CardM) : Prop := Rd w B X (CB cs) ∧ ∀ x ∈ cs, x.Ok w B
section
variable {w w' : World} {B B' : Nat}
theorem LineM.Ok.keep {x : LineM} (h : x.Ok w B) (hk : ∀ p : Addr, p.block < B → w'.cell? p = w.cell? p) : x.Ok w' B := ⟨h.1.keep hk, h.2⟩
theorem LineM.Ok.more {x : LineM} (h : x.Ok w B) (hB : B ≤ B') : x.Ok w B' := ⟨h.1.more hB, h.2⟩
theorem LineM.Ok.next {x : LineM} (h : x.Ok w w.heap.size) (hb : Below w.heap.size w w') : x.Ok w' w'.heap.size := ⟨h.1.next hb, h.2⟩
theorem RdLines.keep {X : Option Addr} {ls : List LineM} (h : RdLines w B X ls) (hk : ∀ p : Addr, p.block < B → w'.cell? p = w.cell? p) : RdLines w' B X ls := ⟨h.1.keep hk, fun x hx => (h.2 x hx).keep hk⟩
theorem RdLines.more {X : Option Addr} {ls : List LineM} (h : RdLines w B X ls) (hB : B ≤ B') : RdLines w B' X ls := ⟨h.1.more hB, fun x hx => (h.2 x hx).more hB⟩
theorem RdLines.below {X : Option Addr} {ls : List LineM} (h : RdLines w B X ls) (hb : Below B w w') : RdLines w' B X ls := h.keep fun _ hp => hb.cell hp
theorem RdLines.next {X : Option Addr} {ls : List LineM} (h : RdLines w w.heap.size X ls) (hb : Below w.heap.size w w') : RdLines w' w'.heap.size X ls := (h.below hb).more hb.size
theorem CardM.Ok.keep {x : CardM} (h : x.Ok w B) (hk : ∀ p : Addr, p.block < B → w'.cell? p = w.cell? p) : x.Ok w' B := ⟨h.1, h.2.1.keep hk, h.2.2⟩
theorem CardM.Ok.more {x : CardM} (h : x.Ok w B) (hB : B ≤ B') : x.Ok w B' := ⟨h.1, h.2.1.more hB, h.2.2⟩
theorem CardM.Ok.below {x : CardM} (h : x.Ok w B) (hb : Below B w w') : x.Ok w' B := h.keep fun _ hp => hb.cell hp
theorem CardM.Ok.next {x : CardM} (h : x.Ok w w.heap.size) (hb : Below w.heap.size w w') : x.Ok w' w'.heap.size := (h.below hb).more hb.size
theorem RdCards.keep {X : Option Addr} {cs : List CardM} (h : RdCards w B X cs) (hk : ∀ p : Addr, p.block < B → w'.cell? p = w.cell? p) : RdCards w' B X cs := ⟨h.1.keep hk, fun x hx => (h.2 x hx).keep hk⟩
theorem RdCards.more {X : Option Addr} {cs : List CardM} (h : RdCards w B X cs) (hB : B ≤ B') : RdCards w B' X cs := ⟨h.1.more hB, fun x hx => (h.2 x hx).more hB⟩
theorem RdCards.below {X : Option Addr} {cs : List CardM} (h : RdCards w B X cs) (hb : Below B w w') : RdCards w' B X cs := h.keep fun _ hp => hb.cell hp
theorem RdCards.next {X : Option Addr} {cs : List CardM} (h : RdCards w w.heap.size X cs) (hb : Below w.heap.size w w') : RdCards w' w'.heap.size X cs := (h.below hb).more hb.size
/-- element i of elements of k cells each, its cell j -/
theorem flat_get {α : Type} (g : α → List Value) (k : Nat) (hg : ∀ x, (g x).length = k) : ∀ (ls : List α) (i j : Nat) (x : α), ls[i]? = some x → j < k → (ls.flatMap g)[i * k + j]? = (g x)[j]?
  | [], i, j, x, h, _ => by simp at h
  | y :: ls, 0, j, x, h, hj => by
    simp at h
    subst h
    rw [List.flatMap_cons, Nat.zero_mul, Nat.zero_add, List.getElem?_append_left (by rw [hg]; exact hj)]
  | y :: ls, i + 1, j, x, h, hj => by
    rw [List.flatMap_cons, List.getElem?_append_right (by rw [hg, Nat.add_mul]; omega), hg]
    have := flat_get g k hg ls i j x (by simpa using h) hj
    rw [show (i + 1) * k + j - k = i * k + j from by rw [Nat.add_mul]; omega]
    exact this
theorem flat_length {α : Type} (g : α → List Value) (k : Nat) (hg : ∀ x, (g x).length = k) (ls : List α) : (ls.flatMap g).length = ls.length * k := by
  induction ls with
  | nil => simp
  | cons y ls ih => rw [List.flatMap_cons, List.length_append, hg, ih, List.length_cons, Nat.add_mul]; omega
theorem LB_length (ls : List LineM) : (LB ls).length = ls.length * 3 := flat_length _ 3 (fun _ => rfl) ls
theorem CB_length (cs : List CardM) : (CB cs).length = cs.length * 2 := flat_length _ 2 (fun _ => rfl) cs
/-- a line of a list: where it lies -/
theorem RdLines.at_ {X : Option Addr} {ls : List LineM} (h : RdLines w B X ls) {i : Nat} {x : LineM} (hi : ls[i]? = some x) :
    ∃ b o, X = some ⟨b, o, none⟩ ∧ b < B ∧ w.cell? ⟨b, o + i * 3, none⟩ = some (.int .u8 (x.f : Int)) ∧ w.cell? ⟨b, o + i * 3 + 1, none⟩ = some (.string x.t) ∧ w.cell? ⟨b, o + i * 3 + 2, none⟩ = some (.slice x.A x.m.length x.c) ∧ x.Ok w B := by
  have hlt := (List.getElem?_eq_some_iff.1 hi).1
  have hne : LB ls ≠ [] := by
    intro e
    have h0 := congrArg List.length e
    rw [LB_length] at h0
    have h1 : ls.length * 3 = 0 := h0
    omega
  obtain ⟨b, o, e, hb, hc⟩ := h.1 hne
  have hg := fun j hj => flat_get LineM.cells 3 (fun _ => rfl) ls i j x hi hj
  refine ⟨b, o, e, hb, ?_, ?_, ?_, h.2 x (List.mem_of_getElem? hi)⟩
  · exact hc (i * 3) _ (hg 0 (by decide))
  · rw [Nat.add_assoc]; exact hc (i * 3 + 1) _ (hg 1 (by decide))
  · rw [Nat.add_assoc]; exact hc (i * 3 + 2) _ (hg 2 (by decide))
theorem RdCards.at_ {X : Option Addr} {cs : List CardM} (h : RdCards w B X cs) {i : Nat} {x : CardM} (hi : cs[i]? = some x) :
    ∃ b o, X = some ⟨b, o, none⟩ ∧ b < B ∧ w.cell? ⟨b, o + i * 2, none⟩ = some (.int .u64 (x.cid : Int)) ∧ w.cell? ⟨b, o + i * 2 + 1, none⟩ = some (.slice x.X x.ls.length x.c) ∧ x.Ok w B := by
  have hlt := (List.getElem?_eq_some_iff.1 hi).1
  have hne : CB cs ≠ [] := by
    intro e
    have h0 := congrArg List.length e
    rw [CB_length] at h0
    have h1 : cs.length * 2 = 0 := h0
    omega
  obtain ⟨b, o, e, hb, hc⟩ := h.1 hne
  have hg := fun j hj => flat_get CardM.cells 2 (fun _ => rfl) cs i j x hi hj
  refine ⟨b, o, e, hb, ?_, ?_, h.2 x (List.mem_of_getElem? hi)⟩
  · exact hc (i * 2) _ (hg 0 (by decide))
  · rw [Nat.add_assoc]; exact hc (i * 2 + 1) _ (hg 1 (by decide))
end
end Go.Proofs.YtfkfpanhbanljaaGreat.Card

/- Two lists of texts compared: the library's slices.Equal, and the reference's own. -/
namespace Go.Proofs.YtfkfpanhbanljaaGreat.Card
open Go.RowKit Go.Proofs.YtfkfpanhbanljaaGreat.Mem

theorem take_lastS (m : List ByteArray) (j : Nat) (h : j < m.length) : m.take (j + 1) = m.take j ++ [m.getD j ByteArray.empty] := by
  rw [List.take_succ_eq_append_getElem h]; simp [List.getD, h]
theorem texts_any (B B' : Nat) (A A' : Option Addr) (n m c c' : Nat) (a b : List ByteArray) (w : World) (hn : n = a.length) (hm : m = b.length) (h1 : Rd w B A (SB a)) (h2 : Rd w B' A' (SB b)) (hsz : a.length ≤ 9223372036854775807) :
    Calls Tryz.prog 52 #[.slice A n c, .slice A' m c'] w fun e w' => e = .returned (.bool (decide (a = b))) ∧ ∃ q, w' = w.drewN q := by
  subst hn hm
  by_cases hl : a.length = b.length
  · have hne : ((a.length : Int) != (b.length : Int)) = false := by simp; omega
    have HL := kept hl
    clear hl
    go_enter Tryz.func52, Tryz.ntmps52
    go_wp2
    go_loopw [5] (fun i wr => ∃ k q : Nat, k ≤ a.length ∧ i = .int .i64 (k : Int) ∧ Kept (a.take k = b.take k) ∧ wr = w.drewN q) (fun i _ => a.length - (intOf i).toNat)
    case atStart => exact ⟨0, 0, Nat.zero_le _, rfl, ⟨rfl⟩, rfl⟩
    case round =>
      obtain ⟨k, q, hk, rfl, ht, rfl⟩ := hrel
      by_cases hlt : k < a.length
      · have hlt2 : k < b.length := by rw [← HL.out]; exact hlt
        obtain ⟨b1, o1, rfl, hb1, hc1⟩ := h1.at_ (SB_get a k hlt)
        obtain ⟨b2, o2, rfl, hb2, hc2⟩ := h2.at_ (SB_get b k hlt2)
        by_cases hxy : a.getD k ByteArray.empty = b.getD k ByteArray.empty
        · have ht2 : Kept (a.take (k + 1) = b.take (k + 1)) := ⟨by rw [take_lastS a k hlt, take_lastS b k hlt2, ht.out, hxy]⟩
          rw [hxy] at hc1
          generalize b.getD k ByteArray.empty = y at *
          clear hxy ht
          go_wp2
          go_quiet (fail)
          go_wp2
          go_roundw
          case rel => exact ⟨k + 1, q + nq, by omega, by go_num, ht2, by simp⟩
          case measure => simp [intOf]; omega
        · have HF : Kept (decide (a = b) = false) := ⟨decide_eq_false (fun e => hxy (by rw [e]))⟩
          have hb : ((a.getD k ByteArray.empty).toList == (b.getD k ByteArray.empty).toList) = false := by rw [str_beq]; exact decide_eq_false hxy
          generalize a.getD k ByteArray.empty = x at *
          generalize b.getD k ByteArray.empty = y at *
          clear hxy ht
          go_wp2
          go_quiet (fail)
          go_wp2
          go_ret
          exact ⟨ret_bool HF.out.symm, q + nq, by simp⟩
      · have HF : Kept (decide (a = b) = true) := ⟨by
          have e1 : a.take k = a := List.take_of_length_le (by omega)
          have e2 : b.take k = b := List.take_of_length_le (by rw [← HL.out]; omega)
          have := ht.out
          rw [e1, e2] at this
          exact decide_eq_true this⟩
        clear ht
        go_wp2
        go_ret
        exact ⟨ret_bool HF.out.symm, q, rfl⟩
  · have hne : ((a.length : Int) != (b.length : Int)) = true := by simp; omega
    have HF : Kept (decide (a = b) = false) := ⟨decide_eq_false (fun e => hl (by rw [e]))⟩
    clear hl
    go_enter Tryz.func52, Tryz.ntmps52
    go_wp2
    go_ret
    exact ⟨ret_bool HF.out.symm, 0, rfl⟩
end Go.Proofs.YtfkfpanhbanljaaGreat.Card

/- Lines and cards compared: the walks of card.sameLine, Same, All, and of the reference. -/
namespace Go.Proofs.YtfkfpanhbanljaaGreat.Card
open Go.RowKit Go.Proofs.YtfkfpanhbanljaaGreat.Mem

theorem below_next {w w1 w2 : World} (h : Below w.heap.size w w1) (h2 : Below w1.heap.size w1 w2) : Below w.heap.size w w2 := h.trans (h2.mono h.size)
theorem below_new {w w1 : World} (h : Below w.heap.size w w1) (o : Obj) : Below w.heap.size w (w1.alloc o) := h.alloc h.size o
theorem line_p {x y : LineM} : x.p = y.p ↔ x.f = y.f ∧ x.t = y.t ∧ x.m = y.m := by
  unfold LineM.p
  simp only [Prod.mk.injEq]
theorem int_beq (a b : Nat) : ((a : Int) == (b : Int)) = decide (a = b) := by
  by_cases h : a = b
  · subst h; simp
  · rw [decide_eq_false h]; exact beq_eq_false_iff_ne.2 (by omega)
theorem take_map {α β : Type} (f : α → β) (l : List α) (k : Nat) (x : α) (h : l[k]? = some x) : (l.take (k + 1)).map f = (l.take k).map f ++ [f x] := by
  obtain ⟨hk, rfl⟩ := List.getElem?_eq_some_iff.1 h
  rw [List.take_succ_eq_append_getElem hk, List.map_append]; rfl
theorem card_p {x y : CardM} : x.p = y.p ↔ x.cid = y.cid ∧ x.ls.map LineM.p = y.ls.map LineM.p := by
  unfold CardM.p
  simp only [Prod.mk.injEq]
end Go.Proofs.YtfkfpanhbanljaaGreat.Card
