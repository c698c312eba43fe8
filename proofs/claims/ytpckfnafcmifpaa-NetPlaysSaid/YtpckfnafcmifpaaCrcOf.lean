/- The walks of layer 2, continued: the sum of parts. -/
import Derived.Test.YtpckfnafcmifpaaCrcWalks
namespace Go.Proofs.Ytpckfnafcmifpaa.Crc
open Go.RowKit Go.Proofs.Ytpckfnafcmifpaa.Mem

/-- a row of a slice of byte slices: where it lies, its bytes, its capacity -/
structure Part where
  A : Option Addr
  l : List Nat
  c : Nat
def Part.val (p : Part) : Value := .slice p.A p.l.length p.c
def cat (ps : List Part) : List Nat := (ps.map Part.l).flatten
/-- a slice of byte slices reads these parts -/
def RdParts (w : World) (B : Nat) (X : Option Addr) (ps : List Part) : Prop :=
  Rd w B X (ps.map Part.val) ∧ ∀ p ∈ ps, Rd w B p.A (BB p.l) ∧ AllB p.l ∧ p.l.length ≤ 9223372036854775807
theorem RdParts.below {w w' : World} {B : Nat} {X : Option Addr} {ps : List Part} (h : RdParts w B X ps) (hb : Below B w w') : RdParts w' B X ps :=
  ⟨h.1.below hb, fun p hp => ⟨(h.2 p hp).1.below hb, (h.2 p hp).2⟩⟩
theorem RdParts.more {w : World} {B B' : Nat} {X : Option Addr} {ps : List Part} (h : RdParts w B X ps) (hB : B ≤ B') : RdParts w B' X ps :=
  ⟨h.1.more hB, fun p hp => ⟨(h.2 p hp).1.more hB, (h.2 p hp).2⟩⟩
theorem cat_snoc (ps : List Part) (j : Nat) (p : Part) (h : ps[j]? = some p) : cat (ps.take (j + 1)) = cat (ps.take j) ++ p.l := by
  obtain ⟨hj, rfl⟩ := List.getElem?_eq_some_iff.1 h
  unfold cat
  rw [List.take_succ_eq_append_getElem hj, List.map_append, List.flatten_append]
  simp
theorem cat_all {ps : List Part} (h : ∀ p ∈ ps, AllB p.l) : AllB (cat ps) := by
  intro x hx
  unfold cat at hx
  obtain ⟨l, hl, hxl⟩ := List.mem_flatten.1 hx
  obtain ⟨p, hp, rfl⟩ := List.mem_map.1 hl
  exact h p hp x hxl
/-! parts that are laid in a new block -/
theorem parts_new (w : World) (ps : List Part) (h : ∀ p ∈ ps, Rd w w.heap.size p.A (BB p.l) ∧ AllB p.l ∧ p.l.length ≤ 140737488355328) :
    RdParts (w.alloc (.cells (ps.map Part.val).toArray 54)) (w.heap.size + 1) (some ⟨w.heap.size, 0, none⟩) ps :=
  ⟨Rd.new w _ _, fun p hp => ⟨((h p hp).1.alloc (Nat.le_refl _) _).more (by omega), (h p hp).2.1, by have := (h p hp).2.2; omega⟩⟩
/-- what may be handed on as a part -/
def Ok (w : World) (A : Option Addr) (l : List Nat) : Prop := Rd w w.heap.size A (BB l) ∧ AllB l ∧ l.length ≤ 140737488355328
theorem Ok.next {w w' : World} {A : Option Addr} {l : List Nat} (h : Ok w A l) (hb : Below w.heap.size w w') : Ok w' A l := ⟨(h.1.below hb).more hb.size, h.2⟩
theorem Ok.alloc {w : World} {A : Option Addr} {l : List Nat} (h : Ok w A l) (o : Obj) : Ok (w.alloc o) A l := h.next ((Below.refl _ _).alloc (Nat.le_refl _) o)
theorem Ok.nil (w : World) : Ok w none [] := ⟨Rd.nil, fun x hx => (by cases hx), by simp⟩
end Go.Proofs.Ytpckfnafcmifpaa.Crc
