/- []uint64 and []int in this translation: what reads as a list of words, of integers; append; what a call gives back. -/
import Derived.Test.YtnmcclkpgbdenaaProg
import Derived.Test.YtnmcclkpgbdenaaSet0
import Derived.Outline
namespace Go.Proofs.Ytnmcclkpgbdenaa.Mem
open Go.RowKit

theorem u64_info : (Try.prog.info? 35).map (fun i => (i.zero, i.size, i.bytes)) = some (some (.int .u64 0), 1, 8) := by kernel_rfl
theorem int_info : (Try.prog.info? 3).map (fun i => (i.zero, i.size, i.bytes)) = some (some (.int .i64 0), 1, 8) := by kernel_rfl
def WB (l : List Nat) : List Value := l.map fun x : Nat => Value.int .u64 (x : Int)
def IB (l : List Int) : List Value := l.map fun x : Int => Value.int .i64 x
theorem WB_length (l : List Nat) : (WB l).length = l.length := by simp [WB]
theorem WB_append (a b : List Nat) : WB (a ++ b) = WB a ++ WB b := by simp [WB]
theorem WB_take (l : List Nat) (k : Nat) : (WB l).take k = WB (l.take k) := by simp [WB]
theorem WB_get (l : List Nat) (k : Nat) (h : k < l.length) : (WB l)[k]? = some (.int .u64 (l.getD k 0 : Int)) := by
  simp [WB, List.getElem?_eq_getElem h]
theorem WB_one (l : List Nat) : ∀ u ∈ WB l, u.oneCell' = true := by
  intro u hu
  simp only [WB, List.mem_map] at hu
  obtain ⟨x, _, rfl⟩ := hu
  rfl
theorem IB_length (l : List Int) : (IB l).length = l.length := by simp [IB]
theorem IB_append (a b : List Int) : IB (a ++ b) = IB a ++ IB b := by simp [IB]
theorem IB_get (l : List Int) (k : Nat) (h : k < l.length) : (IB l)[k]? = some (.int .i64 (l.getD k 0 : Int)) := by
  simp [IB, List.getElem?_eq_getElem h]
theorem IB_one (l : List Int) : ∀ u ∈ IB l, u.oneCell' = true := by
  intro u hu
  simp only [IB, List.mem_map] at hu
  obtain ⟨x, _, rfl⟩ := hu
  rfl
/-- a call gives words, integers of its own, and turns nothing that was there -/
def GivesW (w : World) (l : List Nat) (en : Ending) (w' : World) : Prop :=
  ∃ A c, en = .returned (.slice A l.length c) ∧ Own w' w.heap.size 35 (.slice A l.length c) (WB l) ∧ l.length ≤ c ∧ Below w.heap.size w w'
def GivesI (w : World) (l : List Int) (en : Ending) (w' : World) : Prop :=
  ∃ A c, en = .returned (.slice A l.length c) ∧ Own w' w.heap.size 3 (.slice A l.length c) (IB l) ∧ l.length ≤ c ∧ Below w.heap.size w w'
theorem wpl_appW {w : World} {ops : Array Oper} {rest : List Oper} {o : Oper} {a : Act} {Q : Exit → Act → World → Prop} (hgd : o.guard = none) (s x : Operand)
    (ho : o.op = .call { callee := .builtin .append, args := #[s, x], argTypes := #[60, 60] })
    (base : Nat) (v : Value) (l : List Nat) (hs : a.eval s = v) (hown : Own w base 35 v (WB l))
    (B : Nat) (A : Option Addr) (m c : Nat) (news : List Nat) (hx : a.eval x = .slice A m c) (hm : m = news.length) (hr : Rd w B A (WB news))
    (hsz : l.length + news.length ≤ 17592186044416) (hbase : base ≤ w.heap.size)
    (h : ∀ A' c' w' r, Hid (r = l ++ news) → Own w' base 35 (.slice A' r.length c') (WB r) → w.grownBy w' v.ownBlock → Below base w w' → wpList Try.prog ops Q rest (a.put o.dst (.slice A' r.length c')) w') : wpList Try.prog ops Q (o :: rest) a w := by
  obtain ⟨i0, hi0, hz0, hz1, hz2⟩ := info_parts u64_info
  refine wpl_append_rd w hgd s x 60 ho base 35 i0 _ 8 Try.underlying60 hi0 hz0 hz1 hz2 rfl v (WB l) hs hown B A m c (WB news) hx (by rw [WB_length, hm]) hr (WB_one _) (by rw [WB_length, hm]; omega) (by decide) hbase ?_
  intro A' c' w' h1 h2 h3
  rw [WB_length, hm, ← WB_append] at h1
  rw [WB_length, hm]
  have := h A' c' w' (l ++ news) rfl (by rw [List.length_append]; exact h1) h2 h3
  rw [List.length_append] at this
  exact this
theorem wpl_appI {w : World} {ops : Array Oper} {rest : List Oper} {o : Oper} {a : Act} {Q : Exit → Act → World → Prop} (hgd : o.guard = none) (s x : Operand)
    (ho : o.op = .call { callee := .builtin .append, args := #[s, x], argTypes := #[107, 107] })
    (base : Nat) (v : Value) (l : List Int) (hs : a.eval s = v) (hown : Own w base 3 v (IB l))
    (B : Nat) (A : Option Addr) (m c : Nat) (news : List Int) (hx : a.eval x = .slice A m c) (hm : m = news.length) (hr : Rd w B A (IB news))
    (hsz : l.length + news.length ≤ 17592186044416) (hbase : base ≤ w.heap.size)
    (h : ∀ A' c' w' r, Hid (r = l ++ news) → Own w' base 3 (.slice A' r.length c') (IB r) → w.grownBy w' v.ownBlock → Below base w w' → wpList Try.prog ops Q rest (a.put o.dst (.slice A' r.length c')) w') : wpList Try.prog ops Q (o :: rest) a w := by
  obtain ⟨i0, hi0, hz0, hz1, hz2⟩ := info_parts int_info
  refine wpl_append_rd w hgd s x 107 ho base 3 i0 _ 8 Try.underlying107 hi0 hz0 hz1 hz2 rfl v (IB l) hs hown B A m c (IB news) hx (by rw [IB_length, hm]) hr (IB_one _) (by rw [IB_length, hm]; omega) (by decide) hbase ?_
  intro A' c' w' h1 h2 h3
  rw [IB_length, hm, ← IB_append] at h1
  rw [IB_length, hm]
  have := h A' c' w' (l ++ news) rfl (by rw [List.length_append]; exact h1) h2 h3
  rw [List.length_append] at this
  exact this
theorem givesW_mk {w w2 : World} {A : Option Addr} {c : Nat} {r l : List Nat} (h : r = l) (hown : Own w2 w.heap.size 35 (.slice A r.length c) (WB r)) (hb : Below w.heap.size w w2) : GivesW w l (.returned (.slice A r.length c)) w2 := by
  subst h
  obtain ⟨_, _, he, hle, _⟩ := hown.form
  rw [WB_length] at hle
  injection he with _ _ h3
  exact ⟨A, c, rfl, hown, by omega, hb⟩
theorem givesI_mk {w w2 : World} {A : Option Addr} {c : Nat} {r l : List Int} (h : r = l) (hown : Own w2 w.heap.size 3 (.slice A r.length c) (IB r)) (hb : Below w.heap.size w w2) : GivesI w l (.returned (.slice A r.length c)) w2 := by
  subst h
  obtain ⟨_, _, he, hle, _⟩ := hown.form
  rw [IB_length] at hle
  injection he with _ _ h3
  exact ⟨A, c, rfl, hown, by omega, hb⟩
/-- make([]uint64, n) -/
theorem make_words (w : World) (n : Nat) (hn : n ≤ 17592186044416) :
    ∃ w', (Instr.makeSlice 60 (.int .i64 (n : Int)) (.int .i64 (n : Int))).run Try.prog w = .ok (.slice (some ⟨w.heap.size, 0, none⟩) n n) w' ∧
      Own w' w.heap.size 35 (.slice (some ⟨w.heap.size, 0, none⟩) n n) (WB (List.replicate n 0)) ∧ Below w.heap.size w w' := by
  obtain ⟨i0, hi0, hz0, hz1, hz2⟩ := info_parts u64_info
  obtain ⟨w', h1, h2, h3⟩ := run_make_full (P := Try.prog) w w.heap.size 60 35 i0 _ 1 Try.underlying60 hi0 hz0 hz1 .i64 .i64 n (by rw [hz2]; omega) (by simp only [maxLen]; omega) (Nat.le_refl _)
  refine ⟨w', h1, ?_, (Below.refl _ _).grown h3 (Nat.le_refl _) (by simp)⟩
  have e : (madeCells (Value.int .u64 0).cells (n * 1)).toList = WB (List.replicate n 0) := by
    rw [Nat.mul_one]
    show (madeCells #[Value.int .u64 0] n).toList = _
    rw [toList_madeCells_one]
    simp [WB]
  rw [e] at h2
  unfold Own
  rw [WB_length, List.length_replicate]
  exact h2
/-- the one cell of 'append(s, x)' -/
theorem rd_oneW (w : World) (x : Nat) : Rd (w.alloc (.cells #[.int .u64 (x : Int)] 35)) (w.heap.size + 1) (some ⟨w.heap.size, 0, none⟩) (WB [x]) := Rd.new w [.int .u64 (x : Int)] 35
theorem rd_oneI (w : World) (x : Int) : Rd (w.alloc (.cells #[.int .i64 x] 3)) (w.heap.size + 1) (some ⟨w.heap.size, 0, none⟩) (IB [x]) := Rd.new w [.int .i64 x] 3
end Go.Proofs.Ytnmcclkpgbdenaa.Mem
