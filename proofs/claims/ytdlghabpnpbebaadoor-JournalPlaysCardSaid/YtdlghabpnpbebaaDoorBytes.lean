/- []byte in this translation: append, string(b), the comparison of two; what a call gives back. -/
import Derived.Test.YtdlghabpnpbebaaDoorProg
import Derived.Test.YtdlghabpnpbebaaDoorMem
import Derived.Outline
namespace Go.Proofs.YtdlghabpnpbebaaDoor.Mem
open Go.RowKit

theorem u8_info : (Tryd.prog.info? 5).map (fun i => (i.zero, i.size, i.bytes)) = some (some (.int .u8 0), 1, 1) := by kernel_rfl
/-- a call gives bytes of its own, and turns nothing that was there -/
def Gives (w : World) (l : List Nat) (en : Ending) (w' : World) : Prop :=
  ∃ A c, en = .returned (.slice A l.length c) ∧ Own w' w.heap.size 5 (.slice A l.length c) (BB l) ∧ l.length ≤ c ∧ Below w.heap.size w w'
theorem wpl_app {w : World} {ops : Array Oper} {rest : List Oper} {o : Oper} {a : Act} {Q : Exit → Act → World → Prop} (hgd : o.guard = none) (s x : Operand)
    (ho : o.op = .call { callee := .builtin .append, args := #[s, x], argTypes := #[22, 22] })
    (base : Nat) (v : Value) (l : List Nat) (hs : a.eval s = v) (hown : Own w base 5 v (BB l))
    (B : Nat) (A : Option Addr) (m c : Nat) (news : List Nat) (hx : a.eval x = .slice A m c) (hm : m = news.length) (hr : Rd w B A (BB news))
    (hsz : l.length + news.length ≤ 140737488355328) (hbase : base ≤ w.heap.size)
    (h : ∀ A' c' w' r, Hid (r = l ++ news) → Own w' base 5 (.slice A' r.length c') (BB r) → w.grownBy w' v.ownBlock → Below base w w' → wpList Tryd.prog ops Q rest (a.put o.dst (.slice A' r.length c')) w') : wpList Tryd.prog ops Q (o :: rest) a w := by
  obtain ⟨i0, hi0, hz0, hz1, hz2⟩ := info_parts u8_info
  refine wpl_append_rd w hgd s x 22 ho base 5 i0 _ 1 Tryd.underlying22 hi0 hz0 hz1 hz2 rfl v (BB l) hs hown B A m c (BB news) hx (by rw [BB_length, hm]) hr (BB_one _) (by rw [BB_length, hm]; omega) (Nat.le_refl _) hbase ?_
  intro A' c' w' h1 h2 h3
  rw [BB_length, hm, ← BB_append] at h1
  rw [BB_length, hm]
  have := h A' c' w' (l ++ news) rfl (by rw [List.length_append]; exact h1) h2 h3
  rw [List.length_append] at this
  exact this
/-- the same inside a region that draws its order -/
theorem step_app {w : World} {ops : Array Oper} {o : Oper} {a : Act} {K : Act → World → Prop} {Q : Exit → Act → World → Prop} {E : Prop} (hgd : o.guard = none) (s x : Operand)
    (ho : o.op = .call { callee := .builtin .append, args := #[s, x], argTypes := #[22, 22] })
    (base : Nat) (v : Value) (l : List Nat) (hs : a.eval s = v) (hown : Own w base 5 v (BB l))
    (B : Nat) (A : Option Addr) (m c : Nat) (news : List Nat) (hx : a.eval x = .slice A m c) (hm : m = news.length) (hr : Rd w B A (BB news))
    (hsz : l.length + news.length ≤ 140737488355328) (hbase : base ≤ w.heap.size)
    (h : ∀ A' c' w' r, Hid (r = l ++ news) → Own w' base 5 (.slice A' r.length c') (BB r) → w.grownBy w' v.ownBlock → Below base w w' → K (a.put o.dst (.slice A' r.length c')) w') :
    if Region.wanted o (yielded ops a.tmps) = true then Oper.wp Tryd.prog o a w K Q else E := by
  have hw : Region.wanted o (yielded ops a.tmps) = true := by simp [Region.wanted, hgd]
  rw [if_pos hw]
  obtain ⟨i0, hi0, hz0, hz1, hz2⟩ := info_parts u8_info
  refine wp_append_rd w s x 22 ho base 5 i0 _ 1 Tryd.underlying22 hi0 hz0 hz1 hz2 rfl v (BB l) hs hown B A m c (BB news) hx (by rw [BB_length, hm]) hr (BB_one _) (by rw [BB_length, hm]; omega) (Nat.le_refl _) hbase ?_
  intro A' c' w' h1 h2 h3
  rw [BB_length, hm, ← BB_append] at h1
  rw [BB_length, hm]
  have := h A' c' w' (l ++ news) rfl (by rw [List.length_append]; exact h1) h2 h3
  rw [List.length_append] at this
  exact this
/-- the one cell of 'append(s, x)' -/
theorem rd_one (w : World) (x : Nat) : Rd (w.alloc (.cells #[.int .u8 (x : Int)] 5)) (w.heap.size + 1) (some ⟨w.heap.size, 0, none⟩) (BB [x]) := Rd.new w [.int .u8 (x : Int)] 5
theorem run_str (w : World) (B : Nat) (A : Option Addr) (n c : Nat) (l : List Nat) (hn : n = l.length) (h : Rd w B A (BB l)) :
    (convert 22 9 (.slice A n c)).run Tryd.prog w = .ok (.string (strB l)) w :=
  run_string w _ _ 5 B A n c l Tryd.underlying22 Tryd.underlying5 Tryd.underlying9 hn h
theorem str_eq {a b : List Nat} (ha : AllB a) (hb : AllB b) : ((strB a).toList == (strB b).toList) = decide (a = b) := by
  rw [ByteArray.toList_eq, ByteArray.toList_eq]
  by_cases h : a = b
  · subst h; simp
  · have : (strB a).data.toList ≠ (strB b).data.toList := fun e => h (map_inj a b ha hb (by simpa [strB] using e))
    rw [decide_eq_false h]
    exact beq_eq_false_iff_ne.2 this
end Go.Proofs.YtdlghabpnpbebaaDoor.Mem
