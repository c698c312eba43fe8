import Derived.Test.YtfkfpanhbanljaaGreatProg
import Derived.Test.YtfkfpanhbanljaaGreatMem
import Derived.Outline
/- []uint64 and []int in this translation: what reads as a list of words, of integers; append; what a call gives back. -/
namespace Go.Proofs.YtfkfpanhbanljaaGreat.Mem
open Go.RowKit

theorem u64_info : (Tryz.prog.info? 33).map (fun i => (i.zero, i.size, i.bytes)) = some (some (.int .u64 0), 1, 8) := by kernel_rfl
theorem int_info : (Tryz.prog.info? 3).map (fun i => (i.zero, i.size, i.bytes)) = some (some (.int .i64 0), 1, 8) := by kernel_rfl
def WB (l : List Nat) : List Value := l.map fun x : Nat => Value.int .u64 (x : Int)
def IB (l : List Int) : List Value := l.map fun x : Int => Value.int .i64 x
theorem WB_length (l : List Nat) : (WB l).length = l.length := by simp [WB]
theorem WB_append (a b : List Nat) : WB (a ++ b) = WB a ++ WB b := by simp [WB]
theorem WB_take (l : List Nat) (k : Nat) : (WB l).take k = WB (l.take k) := by simp [WB]
theorem WB_get (l : List Nat) (k : Nat) (h : k < l.length) : (WB l)[k]? = some (.int .u64 (l.getD k 0 : Int)) := by
  simp [WB, List.getElem?_eq_getElem h]
theorem WB_one (l : List Nat) : ∀ u ∈ WB l, u.oneCell' = true := by
  intro u hu
  simp only [WB, List.mem_map] at hu
  obtain ⟨x, _, rfl⟩ := hu
  rfl
theorem IB_length (l : List Int) : (IB l).length = l.length := by simp [IB]
theorem IB_append (a b : List Int) : IB (a ++ b) = IB a ++ IB b := by simp [IB]
theorem IB_get (l : List Int) (k : Nat) (h : k < l.length) : (IB l)[k]? = some (.int .i64 (l.getD k 0 : Int)) := by
  simp [IB, List.getElem?_eq_getElem h]
theorem IB_one (l : List Int) : ∀ u ∈ IB l, u.oneCell' = true := by
  intro u hu
  simp only [IB, List.mem_map] at hu
  obtain ⟨x, _, rfl⟩ := hu
  rfl
/-- a call gives words, integers of its own, and turns nothing that was there -/
def GivesW (w : World) (l : List Nat) (en : Ending) (w' : World) : Prop :=
  ∃ A c, en = .returned (.slice A l.length c) ∧ Own w' w.heap.size 33 (.slice A l.length c) (WB l) ∧ l.length ≤ c ∧ Below w.heap.size w w'
def GivesI (w : World) (l : List Int) (en : Ending) (w' : World) : Prop :=
  ∃ A c, en = .returned (.slice A l.length c) ∧ Own w' w.heap.size 3 (.slice A l.length c) (IB l) ∧ l.length ≤ c ∧ Below w.heap.size w w'
theorem wpl_appW {w : World} {ops : Array Oper} {rest : List Oper} {o : Oper} {a : Act} {Q : Exit → Act → World → Prop} (hgd : o.guard = none) (s x : Operand)
    (ho : o.op = .call { callee := .builtin .append, args := #[s, x], argTypes := #[23, 23] })
    (base : Nat) (v : Value) (l : List Nat) (hs : a.eval s = v) (hown : Own w base 33 v (WB l))
    (B : Nat) (A : Option Addr) (m c : Nat) (news : List Nat) (hx : a.eval x = .slice A m c) (hm : m = news.length) (hr : Rd w B A (WB news))
    (hsz : l.length + news.length ≤ 17592186044416) (hbase : base ≤ w.heap.size)
    (h : ∀ A' c' w' r, Hid (r = l ++ news) → Own w' base 33 (.slice A' r.length c') (WB r) → w.grownBy w' v.ownBlock → Below base w w' → wpList Tryz.prog ops Q rest (a.put o.dst (.slice A' r.length c')) w') : wpList Tryz.prog ops Q (o :: rest) a w := by
  obtain ⟨i0, hi0, hz0, hz1, hz2⟩ := info_parts u64_info
  refine wpl_append_rd w hgd s x 23 ho base 33 i0 _ 8 Tryz.underlying23 hi0 hz0 hz1 hz2 rfl v (WB l) hs hown B A m c (WB news) hx (by rw [WB_length, hm]) hr (WB_one _) (by rw [WB_length, hm]; omega) (by decide) hbase ?_
  intro A' c' w' h1 h2 h3
  rw [WB_length, hm, ← WB_append] at h1
  rw [WB_length, hm]
  have := h A' c' w' (l ++ news) rfl (by rw [List.length_append]; exact h1) h2 h3
  rw [List.length_append] at this
  exact this
theorem wpl_appI {w : World} {ops : Array Oper} {rest : List Oper} {o : Oper} {a : Act} {Q : Exit → Act → World → Prop} (hgd : o.guard = none) (s x : Operand)
    (ho : o.op = .call { callee := .builtin .append, args := #[s, x], argTypes := #[71, 71] })
    (base : Nat) (v : Value) (l : List Int) (hs : a.eval s = v) (hown : Own w base 3 v (IB l))
    (B : Nat) (A : Option Addr) (m c : Nat) (news : List Int) (hx : a.eval x = .slice A m c) (hm : m = news.length) (hr : Rd w B A (IB news))
    (hsz : l.length + news.length ≤ 17592186044416) (hbase : base ≤ w.heap.size)
    (h : ∀ A' c' w' r, Hid (r = l ++ news) → Own w' base 3 (.slice A' r.length c') (IB r) → w.grownBy w' v.ownBlock → Below base w w' → wpList Tryz.prog ops Q rest (a.put o.dst (.slice A' r.length c')) w') : wpList Tryz.prog ops Q (o :: rest) a w := by
  obtain ⟨i0, hi0, hz0, hz1, hz2⟩ := info_parts int_info
  refine wpl_append_rd w hgd s x 71 ho base 3 i0 _ 8 Tryz.underlying71 hi0 hz0 hz1 hz2 rfl v (IB l) hs hown B A m c (IB news) hx (by rw [IB_length, hm]) hr (IB_one _) (by rw [IB_length, hm]; omega) (by decide) hbase ?_
  intro A' c' w' h1 h2 h3
  rw [IB_length, hm, ← IB_append] at h1
  rw [IB_length, hm]
  have := h A' c' w' (l ++ news) rfl (by rw [List.length_append]; exact h1) h2 h3
  rw [List.length_append] at this
  exact this
theorem givesW_mk {w w2 : World} {A : Option Addr} {c : Nat} {r l : List Nat} (h : r = l) (hown : Own w2 w.heap.size 33 (.slice A r.length c) (WB r)) (hb : Below w.heap.size w w2) : GivesW w l (.returned (.slice A r.length c)) w2 := by
  subst h
  obtain ⟨_, _, he, hle, _⟩ := hown.form
  rw [WB_length] at hle
  injection he with _ _ h3
  exact ⟨A, c, rfl, hown, by omega, hb⟩
theorem givesI_mk {w w2 : World} {A : Option Addr} {c : Nat} {r l : List Int} (h : r = l) (hown : Own w2 w.heap.size 3 (.slice A r.length c) (IB r)) (hb : Below w.heap.size w w2) : GivesI w l (.returned (.slice A r.length c)) w2 := by
  subst h
  obtain ⟨_, _, he, hle, _⟩ := hown.form
  rw [IB_length] at hle
  injection he with _ _ h3
  exact ⟨A, c, rfl, hown, by omega, hb⟩
/-- make([]uint64, n) -/
theorem make_words (w : World) (n : Nat) (hn : n ≤ 17592186044416) :
    ∃ w', (Instr.makeSlice 23 (.int .i64 (n : Int)) (.int .i64 (n : Int))).run Tryz.prog w = .ok (.slice (some ⟨w.heap.size, 0, none⟩) n n) w' ∧
      Own w' w.heap.size 33 (.slice (some ⟨w.heap.size, 0, none⟩) n n) (WB (List.replicate n 0)) ∧ Below w.heap.size w w' := by
  obtain ⟨i0, hi0, hz0, hz1, hz2⟩ := info_parts u64_info
  obtain ⟨w', h1, h2, h3⟩ := run_make_full (P := Tryz.prog) w w.heap.size 23 33 i0 _ 1 Tryz.underlying23 hi0 hz0 hz1 .i64 .i64 n (by rw [hz2]; omega) (by simp only [maxLen]; omega) (Nat.le_refl _)
  refine ⟨w', h1, ?_, (Below.refl _ _).grown h3 (Nat.le_refl _) (by simp)⟩
  have e : (madeCells (Value.int .u64 0).cells (n * 1)).toList = WB (List.replicate n 0) := by
    rw [Nat.mul_one]
    show (madeCells #[Value.int .u64 0] n).toList = _
    rw [toList_madeCells_one]
    simp [WB]
  rw [e] at h2
  unfold Own
  rw [WB_length, List.length_replicate]
  exact h2
/-- the one cell of 'append(s, x)' -/
theorem rd_oneW (w : World) (x : Nat) : Rd (w.alloc (.cells #[.int .u64 (x : Int)] 33)) (w.heap.size + 1) (some ⟨w.heap.size, 0, none⟩) (WB [x]) := Rd.new w [.int .u64 (x : Int)] 33
theorem rd_oneI (w : World) (x : Int) : Rd (w.alloc (.cells #[.int .i64 x] 3)) (w.heap.size + 1) (some ⟨w.heap.size, 0, none⟩) (IB [x]) := Rd.new w [.int .i64 x] 3
end Go.Proofs.YtfkfpanhbanljaaGreat.Mem

/- []byte in this translation: append, string(b), the comparison of two; what a call gives back. -/
namespace Go.Proofs.YtfkfpanhbanljaaGreat.Mem
open Go.RowKit

theorem u8_info : (Tryz.prog.info? 5).map (fun i => (i.zero, i.size, i.bytes)) = some (some (.int .u8 0), 1, 1) := by kernel_rfl
/-- a call gives bytes of its own, and turns nothing that was there -/
def Gives (w : World) (l : List Nat) (en : Ending) (w' : World) : Prop :=
  ∃ A c, en = .returned (.slice A l.length c) ∧ Own w' w.heap.size 5 (.slice A l.length c) (BB l) ∧ l.length ≤ c ∧ Below w.heap.size w w'
theorem wpl_app {w : World} {ops : Array Oper} {rest : List Oper} {o : Oper} {a : Act} {Q : Exit → Act → World → Prop} (hgd : o.guard = none) (s x : Operand)
    (ho : o.op = .call { callee := .builtin .append, args := #[s, x], argTypes := #[100, 100] })
    (base : Nat) (v : Value) (l : List Nat) (hs : a.eval s = v) (hown : Own w base 5 v (BB l))
    (B : Nat) (A : Option Addr) (m c : Nat) (news : List Nat) (hx : a.eval x = .slice A m c) (hm : m = news.length) (hr : Rd w B A (BB news))
    (hsz : l.length + news.length ≤ 140737488355328) (hbase : base ≤ w.heap.size)
    (h : ∀ A' c' w' r, Hid (r = l ++ news) → Own w' base 5 (.slice A' r.length c') (BB r) → w.grownBy w' v.ownBlock → Below base w w' → wpList Tryz.prog ops Q rest (a.put o.dst (.slice A' r.length c')) w') : wpList Tryz.prog ops Q (o :: rest) a w := by
  obtain ⟨i0, hi0, hz0, hz1, hz2⟩ := info_parts u8_info
  refine wpl_append_rd w hgd s x 100 ho base 5 i0 _ 1 Tryz.underlying100 hi0 hz0 hz1 hz2 rfl v (BB l) hs hown B A m c (BB news) hx (by rw [BB_length, hm]) hr (BB_one _) (by rw [BB_length, hm]; omega) (Nat.le_refl _) hbase ?_
  intro A' c' w' h1 h2 h3
  rw [BB_length, hm, ← BB_append] at h1
  rw [BB_length, hm]
  have := h A' c' w' (l ++ news) rfl (by rw [List.length_append]; exact h1) h2 h3
  rw [List.length_append] at this
  exact this
/-- the same inside a region that draws its order -/
theorem step_app {w : World} {ops : Array Oper} {o : Oper} {a : Act} {K : Act → World → Prop} {Q : Exit → Act → World → Prop} {E : Prop} (hgd : o.guard = none) (s x : Operand)
    (ho : o.op = .call { callee := .builtin .append, args := #[s, x], argTypes := #[100, 100] })
    (base : Nat) (v : Value) (l : List Nat) (hs : a.eval s = v) (hown : Own w base 5 v (BB l))
    (B : Nat) (A : Option Addr) (m c : Nat) (news : List Nat) (hx : a.eval x = .slice A m c) (hm : m = news.length) (hr : Rd w B A (BB news))
    (hsz : l.length + news.length ≤ 140737488355328) (hbase : base ≤ w.heap.size)
    (h : ∀ A' c' w' r, Hid (r = l ++ news) → Own w' base 5 (.slice A' r.length c') (BB r) → w.grownBy w' v.ownBlock → Below base w w' → K (a.put o.dst (.slice A' r.length c')) w') :
    if Region.wanted o (yielded ops a.tmps) = true then Oper.wp Tryz.prog o a w K Q else E := by
  have hw : Region.wanted o (yielded ops a.tmps) = true := by simp [Region.wanted, hgd]
  rw [if_pos hw]
  obtain ⟨i0, hi0, hz0, hz1, hz2⟩ := info_parts u8_info
  refine wp_append_rd w s x 100 ho base 5 i0 _ 1 Tryz.underlying100 hi0 hz0 hz1 hz2 rfl v (BB l) hs hown B A m c (BB news) hx (by rw [BB_length, hm]) hr (BB_one _) (by rw [BB_length, hm]; omega) (Nat.le_refl _) hbase ?_
  intro A' c' w' h1 h2 h3
  rw [BB_length, hm, ← BB_append] at h1
  rw [BB_length, hm]
  have := h A' c' w' (l ++ news) rfl (by rw [List.length_append]; exact h1) h2 h3
  rw [List.length_append] at this
  exact this
/-- the one cell of 'append(s, x)' -/
theorem rd_one (w : World) (x : Nat) : Rd (w.alloc (.cells #[.int .u8 (x : Int)] 5)) (w.heap.size + 1) (some ⟨w.heap.size, 0, none⟩) (BB [x]) := Rd.new w [.int .u8 (x : Int)] 5
theorem run_str (w : World) (B : Nat) (A : Option Addr) (n c : Nat) (l : List Nat) (hn : n = l.length) (h : Rd w B A (BB l)) :
    (convert 100 9 (.slice A n c)).run Tryz.prog w = .ok (.string (strB l)) w :=
  run_string w _ _ 5 B A n c l Tryz.underlying100 Tryz.underlying5 Tryz.underlying9 hn h
theorem str_eq {a b : List Nat} (ha : AllB a) (hb : AllB b) : ((strB a).toList == (strB b).toList) = decide (a = b) := by
  rw [ByteArray.toList_eq, ByteArray.toList_eq]
  by_cases h : a = b
  · subst h; simp
  · have : (strB a).data.toList ≠ (strB b).data.toList := fun e => h (map_inj a b ha hb (by simpa [strB] using e))
    rw [decide_eq_false h]
    exact beq_eq_false_iff_ne.2 this
end Go.Proofs.YtfkfpanhbanljaaGreat.Mem
