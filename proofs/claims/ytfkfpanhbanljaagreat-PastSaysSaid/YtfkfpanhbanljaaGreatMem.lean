/- Words for memory, over any program: a slice of one-cell elements that reads as a list; a row of the call's own; append, cut, conversion to a string. -/
import Derived.WalkKit
import Derived.WalkLawsBesides
import Derived.WalkSpells
import Derived.Lib.Hide
import Derived.Maps.AppendAt
import Derived.Deep.AppendLies
import Derived.Deep.Draws
import Derived.Laws.BytesString
namespace Go.Proofs.YtfkfpanhbanljaaGreat.Mem
open Go.RowKit

/-- A fact that nothing looks into till it is opened by '.out': unlike 'Hid' it cannot be unfolded where an assumption is tried against a goal (two sides that compute would then be computed). -/
structure Kept (p : Prop) : Prop where
  out : p
theorem kept {p : Prop} (h : p) : Kept p := ⟨h⟩
/-- the slice address A reads the values xs, all below block B -/
def Rd (w : World) (B : Nat) (A : Option Addr) (xs : List Value) : Prop :=
  xs ≠ [] → ∃ b o, A = some ⟨b, o, none⟩ ∧ b < B ∧ ∀ j u, xs[j]? = some u → w.cell? ⟨b, o + j, none⟩ = some u

theorem add_plain (b o j : Nat) : (⟨b, o, none⟩ : Addr).add j = ⟨b, o + j, none⟩ := by unfold Addr.add; split <;> simp_all

section
variable {w w' : World} {B B' : Nat} {A : Option Addr} {xs : List Value}
theorem Rd.nil : Rd w B A [] := fun h => absurd rfl h
theorem Rd.keep (h : Rd w B A xs) (hk : ∀ p : Addr, p.block < B → w'.cell? p = w.cell? p) : Rd w' B A xs := fun hn => by
  obtain ⟨b, o, e, hb, hc⟩ := h hn
  exact ⟨b, o, e, hb, fun j u hu => (hk _ hb).trans (hc j u hu)⟩
theorem Rd.more (h : Rd w B A xs) (hB : B ≤ B') : Rd w B' A xs := fun hn => by
  obtain ⟨b, o, e, hb, hc⟩ := h hn
  exact ⟨b, o, e, by omega, hc⟩
theorem Rd.below (h : Rd w B A xs) (hb : Below B w w') : Rd w' B A xs := h.keep fun _ hp => hb.cell hp
theorem Rd.next (h : Rd w w.heap.size A xs) (hb : Below w.heap.size w w') : Rd w' w'.heap.size A xs := (h.below hb).more hb.size
theorem Rd.drew (h : Rd w B A xs) : Rd w.drew B A xs := h
theorem Rd.drewN (h : Rd w B A xs) (k : Nat) : Rd (w.drewN k) B A xs := h
theorem Rd.alloc (h : Rd w B A xs) (hB : B ≤ w.heap.size) (o : Obj) : Rd (w.alloc o) B A xs := h.keep fun p hp => World.cell?_alloc_lt w o p (by omega)
theorem Rd.drop (h : Rd w B A xs) (k c n : Nat) (hk : k ≤ n) (hc : n ≤ c) (hn : xs.length = n) : Rd w B (if c = k then A else A.map (·.add k)) (xs.drop k) := fun hne => by
  have hlt : k < n := by
    rcases Nat.lt_or_ge k n with h1 | h1
    · exact h1
    · exact absurd (List.drop_eq_nil_of_le (by omega)) hne
  obtain ⟨b, o, rfl, hb, hcell⟩ := h (by intro e; subst e; simp at hn; omega)
  rw [if_neg (by omega)]
  refine ⟨b, o + k, by simp [add_plain], hb, fun j u hu => ?_⟩
  rw [List.getElem?_drop] at hu
  rw [Nat.add_assoc]
  exact hcell _ u hu
theorem Rd.take (h : Rd w B A xs) (k : Nat) : Rd w B A (xs.take k) := fun hne => by
  obtain ⟨b, o, e, hb, hcell⟩ := h (by intro e; subst e; simp at hne)
  refine ⟨b, o, e, hb, fun j u hu => hcell j u ?_⟩
  rw [List.getElem?_take] at hu
  split at hu
  · exact hu
  · cases hu
/-- one cell -/
theorem Rd.at_ (h : Rd w B A xs) {k : Nat} {u : Value} (hk : xs[k]? = some u) : ∃ b o, A = some ⟨b, o, none⟩ ∧ b < B ∧ w.cell? ⟨b, o + k, none⟩ = some u := by
  obtain ⟨b, o, e, hb, hc⟩ := h (by intro e; subst e; simp at hk)
  exact ⟨b, o, e, hb, hc k u hk⟩
/-- a new block -/
theorem Rd.new (w : World) (cs : List Value) (t : TypeId) : Rd (w.alloc (.cells cs.toArray t)) (w.heap.size + 1) (some ⟨w.heap.size, 0, none⟩) cs := fun _ => by
  refine ⟨w.heap.size, 0, rfl, by omega, fun j u hu => ?_⟩
  rw [cell_of_row (w.alloc _) w.heap.size (0 + j) cs.toArray t (0, 0) (heap_alloc_new w _)]
  simpa using hu
end

/-- a new block with a mark -/
theorem Rd.marked (w : World) (cs : List Value) (t : TypeId) (fr : Nat × Nat) : Rd (w.alloc (.cells cs.toArray t fr)) (w.heap.size + 1) (some ⟨w.heap.size, 0, none⟩) cs := fun _ => by
  refine ⟨w.heap.size, 0, rfl, by omega, fun j u hu => ?_⟩
  rw [cell_of_row (w.alloc _) w.heap.size (0 + j) cs.toArray t fr (heap_alloc_new w _)]
  simpa using hu
/-- the same, where the block's number is spelled otherwise -/
theorem Rd.newAt (w : World) (cs : List Value) (t : TypeId) {B g : Nat} (hg : g = w.heap.size) (hB : g + 1 ≤ B) : Rd (w.alloc (.cells cs.toArray t)) B (some ⟨g, 0, none⟩) cs := by
  subst hg
  exact (Rd.new w cs t).more hB
/-- a row of the call's own: a slice of one-cell elements in a block from 'base' on, or nil -/
def Own (w : World) (base : Nat) (e : TypeId) (v : Value) (xs : List Value) : Prop := w.ownsRow base e 1 v xs.length xs
section
variable {w w' : World} {base : Nat} {e : TypeId} {v : Value} {xs : List Value}
theorem Own.form (h : Own w base e v xs) : ∃ A c, v = .slice A xs.length c ∧ xs.length ≤ c ∧ c ≤ maxLen ∧ Rd w w.heap.size A xs := by
  rcases h.2 with ⟨rfl, h0⟩ | ⟨g, cap, cur, rfl, _, hg, hnc, hcm, _, htake⟩
  · have : xs = [] := List.eq_nil_of_length_eq_zero h0
    subst this
    exact ⟨none, 0, rfl, by simp, by simp [maxLen], Rd.nil⟩
  · refine ⟨_, cap, rfl, hnc, hcm, fun _ => ⟨g, 0, rfl, (Array.getElem?_eq_some_iff.1 hg).1, fun j u hu => ?_⟩⟩
    have := h.cells (g := g) rfl j u hu
    rwa [add_plain] at this
theorem Own.rd {A : Option Addr} {n c : Nat} (h : Own w base e (.slice A n c) xs) : Rd w w.heap.size A xs := by
  obtain ⟨A', c', he, _, _, hr⟩ := h.form
  injection he with h1 h2 h3
  subst h1
  exact hr
theorem Own.len {A : Option Addr} {n c : Nat} (h : Own w base e (.slice A n c) xs) : n = xs.length := by
  obtain ⟨A', c', he, _, _, hr⟩ := h.form
  injection he
theorem Own.nilv (w : World) (base : Nat) (e : TypeId) : Own w base e (.slice none 0 0) [] := World.ownsRow_nil w base e 1
theorem Own.alloc (h : Own w base e v xs) (o : Obj) : Own (w.alloc o) base e v xs := World.ownsRow.alloc h o
theorem Own.mono {b' : Nat} (h : Own w base e v xs) (hb : b' ≤ base) : Own w b' e v xs := by
  refine ⟨h.1, ?_⟩
  rcases h.2 with h1 | ⟨g, cap, cur, a, b, r⟩
  · exact .inl h1
  · exact .inr ⟨g, cap, cur, a, by omega, r⟩
theorem Own.below {B : Nat} (h : Own w base e v xs) (hb : Below B w w') (hB : w.heap.size ≤ B) : Own w' base e v xs := by
  refine ⟨h.1, ?_⟩
  rcases h.2 with h1 | ⟨g, cap, cur, a, b, hg, r⟩
  · exact .inl h1
  · refine .inr ⟨g, cap, cur, a, b, ?_, r⟩
    rw [hb.block g (by have := (Array.getElem?_eq_some_iff.1 hg).1; omega)]
    exact hg
theorem Own.new (w : World) (base : Nat) (e : TypeId) (cs : List Value) (hb : base ≤ w.heap.size) (hm : cs.length ≤ maxLen) :
    Own (w.alloc (.cells cs.toArray e)) base e (.slice (some ⟨w.heap.size, 0, none⟩) cs.length cs.length) cs := by
  refine ⟨by simp, .inr ⟨w.heap.size, cs.length, cs.toArray, rfl, hb, heap_alloc_new w _, Nat.le_refl _, hm, by simp, by simp⟩⟩
end
/-- one place of a row of the call's own: what it holds; a store there -/
theorem Own.spot {w : World} {base : Nat} {e : TypeId} {A : Option Addr} {n c : Nat} {xs : List Value} (h : Own w base e (.slice A n c) xs) {k : Nat} {u : Value} (hk : xs[k]? = some u) :
    ∃ g, A = some ⟨g, 0, none⟩ ∧ base ≤ g ∧ g < w.heap.size ∧ w.cell? ⟨g, k, none⟩ = some u ∧ w.frozen? ⟨g, k, none⟩ = false ∧
      ∀ y : Value, Own (w.setCell ⟨g, k, none⟩ y) base e (.slice (some ⟨g, 0, none⟩) n c) (xs.set k y) ∧ w.grownBy (w.setCell ⟨g, k, none⟩ y) (some g) := by
  have hlt : k < xs.length := (List.getElem?_eq_some_iff.1 hk).1
  have hn := h.len
  subst hn
  obtain ⟨g, cap, hv, hbg, hgl⟩ := World.ownsRow.form h (by omega)
  injection hv with h1 h2 h3
  subst h1 h3
  refine ⟨g, rfl, hbg, hgl, ?_, h.frozenAt k, fun y => ?_⟩
  · rw [h.cellAt k (by omega)]; exact hk
  · obtain ⟨s1, s2⟩ := h.stored k y
    refine ⟨?_, s2⟩
    unfold Own
    rw [List.length_set]
    exact s1
theorem below_draws (B : Nat) (w : World) (a b : Nat) : Below B (w.drewN a) (w.drewN b) := ⟨rfl, rfl, rfl, Nat.le_refl _, fun _ _ => rfl⟩
theorem below_draw (B : Nat) (w : World) (b : Nat) : Below B w (w.drewN b) := ⟨rfl, rfl, rfl, Nat.le_refl _, fun _ _ => rfl⟩
theorem below_grown {base : Nat} {w w' : World} {e : TypeId} {v : Value} {xs : List Value} (h : Own w base e v xs) (hg : w.grownBy w' v.ownBlock) (hb : base ≤ w.heap.size) : Below base w w' :=
  (Below.refl base w).grown hg hb (fun k hk => (World.ownsRow.lt h k hk).1)

section
variable {P : Program} (w : World)
theorem run_append_none (base : Nat) (t ty e : TypeId) (i : TypeInfo) (ht : P.underlying t = some (.slice e)) (hi : P.info? e = some i)
    (v : Value) (xs : List Value) (hown : Own w base e v xs) (c : Nat) : (Builtin.append_ #[t, t] ty #[v, .slice none 0 c]).run P w = .ok v w := by
  rcases hown.2 with ⟨rfl, h0⟩ | ⟨g, cap, cur, rfl, _, _, hnc, _⟩
  · simp [Builtin.append_, run_underlying ht, sizeOf, typeInfo, hi, Builtin.lenOf, Builtin.firstCells]
  · simp [Builtin.append_, run_underlying ht, sizeOf, typeInfo, hi, Builtin.lenOf, Builtin.firstCells, hnc, storeCells]
/-- append: to a row of the call's own, of whatever reads -/
theorem run_append_rd (base : Nat) (t ty e : TypeId) (i : TypeInfo) (z : Value) (bytes : Nat) (ht : P.underlying t = some (.slice e)) (hi : P.info? e = some i) (hz : i.zero = some z)
    (hsize : i.size = 1) (hby : i.bytes = bytes) (hzs : z.cells.size = 1)
    (v : Value) (xs : List Value) (hown : Own w base e v xs)
    (B : Nat) (A : Option Addr) (m c : Nat) (news : List Value) (hm : m = news.length) (hr : Rd w B A news) (h1 : ∀ u ∈ news, u.oneCell' = true)
    (hbytes : (xs.length + m) * bytes ≤ 140737488355328) (hb1 : 1 ≤ bytes) (hbase : base ≤ w.heap.size) :
    ∃ A' c' w', (Builtin.append_ #[t, t] ty #[v, .slice A m c]).run P w = .ok (.slice A' (xs.length + m) c') w' ∧ Own w' base e (.slice A' (xs.length + m) c') (xs ++ news) ∧ w.grownBy w' v.ownBlock ∧
      ((Value.slice A' (xs.length + m) c').ownBlock = v.ownBlock ∨ (Value.slice A' (xs.length + m) c').ownBlock = some w.heap.size) := by
  have fin : ∀ v' w', w'.ownsRow base e 1 v' (xs.length + m) (xs ++ news) → (Builtin.append_ #[t, t] ty #[v, .slice A m c]).run P w = .ok v' w' → w.grownBy w' v.ownBlock → (v'.ownBlock = v.ownBlock ∨ v'.ownBlock = some w.heap.size) →
      ∃ A' c' w', (Builtin.append_ #[t, t] ty #[v, .slice A m c]).run P w = .ok (.slice A' (xs.length + m) c') w' ∧ Own w' base e (.slice A' (xs.length + m) c') (xs ++ news) ∧ w.grownBy w' v.ownBlock ∧
        ((Value.slice A' (xs.length + m) c').ownBlock = v.ownBlock ∨ (Value.slice A' (xs.length + m) c').ownBlock = some w.heap.size) := by
    intro v' w' ho hrun hg hat
    have hl : (xs ++ news).length = xs.length + m := by rw [List.length_append, hm]
    have ho' : Own w' base e v' (xs ++ news) := by unfold Own; rw [hl]; exact ho
    obtain ⟨A', c', rfl, _⟩ := ho'.form
    rw [hl] at *
    exact ⟨A', c', w', hrun, ho', hg, hat⟩
  by_cases hn : news = []
  · subst hn
    have hm0 : m = 0 := hm
    subst hm0
    rcases A with _ | ad
    · exact fin v w (by simpa [Own] using hown) (run_append_none w base t ty e i ht hi v xs hown c) (World.grownBy.refl w _) (.inl rfl)
    · obtain ⟨v', w', hrun, h2, h3, _, h5⟩ := run_append_own_at (P := P) w base t ty e i z 1 bytes ht hi hz hsize hby hzs (by decide) v xs.length xs hown ad 0 c [] rfl (by simp) (by simp)
        (by simp only [maxLen]; have := Nat.le_trans (Nat.le_mul_of_pos_right (xs.length + 0) hb1) hbytes; omega) hbytes hbase
      exact fin v' w' h2 hrun h3 h5
  · obtain ⟨b, o, rfl, hb, hc⟩ := hr hn
    obtain ⟨v', w', hrun, h2, h3, _, h5⟩ := run_append_own_at (P := P) w base t ty e i z 1 bytes ht hi hz hsize hby hzs (by decide) v xs.length xs hown ⟨b, o, none⟩ m c news (by omega) (by intro j u hu; rw [add_plain]; exact hc j u hu) h1
      (by simp only [maxLen]; have := Nat.le_trans (Nat.le_mul_of_pos_right (xs.length + m) hb1) hbytes; omega) hbytes hbase
    exact fin v' w' h2 hrun h3 h5
theorem wp_append_rd {o : Oper} {a : Act} {K : Act → World → Prop} {Q : Exit → Act → World → Prop} (s x : Operand) (t : TypeId)
    (ho : o.op = .call { callee := .builtin .append, args := #[s, x], argTypes := #[t, t] })
    (base : Nat) (e : TypeId) (i : TypeInfo) (z : Value) (bytes : Nat) (ht : P.underlying t = some (.slice e)) (hi : P.info? e = some i) (hz : i.zero = some z)
    (hsize : i.size = 1) (hby : i.bytes = bytes) (hzs : z.cells.size = 1)
    (v : Value) (xs : List Value) (hs : a.eval s = v) (hown : Own w base e v xs)
    (B : Nat) (A : Option Addr) (m c : Nat) (news : List Value) (hx : a.eval x = .slice A m c) (hm : m = news.length) (hr : Rd w B A news) (h1 : ∀ u ∈ news, u.oneCell' = true)
    (hbytes : (xs.length + m) * bytes ≤ 140737488355328) (hb1 : 1 ≤ bytes) (hbase : base ≤ w.heap.size)
    (h : ∀ A' c' w', Own w' base e (.slice A' (xs.length + m) c') (xs ++ news) → w.grownBy w' v.ownBlock → Below base w w' → K (a.put o.dst (.slice A' (xs.length + m) c')) w') : o.wp P a w K Q := by
  obtain ⟨A', c', w', hrun, h2, h3, h4⟩ := run_append_rd (P := P) w base t o.type e i z bytes ht hi hz hsize hby hzs v xs hown B A m c news hm hr h1 hbytes hb1 hbase
  unfold Oper.wp execOp
  simp only [ho, resolve, invoke, builtin, Sem.run_bind, Sem.run_pure, Result.andThen_ok, List.map_toArray, List.map_cons, List.map_nil, hs, hx, hrun]
  exact h A' c' w' h2 h3 (below_grown hown h3 hbase)
theorem wpl_append_rd {ops : Array Oper} {rest : List Oper} {o : Oper} {a : Act} {Q : Exit → Act → World → Prop} (hgd : o.guard = none) (s x : Operand) (t : TypeId)
    (ho : o.op = .call { callee := .builtin .append, args := #[s, x], argTypes := #[t, t] })
    (base : Nat) (e : TypeId) (i : TypeInfo) (z : Value) (bytes : Nat) (ht : P.underlying t = some (.slice e)) (hi : P.info? e = some i) (hz : i.zero = some z)
    (hsize : i.size = 1) (hby : i.bytes = bytes) (hzs : z.cells.size = 1)
    (v : Value) (xs : List Value) (hs : a.eval s = v) (hown : Own w base e v xs)
    (B : Nat) (A : Option Addr) (m c : Nat) (news : List Value) (hx : a.eval x = .slice A m c) (hm : m = news.length) (hr : Rd w B A news) (h1 : ∀ u ∈ news, u.oneCell' = true)
    (hbytes : (xs.length + m) * bytes ≤ 140737488355328) (hb1 : 1 ≤ bytes) (hbase : base ≤ w.heap.size)
    (h : ∀ A' c' w', Own w' base e (.slice A' (xs.length + m) c') (xs ++ news) → w.grownBy w' v.ownBlock → Below base w w' → wpList P ops Q rest (a.put o.dst (.slice A' (xs.length + m) c')) w') : wpList P ops Q (o :: rest) a w :=
  wpList_plain hgd fun _ hK => wp_append_rd w s x t ho base e i z bytes ht hi hz hsize hby hzs v xs hs hown B A m c news hx hm hr h1 hbytes hb1 hbase fun A' c' w' h2 h3 h4 => hK _ _ (h A' c' w' h2 h3 h4)
end

theorem ret_sl {A : Option Addr} {n n' c : Nat} (h : n = n') : Ending.returned (.slice A n c) = .returned (.slice A n' c) := by rw [h]
theorem ret_bool {a b : Bool} (h : a = b) : Ending.returned (.bool a) = .returned (.bool b) := by rw [h]
theorem ret_num {k : IntKind} {a b : Int} (h : a = b) : Ending.returned (.int k a) = .returned (.int k b) := by rw [h]
/-! bytes -/
def BB (l : List Nat) : List Value := l.map fun x : Nat => Value.int .u8 (x : Int)
theorem BB_length (l : List Nat) : (BB l).length = l.length := by simp [BB]
theorem BB_append (a b : List Nat) : BB (a ++ b) = BB a ++ BB b := by simp [BB]
theorem BB_drop (l : List Nat) (k : Nat) : (BB l).drop k = BB (l.drop k) := by simp [BB]
theorem BB_take (l : List Nat) (k : Nat) : (BB l).take k = BB (l.take k) := by simp [BB]
theorem BB_get (l : List Nat) (k : Nat) (h : k < l.length) : (BB l)[k]? = some (.int .u8 (l.getD k 0 : Int)) := by
  simp [BB, List.getElem?_eq_getElem h]
theorem BB_one (l : List Nat) : ∀ u ∈ BB l, u.oneCell' = true := by
  intro u hu
  simp only [BB, List.mem_map] at hu
  obtain ⟨x, _, rfl⟩ := hu
  rfl
def AllB (l : List Nat) : Prop := ∀ x ∈ l, x < 256
/-- bytes as a string -/
def strB (l : List Nat) : ByteArray := ⟨(l.map UInt8.ofNat).toArray⟩
theorem foldl_push (l : List Nat) (s : ByteArray) : (l.map fun x : Nat => (x : Int)).foldl (fun r n => r.push (UInt8.ofNat n.toNat)) s = ⟨(s.data.toList ++ l.map UInt8.ofNat).toArray⟩ := by
  induction l generalizing s with
  | nil => simp
  | cons x l ih =>
    rw [List.map_cons, List.foldl_cons, ih]
    simp [ByteArray.push]
theorem ofNat_inj {a b : Nat} (ha : a < 256) (hb : b < 256) (h : UInt8.ofNat a = UInt8.ofNat b) : a = b := by
  have := congrArg UInt8.toNat h
  simp only [UInt8.toNat_ofNat'] at this
  omega
theorem map_inj : ∀ (a b : List Nat), AllB a → AllB b → a.map UInt8.ofNat = b.map UInt8.ofNat → a = b
  | [], [], _, _, _ => rfl
  | [], _ :: _, _, _, h => by simp at h
  | _ :: _, [], _, _, h => by simp at h
  | x :: a, y :: b, ha, hb, h => by
    simp only [List.map_cons, List.cons.injEq] at h
    rw [ofNat_inj (ha x List.mem_cons_self) (hb y List.mem_cons_self) h.1, map_inj a b (fun z hz => ha z (List.mem_cons_of_mem _ hz)) (fun z hz => hb z (List.mem_cons_of_mem _ hz)) h.2]
theorem strB_inj {a b : List Nat} (ha : AllB a) (hb : AllB b) : strB a = strB b ↔ a = b := by
  constructor
  · intro h
    have := congrArg (fun s : ByteArray => s.data.toList) h
    simp only [strB] at this
    exact map_inj a b ha hb (by simpa using this)
  · rintro rfl; rfl
/-- string(b) -/
theorem run_string {P : Program} (w : World) (src dst e : TypeId) (B : Nat) (A : Option Addr) (n c : Nat) (l : List Nat)
    (hs : P.underlying src = some (.slice e)) (he : P.underlying e = some (.int .u8)) (hd : P.underlying dst = some .string) (hn : n = l.length) (h : Rd w B A (BB l)) :
    (convert src dst (.slice A n c)).run P w = .ok (.string (strB l)) w := by
  subst hn
  rw [run_convert_bytes_string w src dst e A _ c hs he hd]
  have hcs : BB l = (l.map fun x : Nat => (x : Int)).map (Value.int .u8) := by simp [BB]
  rcases A with _ | ad
  · have : l = [] := by
      rcases l with _ | ⟨x, l⟩
      · rfl
      · obtain ⟨_, _, h1, _⟩ := h (by simp [BB])
        cases h1
    subst this
    simp [Conv.bytesToString, strB, Sem.run_pure]
    rfl
  · have hload : (loadCells ad l.length).run P w = .ok ((l.map fun x : Nat => (x : Int)).map (Value.int .u8)).toArray w := by
      rw [← hcs, ← BB_length]
      apply run_loadCells_list
      intro j v hj
      obtain ⟨b, o, he, _, hc⟩ := h (by intro e; rw [e] at hj; simp at hj)
      injection he with he
      subst he
      rw [add_plain]
      exact hc j v hj
    rw [run_bytesToString w ad l.length c _ hload, foldl_push]
    rfl
end Go.Proofs.YtfkfpanhbanljaaGreat.Mem
