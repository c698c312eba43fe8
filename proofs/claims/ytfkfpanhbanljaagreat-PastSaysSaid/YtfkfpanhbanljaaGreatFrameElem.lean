/- Arguments opened, over any program: whole numbers, bools, texts; structs of one-cell fields; slices of what opens. Printed by tools/genframe.py. -/
import Derived.Test.YtfkfpanhbanljaaGreatRows
import Derived.Test.YtfkfpanhbanljaaGreatSetZ
import Derived.Test.YtfkfpanhbanljaaGreatMemK
import Derived.Lib.SmallJoins
namespace Go.Proofs.YtfkfpanhbanljaaGreat.Opens
open Go.ChangeShapes Go.WideShapes Go.ChangeAt Go.RowKit Go.Deep Go.Joins Go.Proofs.YtfkfpanhbanljaaGreat.Mem

section
variable {H : Type} {enc : TypeId × Value → H} {P : Program} {W : World} {base : Nat}
/-- no weight of it is beyond the reach -/
def Fit (P : Program) (t : TypeId) (d : DataW H) : Prop := ∀ n ∈ d.weights P t, n ≤ reachBytes
theorem fit_of {ts : List TypeId} {ds : List (DataW H)} {j : Nat} {t : TypeId} {d : DataW H} (hw : (DataW.weightsEach P ts ds).all (· ≤ reachBytes) = true) (ht : ts[j]? = some t) (hd : ds[j]? = some d) : Fit P t d := fun n hn =>
  of_decide_eq_true (List.all_eq_true.1 hw _ (DataW.weights_mem_each ht hd n hn))
theorem Fit.part {t : TypeId} {fs : Array Field} {ds : List (DataW H)} (h : Fit P t (.agg ds)) (ht : P.underlying t = some (.struct fs)) {j : Nat} {u : TypeId} {d : DataW H} (hu : (fs.toList.map (·.type))[j]? = some u) (hd : ds[j]? = some d) : Fit P u d := fun n hn =>
  h n (by simp only [DataW.weights, ht]; exact DataW.weights_mem_each hu hd n hn)
theorem weightsAll_mem {e : TypeId} {d : DataW H} : ∀ {ds : List (DataW H)}, d ∈ ds → ∀ n ∈ d.weights P e, n ∈ DataW.weightsAll P e ds
  | [], h, _, _ => by cases h
  | d0 :: ds, h, n, hn => by
    simp only [DataW.weightsAll, List.mem_append]
    rcases List.mem_cons.1 h with rfl | h
    · exact Or.inl hn
    · exact Or.inr (weightsAll_mem h n hn)
theorem Fit.elem {t e : TypeId} {el sp : List (DataW H)} (h : Fit P t (.slice el sp)) (ht : P.underlying t = some (.slice e)) {d : DataW H} (hd : d ∈ el) : Fit P e d := fun n hn =>
  h n (by simp only [DataW.weights, ht, List.mem_cons, List.mem_append]; exact Or.inr (Or.inl (weightsAll_mem hd n hn)))
theorem Fit.long {t e : TypeId} {el sp : List (DataW H)} (h : Fit P t (.slice el sp)) (ht : P.underlying t = some (.slice e)) : (el.length + sp.length) * P.bytesOf e ≤ reachBytes :=
  h _ (by simp [DataW.weights, ht])
theorem Fit.str {t : TypeId} {l : List UInt8} (h : Fit (H := H) P t (.lit (.string l))) : l.length ≤ reachBytes := h _ (by simp [DataW.weights])
theorem bulk_one (d : DataW H) : 1 ≤ Rows.uptoBulk d := by
  cases d with
  | lit l => cases l <;> simp [Rows.uptoBulk]
  | nil => simp [Rows.uptoBulk]
  | ptr d => simp [Rows.uptoBulk]
  | slice elems spare => simp [Rows.uptoBulk]
  | agg parts => simp [Rows.uptoBulk]
  | iface t d => simp [Rows.uptoBulk]
  | map entries => simp [Rows.uptoBulk]
  | held h => simp [Rows.uptoBulk]
theorem bulk_range {n : Nat} (D : Nat → DataW H) {α : Type} (Z : Nat → α) (b : α → Nat) (h : ∀ i, i < n → b (Z i) ≤ Rows.uptoBulk (D i)) : (((List.range n).map Z).map b).sum ≤ Rows.uptoBulkAll ((List.range n).map D) := by
  suffices ∀ l : List Nat, (∀ i ∈ l, i < n) → ((l.map Z).map b).sum ≤ Rows.uptoBulkAll (l.map D) from this _ (fun i hi => List.mem_range.1 hi)
  intro l
  induction l with
  | nil => intro _; simp [Rows.uptoBulkAll]
  | cons x l ih =>
    intro hl
    have h1 := h x (hl x List.mem_cons_self)
    have h2 := ih fun i hi => hl i (List.mem_cons_of_mem _ hi)
    simp only [List.map_cons, List.sum_cons, Rows.uptoBulkAll]
    omega
/-- one cell of type t opens to a thing z: the cell is g z, of bulk b z at the most -/
def One (enc : TypeId × Value → H) (P : Program) (W : World) (t : TypeId) {α : Type} (g : α → Value) (Ok : α → Prop) (b : α → Nat) : Prop :=
  ∀ n c x, DataW.trod enc P W 0 (fun _ => true) true n t [c] = some x → Fit P t x.1 → ∃ z, c = g z ∧ Ok z ∧ b z ≤ Rows.uptoBulk x.1
/-- the cells of type t open to a thing z -/
def Some_ (enc : TypeId × Value → H) (P : Program) (W : World) (t : TypeId) {α : Type} (g : α → List Value) (Ok : α → Prop) (b : α → Nat) : Prop :=
  ∀ n cs x, DataW.trod enc P W 0 (fun _ => true) true n t cs = some x → Fit P t x.1 → ∃ z, cs = g z ∧ Ok z ∧ b z ≤ Rows.uptoBulk x.1
theorem one_int {t : TypeId} {k : IntKind} (h0 : P.underlying t = some (.int k)) : One enc P W t (fun z : Int => .int k z) (fun z => (Lit.int k z).wf = true) (fun _ => 1) := fun n c x h _ => by
  obtain ⟨i, hi, _, wi⟩ := DataW.trod_int h0 h
  exact ⟨i, by simpa using hi, wi, bulk_one _⟩
theorem one_u8 {t : TypeId} (h0 : P.underlying t = some (.int .u8)) : One enc P W t (fun z : Nat => .int .u8 (z : Int)) (fun z => z < 256) (fun _ => 1) := fun n c x h _ => by
  obtain ⟨i, hi, _, wi⟩ := DataW.trod_int h0 h
  have := bounds_u8 wi
  exact ⟨i.toNat, by show c = Value.int _ ((i.toNat : Nat) : Int); rw [show ((i.toNat : Nat) : Int) = i from by omega]; simpa using hi, by omega, bulk_one _⟩
theorem one_u32 {t : TypeId} (h0 : P.underlying t = some (.int .u32)) : One enc P W t (fun z : Nat => .int .u32 (z : Int)) (fun z => z < 4294967296) (fun _ => 1) := fun n c x h _ => by
  obtain ⟨i, hi, _, wi⟩ := DataW.trod_int h0 h
  have := bounds_u32 wi
  exact ⟨i.toNat, by show c = Value.int _ ((i.toNat : Nat) : Int); rw [show ((i.toNat : Nat) : Int) = i from by omega]; simpa using hi, by omega, bulk_one _⟩
theorem one_u64 {t : TypeId} (h0 : P.underlying t = some (.int .u64)) : One enc P W t (fun z : Nat => .int .u64 (z : Int)) (fun z => z < 18446744073709551616) (fun _ => 1) := fun n c x h _ => by
  obtain ⟨i, hi, _, wi⟩ := DataW.trod_int h0 h
  have := bounds_u64 wi
  exact ⟨i.toNat, by show c = Value.int _ ((i.toNat : Nat) : Int); rw [show ((i.toNat : Nat) : Int) = i from by omega]; simpa using hi, by omega, bulk_one _⟩
theorem one_i64 {t : TypeId} (h0 : P.underlying t = some (.int .i64)) : One enc P W t (fun z : Int => .int .i64 z) (fun z => -9223372036854775808 ≤ z ∧ z ≤ 9223372036854775807) (fun _ => 1) := fun n c x h _ => by
  obtain ⟨i, hi, _, wi⟩ := DataW.trod_int h0 h
  have := bounds_i64 wi
  exact ⟨i, by simpa using hi, by omega, bulk_one _⟩
theorem one_bool {t : TypeId} (h0 : P.underlying t = some .bool) : One enc P W t (fun z : Bool => .bool z) (fun _ => True) (fun _ => 1) := fun n c x h _ => by
  obtain ⟨i, hi, _⟩ := DataW.trod_bool h0 h
  exact ⟨i, by simpa using hi, trivial, bulk_one _⟩
theorem one_string {t : TypeId} (h0 : P.underlying t = some .string) : One enc P W t (fun z : ByteArray => .string z) (fun z => z.size ≤ 140737488351232) (fun z => z.size + 1) := fun n c x h hf => by
  obtain ⟨s, hs, hx, _⟩ := DataW.trod_string h0 h
  have hp := hf
  rw [hx] at hp
  have := hp.str
  have h3 : s.data.toList.length = s.data.size := Array.length_toList
  have h4 : s.size = s.data.size := rfl
  refine ⟨s, by simpa using hs, by unfold reachBytes at this; omega, ?_⟩
  rw [hx]
  simp [Rows.uptoBulk]
/-- a slice in one cell -/
structure SliceM (α : Type) where
  A : Option Addr
  l : List α
  c : Nat
def SliceM.val {α : Type} (z : SliceM α) : Value := .slice z.A z.l.length z.c
theorem one_slice {t te : TypeId} {α : Type} [Inhabited α] (E : Elem α) {Ok : α → Prop} {b : α → Nat} (ht : P.underlying t = some (.slice te)) (hC : P.cellsOf te = E.k) (hE : Some_ enc P W te E.g Ok b) :
    One enc P W t (SliceM.val (α := α)) (fun z => E.Rd W W.heap.size z.A z.l ∧ (∀ y ∈ z.l, Ok y) ∧ z.l.length ≤ z.c ∧ z.c * P.bytesOf te ≤ reachBytes) (fun z => (z.l.map b).sum + 1) := fun n c x h hf => by
  rcases open_slice ht h with ⟨hcs, _⟩ | ⟨a, len, cap, k, m, D, Pl, hcs, _, hlc, hm, hk, hxe, hx⟩
  · obtain rfl : c = .slice none 0 0 := by simpa using hcs
    exact ⟨⟨none, [], 0⟩, rfl, ⟨Elem.Rd.nil E, (fun y hy => by cases hy), Nat.le_refl _, by simp⟩, by have := bulk_one x.1; simpa using this⟩
  · obtain rfl : c = .slice (some a) len cap := by simpa using hcs
    simp only [if_true] at hk
    obtain rfl : cap = k := hk.symm
    subst hxe
    have hlong := hf.long ht
    simp only [List.length_map, List.length_range] at hlong
    obtain ⟨Z, hZ⟩ := choose_lt (α := α) (n := len) (p := fun r z => (∀ c, c < E.k → W.cell? ((a.add (r * E.k)).add c) = (E.g z)[c]?) ∧ Ok z ∧ b z ≤ Rows.uptoBulk (D r)) (fun r hr => by
      obtain ⟨cs', hc1, hc2⟩ := hx r (by omega)
      rw [hC] at hc1
      obtain ⟨_, _, hcc⟩ := World.cells?_some hc1
      obtain ⟨z, rfl, hz1, hz2⟩ := hE _ _ _ hc2 (hf.elem ht (List.mem_map.2 ⟨r, List.mem_range.2 hr, rfl⟩))
      exact ⟨z, hcc, hz1, hz2⟩)
    refine ⟨⟨some a, (List.range len).map Z, cap⟩, by simp [SliceM.val], ⟨fun hne => ?_, fun y hy => ?_, by simpa using hlc, ?_⟩, ?_⟩
    · have hpos : 0 < len := by
        rcases Nat.eq_zero_or_pos len with e0 | e0
        · subst e0; exact absurd rfl hne
        · exact e0
      obtain ⟨b0, off, spot⟩ := a
      have hk0 := E.pos
      have hg0 : ∃ u, (E.g (Z 0))[0]? = some u := ⟨_, List.getElem?_eq_getElem (by rw [E.len]; exact hk0)⟩
      obtain ⟨u0, hu0⟩ := hg0
      have hc0 : W.cell? (((⟨b0, off, spot⟩ : Addr).add (0 * E.k)).add 0) = some u0 := ((hZ 0 hpos).1 0 hk0).trans hu0
      have hspot : spot = none := by simpa [Addr.add] using World.cell?_spot hc0
      subst hspot
      have hbW : b0 < W.heap.size := by
        have := World.block_lt_of_cell? W _ hc0
        simpa [Addr.add] using this
      refine ⟨b0, off, rfl, hbW, fun j u hu => ?_⟩
      have hj : j < len * E.k := by
        have := (List.getElem?_eq_some_iff.1 hu).1
        rw [E.cells_length] at this
        simpa using this
      have hr : j / E.k < len := Nat.div_lt_of_lt_mul (by rw [Nat.mul_comm]; exact hj)
      have hm3 : j % E.k < E.k := Nat.mod_lt _ hk0
      have hje : j / E.k * E.k + j % E.k = j := by rw [Nat.mul_comm]; exact Nat.div_add_mod j E.k
      have h3 := (hZ (j / E.k) hr).1 (j % E.k) hm3
      rw [Mem.add_plain, Mem.add_plain, Nat.add_assoc, hje] at h3
      have h4 := E.cells_get (l := (List.range len).map Z) (i := j / E.k) (j := j % E.k) (x := Z (j / E.k)) (by simp [hr]) hm3
      rw [hje] at h4
      rw [h3, ← h4]
      exact hu
    · obtain ⟨r, hr, rfl⟩ := List.mem_map.1 hy
      exact (hZ r (List.mem_range.1 hr)).2.1
    · rwa [show len + (cap - len) = cap from by omega] at hlong
    · have := bulk_range D Z b (n := len) (fun i hi => (hZ i hi).2.2)
      simp only [Rows.uptoBulk]
      omega
/-- an argument in one cell -/
theorem One.arg {t : TypeId} {α : Type} {g : α → Value} {Ok : α → Prop} {b : α → Nat} (ho : One enc P W t g Ok b) {v : Value} {d : DataW H} {p : List MemPlace} {ts : List TypeId} {ds : List (DataW H)} {j : Nat} (hc : v.cells.toList = [v]) (h : DataW.Trod enc P W 0 (fun _ => true) true t v d p)
    (hw : (DataW.weightsEach P ts ds).all (· ≤ reachBytes) = true) (hts : ts[j]? = some t) (hds : ds[j]? = some d) : ∃ z, v = g z ∧ Ok z ∧ b z ≤ Rows.uptoBulk d := by
  obtain ⟨n, hn⟩ := h
  rw [hc] at hn
  exact ho n v (d, p) hn (fit_of hw hts hds)
theorem slice_cells {t e : TypeId} {v : Value} {base : Nat} (ht : P.underlying t = some (.slice e)) (hv : Value.okWide P W .any base t v) : v.cells.toList = [v] := by
  obtain ⟨a0, len, cap, rfl⟩ := okWide_slice ht hv
  simp [Value.cells]
theorem Some_.iso {t : TypeId} {α β : Type} {g : α → List Value} {g' : β → List Value} {Ok : α → Prop} {Ok' : β → Prop} {b : α → Nat} {b' : β → Nat} (f : α → β) (hg : ∀ z, g' (f z) = g z) (hok : ∀ z, Ok z → Ok' (f z)) (hb : ∀ z, b' (f z) ≤ b z) (h : Some_ enc P W t g Ok b) : Some_ enc P W t g' Ok' b' := fun n cs x hx hf => by
  obtain ⟨z, h1, h2, h3⟩ := h n cs x hx hf
  exact ⟨f z, by rw [hg]; exact h1, hok z h2, Nat.le_trans (hb z) h3⟩
/-- numbers below 256 as elements -/
def byteE : Elem Nat := ⟨fun x => [.int .u8 (x : Int)], 1, by decide, fun _ => rfl, fun x u hu => by rcases List.mem_singleton.1 hu with rfl; rfl⟩
theorem byteE_cells (l : List Nat) : byteE.cells l = BB l := by
  unfold Elem.cells BB
  induction l with
  | nil => rfl
  | cons x l ih => rw [List.flatMap_cons, ih]; rfl
theorem One.some_ {t : TypeId} {α : Type} {g : α → Value} {Ok : α → Prop} {b : α → Nat} (h : One enc P W t g Ok b) (hl : ∀ n cs x, DataW.trod enc P W 0 (fun _ => true) true n t cs = some x → cs.length = 1) : Some_ enc P W t (fun z => [g z]) Ok b := fun n cs x hx hf => by
  have := hl n cs x hx
  match cs, this with
  | [c], _ =>
    obtain ⟨z, h2, h3, h4⟩ := h n c x hx hf
    exact ⟨z, by rw [h2], h3, h4⟩
theorem bytes_some {te : TypeId} (he : P.underlying te = some (.int .u8)) : Some_ enc P W te byteE.g (fun z => z < 256) (fun _ => 1) := fun n cs x h hf => by
  obtain ⟨i, hi, _, wi⟩ := DataW.trod_int he h
  have := bounds_u8 wi
  exact ⟨i.toNat, by rw [hi]; show _ = [Value.int .u8 ((i.toNat : Nat) : Int)]; rw [show ((i.toNat : Nat) : Int) = i from by omega], by omega, bulk_one _⟩
/-- bytes in one cell -/
theorem one_bytes {t te : TypeId} (ht : P.underlying t = some (.slice te)) (he : P.underlying te = some (.int .u8)) (hC : P.cellsOf te = 1) (hB : P.bytesOf te = 1) :
    One enc P W t (SliceM.val (α := Nat)) (fun z => Rd W W.heap.size z.A (BB z.l) ∧ AllB z.l ∧ z.l.length ≤ z.c ∧ z.c ≤ 140737488351232) (fun z => z.l.length + 1) := fun n c x h hf => by
  obtain ⟨z, h1, ⟨h2, h3, h4, h5⟩, h6⟩ := one_slice byteE ht hC (bytes_some he) n c x h hf
  refine ⟨z, h1, ⟨by unfold Elem.Rd at h2; rwa [byteE_cells] at h2, h3, h4, by rw [hB] at h5; simpa [reachBytes] using h5⟩, ?_⟩
  have e : (z.l.map fun _ => 1).sum = z.l.length := by
    generalize z.l = l
    induction l with
    | nil => rfl
    | cons x l ih => simp [ih]; omega
  have h7 : (z.l.map fun _ => 1).sum + 1 ≤ Rows.uptoBulk x.1 := h6
  rw [e] at h7
  exact h7

theorem struct_2 {t : TypeId} {f0 f1 : Field} (ht : P.underlying t = some (.struct #[f0, f1])) (hone : oneCellFields P #[f0, f1] = true) (hC : P.cellsOf t = 2)
    {α0 : Type} {g0 : α0 → Value} {O0 : α0 → Prop} {b0 : α0 → Nat} (o0 : One enc P W f0.type g0 O0 b0)
    {α1 : Type} {g1 : α1 → Value} {O1 : α1 → Prop} {b1 : α1 → Nat} (o1 : One enc P W f1.type g1 O1 b1)
    : Some_ enc P W t (fun z : α0 × α1 => [g0 (z.1), g1 (z.2)]) (fun z => O0 (z.1) ∧ O1 (z.2)) (fun z => b0 (z.1) + b1 (z.2) + 1) := fun n cs x h hf => by
  obtain ⟨xs, m, _, rfl, hcl, hxl, hx⟩ := DataW.trod_struct ht h
  rw [hC] at hcl
  match xs, hxl, cs, hcl with
  | [y0, y1], _, [c0, c1], _ =>
    obtain ⟨p0, q0⟩ := hone_of hone 0 f0 rfl
    have t0 := hx 0 f0 rfl
    obtain ⟨p1, q1⟩ := hone_of hone 1 f1 rfl
    have t1 := hx 1 f1 rfl
    simp only [p0, q0, p1, q1, List.drop_zero, List.drop_succ_cons, List.take_succ_cons, List.take_zero, List.getElem?_cons_zero, List.getElem?_cons_succ] at t0 t1
    obtain ⟨z0, e0, k0, l0⟩ := o0 m c0 y0 t0 (hf.part ht (j := 0) rfl rfl)
    obtain ⟨z1, e1, k1, l1⟩ := o1 m c1 y1 t1 (hf.part ht (j := 1) rfl rfl)
    refine ⟨⟨z0, z1⟩, by rw [e0, e1], ⟨k0, k1⟩, ?_⟩
    simp only [Rows.uptoBulk, Rows.uptoBulkAll, List.map_cons, List.map_nil]
    omega
theorem struct_3 {t : TypeId} {f0 f1 f2 : Field} (ht : P.underlying t = some (.struct #[f0, f1, f2])) (hone : oneCellFields P #[f0, f1, f2] = true) (hC : P.cellsOf t = 3)
    {α0 : Type} {g0 : α0 → Value} {O0 : α0 → Prop} {b0 : α0 → Nat} (o0 : One enc P W f0.type g0 O0 b0)
    {α1 : Type} {g1 : α1 → Value} {O1 : α1 → Prop} {b1 : α1 → Nat} (o1 : One enc P W f1.type g1 O1 b1)
    {α2 : Type} {g2 : α2 → Value} {O2 : α2 → Prop} {b2 : α2 → Nat} (o2 : One enc P W f2.type g2 O2 b2)
    : Some_ enc P W t (fun z : α0 × α1 × α2 => [g0 (z.1), g1 (z.2.1), g2 (z.2.2)]) (fun z => O0 (z.1) ∧ O1 (z.2.1) ∧ O2 (z.2.2)) (fun z => b0 (z.1) + b1 (z.2.1) + b2 (z.2.2) + 1) := fun n cs x h hf => by
  obtain ⟨xs, m, _, rfl, hcl, hxl, hx⟩ := DataW.trod_struct ht h
  rw [hC] at hcl
  match xs, hxl, cs, hcl with
  | [y0, y1, y2], _, [c0, c1, c2], _ =>
    obtain ⟨p0, q0⟩ := hone_of hone 0 f0 rfl
    have t0 := hx 0 f0 rfl
    obtain ⟨p1, q1⟩ := hone_of hone 1 f1 rfl
    have t1 := hx 1 f1 rfl
    obtain ⟨p2, q2⟩ := hone_of hone 2 f2 rfl
    have t2 := hx 2 f2 rfl
    simp only [p0, q0, p1, q1, p2, q2, List.drop_zero, List.drop_succ_cons, List.take_succ_cons, List.take_zero, List.getElem?_cons_zero, List.getElem?_cons_succ] at t0 t1 t2
    obtain ⟨z0, e0, k0, l0⟩ := o0 m c0 y0 t0 (hf.part ht (j := 0) rfl rfl)
    obtain ⟨z1, e1, k1, l1⟩ := o1 m c1 y1 t1 (hf.part ht (j := 1) rfl rfl)
    obtain ⟨z2, e2, k2, l2⟩ := o2 m c2 y2 t2 (hf.part ht (j := 2) rfl rfl)
    refine ⟨⟨z0, z1, z2⟩, by rw [e0, e1, e2], ⟨k0, k1, k2⟩, ?_⟩
    simp only [Rows.uptoBulk, Rows.uptoBulkAll, List.map_cons, List.map_nil]
    omega
theorem struct_4 {t : TypeId} {f0 f1 f2 f3 : Field} (ht : P.underlying t = some (.struct #[f0, f1, f2, f3])) (hone : oneCellFields P #[f0, f1, f2, f3] = true) (hC : P.cellsOf t = 4)
    {α0 : Type} {g0 : α0 → Value} {O0 : α0 → Prop} {b0 : α0 → Nat} (o0 : One enc P W f0.type g0 O0 b0)
    {α1 : Type} {g1 : α1 → Value} {O1 : α1 → Prop} {b1 : α1 → Nat} (o1 : One enc P W f1.type g1 O1 b1)
    {α2 : Type} {g2 : α2 → Value} {O2 : α2 → Prop} {b2 : α2 → Nat} (o2 : One enc P W f2.type g2 O2 b2)
    {α3 : Type} {g3 : α3 → Value} {O3 : α3 → Prop} {b3 : α3 → Nat} (o3 : One enc P W f3.type g3 O3 b3)
    : Some_ enc P W t (fun z : α0 × α1 × α2 × α3 => [g0 (z.1), g1 (z.2.1), g2 (z.2.2.1), g3 (z.2.2.2)]) (fun z => O0 (z.1) ∧ O1 (z.2.1) ∧ O2 (z.2.2.1) ∧ O3 (z.2.2.2)) (fun z => b0 (z.1) + b1 (z.2.1) + b2 (z.2.2.1) + b3 (z.2.2.2) + 1) := fun n cs x h hf => by
  obtain ⟨xs, m, _, rfl, hcl, hxl, hx⟩ := DataW.trod_struct ht h
  rw [hC] at hcl
  match xs, hxl, cs, hcl with
  | [y0, y1, y2, y3], _, [c0, c1, c2, c3], _ =>
    obtain ⟨p0, q0⟩ := hone_of hone 0 f0 rfl
    have t0 := hx 0 f0 rfl
    obtain ⟨p1, q1⟩ := hone_of hone 1 f1 rfl
    have t1 := hx 1 f1 rfl
    obtain ⟨p2, q2⟩ := hone_of hone 2 f2 rfl
    have t2 := hx 2 f2 rfl
    obtain ⟨p3, q3⟩ := hone_of hone 3 f3 rfl
    have t3 := hx 3 f3 rfl
    simp only [p0, q0, p1, q1, p2, q2, p3, q3, List.drop_zero, List.drop_succ_cons, List.take_succ_cons, List.take_zero, List.getElem?_cons_zero, List.getElem?_cons_succ] at t0 t1 t2 t3
    obtain ⟨z0, e0, k0, l0⟩ := o0 m c0 y0 t0 (hf.part ht (j := 0) rfl rfl)
    obtain ⟨z1, e1, k1, l1⟩ := o1 m c1 y1 t1 (hf.part ht (j := 1) rfl rfl)
    obtain ⟨z2, e2, k2, l2⟩ := o2 m c2 y2 t2 (hf.part ht (j := 2) rfl rfl)
    obtain ⟨z3, e3, k3, l3⟩ := o3 m c3 y3 t3 (hf.part ht (j := 3) rfl rfl)
    refine ⟨⟨z0, z1, z2, z3⟩, by rw [e0, e1, e2, e3], ⟨k0, k1, k2, k3⟩, ?_⟩
    simp only [Rows.uptoBulk, Rows.uptoBulkAll, List.map_cons, List.map_nil]
    omega
theorem struct_5 {t : TypeId} {f0 f1 f2 f3 f4 : Field} (ht : P.underlying t = some (.struct #[f0, f1, f2, f3, f4])) (hone : oneCellFields P #[f0, f1, f2, f3, f4] = true) (hC : P.cellsOf t = 5)
    {α0 : Type} {g0 : α0 → Value} {O0 : α0 → Prop} {b0 : α0 → Nat} (o0 : One enc P W f0.type g0 O0 b0)
    {α1 : Type} {g1 : α1 → Value} {O1 : α1 → Prop} {b1 : α1 → Nat} (o1 : One enc P W f1.type g1 O1 b1)
    {α2 : Type} {g2 : α2 → Value} {O2 : α2 → Prop} {b2 : α2 → Nat} (o2 : One enc P W f2.type g2 O2 b2)
    {α3 : Type} {g3 : α3 → Value} {O3 : α3 → Prop} {b3 : α3 → Nat} (o3 : One enc P W f3.type g3 O3 b3)
    {α4 : Type} {g4 : α4 → Value} {O4 : α4 → Prop} {b4 : α4 → Nat} (o4 : One enc P W f4.type g4 O4 b4)
    : Some_ enc P W t (fun z : α0 × α1 × α2 × α3 × α4 => [g0 (z.1), g1 (z.2.1), g2 (z.2.2.1), g3 (z.2.2.2.1), g4 (z.2.2.2.2)]) (fun z => O0 (z.1) ∧ O1 (z.2.1) ∧ O2 (z.2.2.1) ∧ O3 (z.2.2.2.1) ∧ O4 (z.2.2.2.2)) (fun z => b0 (z.1) + b1 (z.2.1) + b2 (z.2.2.1) + b3 (z.2.2.2.1) + b4 (z.2.2.2.2) + 1) := fun n cs x h hf => by
  obtain ⟨xs, m, _, rfl, hcl, hxl, hx⟩ := DataW.trod_struct ht h
  rw [hC] at hcl
  match xs, hxl, cs, hcl with
  | [y0, y1, y2, y3, y4], _, [c0, c1, c2, c3, c4], _ =>
    obtain ⟨p0, q0⟩ := hone_of hone 0 f0 rfl
    have t0 := hx 0 f0 rfl
    obtain ⟨p1, q1⟩ := hone_of hone 1 f1 rfl
    have t1 := hx 1 f1 rfl
    obtain ⟨p2, q2⟩ := hone_of hone 2 f2 rfl
    have t2 := hx 2 f2 rfl
    obtain ⟨p3, q3⟩ := hone_of hone 3 f3 rfl
    have t3 := hx 3 f3 rfl
    obtain ⟨p4, q4⟩ := hone_of hone 4 f4 rfl
    have t4 := hx 4 f4 rfl
    simp only [p0, q0, p1, q1, p2, q2, p3, q3, p4, q4, List.drop_zero, List.drop_succ_cons, List.take_succ_cons, List.take_zero, List.getElem?_cons_zero, List.getElem?_cons_succ] at t0 t1 t2 t3 t4
    obtain ⟨z0, e0, k0, l0⟩ := o0 m c0 y0 t0 (hf.part ht (j := 0) rfl rfl)
    obtain ⟨z1, e1, k1, l1⟩ := o1 m c1 y1 t1 (hf.part ht (j := 1) rfl rfl)
    obtain ⟨z2, e2, k2, l2⟩ := o2 m c2 y2 t2 (hf.part ht (j := 2) rfl rfl)
    obtain ⟨z3, e3, k3, l3⟩ := o3 m c3 y3 t3 (hf.part ht (j := 3) rfl rfl)
    obtain ⟨z4, e4, k4, l4⟩ := o4 m c4 y4 t4 (hf.part ht (j := 4) rfl rfl)
    refine ⟨⟨z0, z1, z2, z3, z4⟩, by rw [e0, e1, e2, e3, e4], ⟨k0, k1, k2, k3, k4⟩, ?_⟩
    simp only [Rows.uptoBulk, Rows.uptoBulkAll, List.map_cons, List.map_nil]
    omega
theorem struct_6 {t : TypeId} {f0 f1 f2 f3 f4 f5 : Field} (ht : P.underlying t = some (.struct #[f0, f1, f2, f3, f4, f5])) (hone : oneCellFields P #[f0, f1, f2, f3, f4, f5] = true) (hC : P.cellsOf t = 6)
    {α0 : Type} {g0 : α0 → Value} {O0 : α0 → Prop} {b0 : α0 → Nat} (o0 : One enc P W f0.type g0 O0 b0)
    {α1 : Type} {g1 : α1 → Value} {O1 : α1 → Prop} {b1 : α1 → Nat} (o1 : One enc P W f1.type g1 O1 b1)
    {α2 : Type} {g2 : α2 → Value} {O2 : α2 → Prop} {b2 : α2 → Nat} (o2 : One enc P W f2.type g2 O2 b2)
    {α3 : Type} {g3 : α3 → Value} {O3 : α3 → Prop} {b3 : α3 → Nat} (o3 : One enc P W f3.type g3 O3 b3)
    {α4 : Type} {g4 : α4 → Value} {O4 : α4 → Prop} {b4 : α4 → Nat} (o4 : One enc P W f4.type g4 O4 b4)
    {α5 : Type} {g5 : α5 → Value} {O5 : α5 → Prop} {b5 : α5 → Nat} (o5 : One enc P W f5.type g5 O5 b5)
    : Some_ enc P W t (fun z : α0 × α1 × α2 × α3 × α4 × α5 => [g0 (z.1), g1 (z.2.1), g2 (z.2.2.1), g3 (z.2.2.2.1), g4 (z.2.2.2.2.1), g5 (z.2.2.2.2.2)]) (fun z => O0 (z.1) ∧ O1 (z.2.1) ∧ O2 (z.2.2.1) ∧ O3 (z.2.2.2.1) ∧ O4 (z.2.2.2.2.1) ∧ O5 (z.2.2.2.2.2)) (fun z => b0 (z.1) + b1 (z.2.1) + b2 (z.2.2.1) + b3 (z.2.2.2.1) + b4 (z.2.2.2.2.1) + b5 (z.2.2.2.2.2) + 1) := fun n cs x h hf => by
  obtain ⟨xs, m, _, rfl, hcl, hxl, hx⟩ := DataW.trod_struct ht h
  rw [hC] at hcl
  match xs, hxl, cs, hcl with
  | [y0, y1, y2, y3, y4, y5], _, [c0, c1, c2, c3, c4, c5], _ =>
    obtain ⟨p0, q0⟩ := hone_of hone 0 f0 rfl
    have t0 := hx 0 f0 rfl
    obtain ⟨p1, q1⟩ := hone_of hone 1 f1 rfl
    have t1 := hx 1 f1 rfl
    obtain ⟨p2, q2⟩ := hone_of hone 2 f2 rfl
    have t2 := hx 2 f2 rfl
    obtain ⟨p3, q3⟩ := hone_of hone 3 f3 rfl
    have t3 := hx 3 f3 rfl
    obtain ⟨p4, q4⟩ := hone_of hone 4 f4 rfl
    have t4 := hx 4 f4 rfl
    obtain ⟨p5, q5⟩ := hone_of hone 5 f5 rfl
    have t5 := hx 5 f5 rfl
    simp only [p0, q0, p1, q1, p2, q2, p3, q3, p4, q4, p5, q5, List.drop_zero, List.drop_succ_cons, List.take_succ_cons, List.take_zero, List.getElem?_cons_zero, List.getElem?_cons_succ] at t0 t1 t2 t3 t4 t5
    obtain ⟨z0, e0, k0, l0⟩ := o0 m c0 y0 t0 (hf.part ht (j := 0) rfl rfl)
    obtain ⟨z1, e1, k1, l1⟩ := o1 m c1 y1 t1 (hf.part ht (j := 1) rfl rfl)
    obtain ⟨z2, e2, k2, l2⟩ := o2 m c2 y2 t2 (hf.part ht (j := 2) rfl rfl)
    obtain ⟨z3, e3, k3, l3⟩ := o3 m c3 y3 t3 (hf.part ht (j := 3) rfl rfl)
    obtain ⟨z4, e4, k4, l4⟩ := o4 m c4 y4 t4 (hf.part ht (j := 4) rfl rfl)
    obtain ⟨z5, e5, k5, l5⟩ := o5 m c5 y5 t5 (hf.part ht (j := 5) rfl rfl)
    refine ⟨⟨z0, z1, z2, z3, z4, z5⟩, by rw [e0, e1, e2, e3, e4, e5], ⟨k0, k1, k2, k3, k4, k5⟩, ?_⟩
    simp only [Rows.uptoBulk, Rows.uptoBulkAll, List.map_cons, List.map_nil]
    omega
theorem struct_7 {t : TypeId} {f0 f1 f2 f3 f4 f5 f6 : Field} (ht : P.underlying t = some (.struct #[f0, f1, f2, f3, f4, f5, f6])) (hone : oneCellFields P #[f0, f1, f2, f3, f4, f5, f6] = true) (hC : P.cellsOf t = 7)
    {α0 : Type} {g0 : α0 → Value} {O0 : α0 → Prop} {b0 : α0 → Nat} (o0 : One enc P W f0.type g0 O0 b0)
    {α1 : Type} {g1 : α1 → Value} {O1 : α1 → Prop} {b1 : α1 → Nat} (o1 : One enc P W f1.type g1 O1 b1)
    {α2 : Type} {g2 : α2 → Value} {O2 : α2 → Prop} {b2 : α2 → Nat} (o2 : One enc P W f2.type g2 O2 b2)
    {α3 : Type} {g3 : α3 → Value} {O3 : α3 → Prop} {b3 : α3 → Nat} (o3 : One enc P W f3.type g3 O3 b3)
    {α4 : Type} {g4 : α4 → Value} {O4 : α4 → Prop} {b4 : α4 → Nat} (o4 : One enc P W f4.type g4 O4 b4)
    {α5 : Type} {g5 : α5 → Value} {O5 : α5 → Prop} {b5 : α5 → Nat} (o5 : One enc P W f5.type g5 O5 b5)
    {α6 : Type} {g6 : α6 → Value} {O6 : α6 → Prop} {b6 : α6 → Nat} (o6 : One enc P W f6.type g6 O6 b6)
    : Some_ enc P W t (fun z : α0 × α1 × α2 × α3 × α4 × α5 × α6 => [g0 (z.1), g1 (z.2.1), g2 (z.2.2.1), g3 (z.2.2.2.1), g4 (z.2.2.2.2.1), g5 (z.2.2.2.2.2.1), g6 (z.2.2.2.2.2.2)]) (fun z => O0 (z.1) ∧ O1 (z.2.1) ∧ O2 (z.2.2.1) ∧ O3 (z.2.2.2.1) ∧ O4 (z.2.2.2.2.1) ∧ O5 (z.2.2.2.2.2.1) ∧ O6 (z.2.2.2.2.2.2)) (fun z => b0 (z.1) + b1 (z.2.1) + b2 (z.2.2.1) + b3 (z.2.2.2.1) + b4 (z.2.2.2.2.1) + b5 (z.2.2.2.2.2.1) + b6 (z.2.2.2.2.2.2) + 1) := fun n cs x h hf => by
  obtain ⟨xs, m, _, rfl, hcl, hxl, hx⟩ := DataW.trod_struct ht h
  rw [hC] at hcl
  match xs, hxl, cs, hcl with
  | [y0, y1, y2, y3, y4, y5, y6], _, [c0, c1, c2, c3, c4, c5, c6], _ =>
    obtain ⟨p0, q0⟩ := hone_of hone 0 f0 rfl
    have t0 := hx 0 f0 rfl
    obtain ⟨p1, q1⟩ := hone_of hone 1 f1 rfl
    have t1 := hx 1 f1 rfl
    obtain ⟨p2, q2⟩ := hone_of hone 2 f2 rfl
    have t2 := hx 2 f2 rfl
    obtain ⟨p3, q3⟩ := hone_of hone 3 f3 rfl
    have t3 := hx 3 f3 rfl
    obtain ⟨p4, q4⟩ := hone_of hone 4 f4 rfl
    have t4 := hx 4 f4 rfl
    obtain ⟨p5, q5⟩ := hone_of hone 5 f5 rfl
    have t5 := hx 5 f5 rfl
    obtain ⟨p6, q6⟩ := hone_of hone 6 f6 rfl
    have t6 := hx 6 f6 rfl
    simp only [p0, q0, p1, q1, p2, q2, p3, q3, p4, q4, p5, q5, p6, q6, List.drop_zero, List.drop_succ_cons, List.take_succ_cons, List.take_zero, List.getElem?_cons_zero, List.getElem?_cons_succ] at t0 t1 t2 t3 t4 t5 t6
    obtain ⟨z0, e0, k0, l0⟩ := o0 m c0 y0 t0 (hf.part ht (j := 0) rfl rfl)
    obtain ⟨z1, e1, k1, l1⟩ := o1 m c1 y1 t1 (hf.part ht (j := 1) rfl rfl)
    obtain ⟨z2, e2, k2, l2⟩ := o2 m c2 y2 t2 (hf.part ht (j := 2) rfl rfl)
    obtain ⟨z3, e3, k3, l3⟩ := o3 m c3 y3 t3 (hf.part ht (j := 3) rfl rfl)
    obtain ⟨z4, e4, k4, l4⟩ := o4 m c4 y4 t4 (hf.part ht (j := 4) rfl rfl)
    obtain ⟨z5, e5, k5, l5⟩ := o5 m c5 y5 t5 (hf.part ht (j := 5) rfl rfl)
    obtain ⟨z6, e6, k6, l6⟩ := o6 m c6 y6 t6 (hf.part ht (j := 6) rfl rfl)
    refine ⟨⟨z0, z1, z2, z3, z4, z5, z6⟩, by rw [e0, e1, e2, e3, e4, e5, e6], ⟨k0, k1, k2, k3, k4, k5, k6⟩, ?_⟩
    simp only [Rows.uptoBulk, Rows.uptoBulkAll, List.map_cons, List.map_nil]
    omega
theorem struct_8 {t : TypeId} {f0 f1 f2 f3 f4 f5 f6 f7 : Field} (ht : P.underlying t = some (.struct #[f0, f1, f2, f3, f4, f5, f6, f7])) (hone : oneCellFields P #[f0, f1, f2, f3, f4, f5, f6, f7] = true) (hC : P.cellsOf t = 8)
    {α0 : Type} {g0 : α0 → Value} {O0 : α0 → Prop} {b0 : α0 → Nat} (o0 : One enc P W f0.type g0 O0 b0)
    {α1 : Type} {g1 : α1 → Value} {O1 : α1 → Prop} {b1 : α1 → Nat} (o1 : One enc P W f1.type g1 O1 b1)
    {α2 : Type} {g2 : α2 → Value} {O2 : α2 → Prop} {b2 : α2 → Nat} (o2 : One enc P W f2.type g2 O2 b2)
    {α3 : Type} {g3 : α3 → Value} {O3 : α3 → Prop} {b3 : α3 → Nat} (o3 : One enc P W f3.type g3 O3 b3)
    {α4 : Type} {g4 : α4 → Value} {O4 : α4 → Prop} {b4 : α4 → Nat} (o4 : One enc P W f4.type g4 O4 b4)
    {α5 : Type} {g5 : α5 → Value} {O5 : α5 → Prop} {b5 : α5 → Nat} (o5 : One enc P W f5.type g5 O5 b5)
    {α6 : Type} {g6 : α6 → Value} {O6 : α6 → Prop} {b6 : α6 → Nat} (o6 : One enc P W f6.type g6 O6 b6)
    {α7 : Type} {g7 : α7 → Value} {O7 : α7 → Prop} {b7 : α7 → Nat} (o7 : One enc P W f7.type g7 O7 b7)
    : Some_ enc P W t (fun z : α0 × α1 × α2 × α3 × α4 × α5 × α6 × α7 => [g0 (z.1), g1 (z.2.1), g2 (z.2.2.1), g3 (z.2.2.2.1), g4 (z.2.2.2.2.1), g5 (z.2.2.2.2.2.1), g6 (z.2.2.2.2.2.2.1), g7 (z.2.2.2.2.2.2.2)]) (fun z => O0 (z.1) ∧ O1 (z.2.1) ∧ O2 (z.2.2.1) ∧ O3 (z.2.2.2.1) ∧ O4 (z.2.2.2.2.1) ∧ O5 (z.2.2.2.2.2.1) ∧ O6 (z.2.2.2.2.2.2.1) ∧ O7 (z.2.2.2.2.2.2.2)) (fun z => b0 (z.1) + b1 (z.2.1) + b2 (z.2.2.1) + b3 (z.2.2.2.1) + b4 (z.2.2.2.2.1) + b5 (z.2.2.2.2.2.1) + b6 (z.2.2.2.2.2.2.1) + b7 (z.2.2.2.2.2.2.2) + 1) := fun n cs x h hf => by
  obtain ⟨xs, m, _, rfl, hcl, hxl, hx⟩ := DataW.trod_struct ht h
  rw [hC] at hcl
  match xs, hxl, cs, hcl with
  | [y0, y1, y2, y3, y4, y5, y6, y7], _, [c0, c1, c2, c3, c4, c5, c6, c7], _ =>
    obtain ⟨p0, q0⟩ := hone_of hone 0 f0 rfl
    have t0 := hx 0 f0 rfl
    obtain ⟨p1, q1⟩ := hone_of hone 1 f1 rfl
    have t1 := hx 1 f1 rfl
    obtain ⟨p2, q2⟩ := hone_of hone 2 f2 rfl
    have t2 := hx 2 f2 rfl
    obtain ⟨p3, q3⟩ := hone_of hone 3 f3 rfl
    have t3 := hx 3 f3 rfl
    obtain ⟨p4, q4⟩ := hone_of hone 4 f4 rfl
    have t4 := hx 4 f4 rfl
    obtain ⟨p5, q5⟩ := hone_of hone 5 f5 rfl
    have t5 := hx 5 f5 rfl
    obtain ⟨p6, q6⟩ := hone_of hone 6 f6 rfl
    have t6 := hx 6 f6 rfl
    obtain ⟨p7, q7⟩ := hone_of hone 7 f7 rfl
    have t7 := hx 7 f7 rfl
    simp only [p0, q0, p1, q1, p2, q2, p3, q3, p4, q4, p5, q5, p6, q6, p7, q7, List.drop_zero, List.drop_succ_cons, List.take_succ_cons, List.take_zero, List.getElem?_cons_zero, List.getElem?_cons_succ] at t0 t1 t2 t3 t4 t5 t6 t7
    obtain ⟨z0, e0, k0, l0⟩ := o0 m c0 y0 t0 (hf.part ht (j := 0) rfl rfl)
    obtain ⟨z1, e1, k1, l1⟩ := o1 m c1 y1 t1 (hf.part ht (j := 1) rfl rfl)
    obtain ⟨z2, e2, k2, l2⟩ := o2 m c2 y2 t2 (hf.part ht (j := 2) rfl rfl)
    obtain ⟨z3, e3, k3, l3⟩ := o3 m c3 y3 t3 (hf.part ht (j := 3) rfl rfl)
    obtain ⟨z4, e4, k4, l4⟩ := o4 m c4 y4 t4 (hf.part ht (j := 4) rfl rfl)
    obtain ⟨z5, e5, k5, l5⟩ := o5 m c5 y5 t5 (hf.part ht (j := 5) rfl rfl)
    obtain ⟨z6, e6, k6, l6⟩ := o6 m c6 y6 t6 (hf.part ht (j := 6) rfl rfl)
    obtain ⟨z7, e7, k7, l7⟩ := o7 m c7 y7 t7 (hf.part ht (j := 7) rfl rfl)
    refine ⟨⟨z0, z1, z2, z3, z4, z5, z6, z7⟩, by rw [e0, e1, e2, e3, e4, e5, e6, e7], ⟨k0, k1, k2, k3, k4, k5, k6, k7⟩, ?_⟩
    simp only [Rows.uptoBulk, Rows.uptoBulkAll, List.map_cons, List.map_nil]
    omega
theorem struct_9 {t : TypeId} {f0 f1 f2 f3 f4 f5 f6 f7 f8 : Field} (ht : P.underlying t = some (.struct #[f0, f1, f2, f3, f4, f5, f6, f7, f8])) (hone : oneCellFields P #[f0, f1, f2, f3, f4, f5, f6, f7, f8] = true) (hC : P.cellsOf t = 9)
    {α0 : Type} {g0 : α0 → Value} {O0 : α0 → Prop} {b0 : α0 → Nat} (o0 : One enc P W f0.type g0 O0 b0)
    {α1 : Type} {g1 : α1 → Value} {O1 : α1 → Prop} {b1 : α1 → Nat} (o1 : One enc P W f1.type g1 O1 b1)
    {α2 : Type} {g2 : α2 → Value} {O2 : α2 → Prop} {b2 : α2 → Nat} (o2 : One enc P W f2.type g2 O2 b2)
    {α3 : Type} {g3 : α3 → Value} {O3 : α3 → Prop} {b3 : α3 → Nat} (o3 : One enc P W f3.type g3 O3 b3)
    {α4 : Type} {g4 : α4 → Value} {O4 : α4 → Prop} {b4 : α4 → Nat} (o4 : One enc P W f4.type g4 O4 b4)
    {α5 : Type} {g5 : α5 → Value} {O5 : α5 → Prop} {b5 : α5 → Nat} (o5 : One enc P W f5.type g5 O5 b5)
    {α6 : Type} {g6 : α6 → Value} {O6 : α6 → Prop} {b6 : α6 → Nat} (o6 : One enc P W f6.type g6 O6 b6)
    {α7 : Type} {g7 : α7 → Value} {O7 : α7 → Prop} {b7 : α7 → Nat} (o7 : One enc P W f7.type g7 O7 b7)
    {α8 : Type} {g8 : α8 → Value} {O8 : α8 → Prop} {b8 : α8 → Nat} (o8 : One enc P W f8.type g8 O8 b8)
    : Some_ enc P W t (fun z : α0 × α1 × α2 × α3 × α4 × α5 × α6 × α7 × α8 => [g0 (z.1), g1 (z.2.1), g2 (z.2.2.1), g3 (z.2.2.2.1), g4 (z.2.2.2.2.1), g5 (z.2.2.2.2.2.1), g6 (z.2.2.2.2.2.2.1), g7 (z.2.2.2.2.2.2.2.1), g8 (z.2.2.2.2.2.2.2.2)]) (fun z => O0 (z.1) ∧ O1 (z.2.1) ∧ O2 (z.2.2.1) ∧ O3 (z.2.2.2.1) ∧ O4 (z.2.2.2.2.1) ∧ O5 (z.2.2.2.2.2.1) ∧ O6 (z.2.2.2.2.2.2.1) ∧ O7 (z.2.2.2.2.2.2.2.1) ∧ O8 (z.2.2.2.2.2.2.2.2)) (fun z => b0 (z.1) + b1 (z.2.1) + b2 (z.2.2.1) + b3 (z.2.2.2.1) + b4 (z.2.2.2.2.1) + b5 (z.2.2.2.2.2.1) + b6 (z.2.2.2.2.2.2.1) + b7 (z.2.2.2.2.2.2.2.1) + b8 (z.2.2.2.2.2.2.2.2) + 1) := fun n cs x h hf => by
  obtain ⟨xs, m, _, rfl, hcl, hxl, hx⟩ := DataW.trod_struct ht h
  rw [hC] at hcl
  match xs, hxl, cs, hcl with
  | [y0, y1, y2, y3, y4, y5, y6, y7, y8], _, [c0, c1, c2, c3, c4, c5, c6, c7, c8], _ =>
    obtain ⟨p0, q0⟩ := hone_of hone 0 f0 rfl
    have t0 := hx 0 f0 rfl
    obtain ⟨p1, q1⟩ := hone_of hone 1 f1 rfl
    have t1 := hx 1 f1 rfl
    obtain ⟨p2, q2⟩ := hone_of hone 2 f2 rfl
    have t2 := hx 2 f2 rfl
    obtain ⟨p3, q3⟩ := hone_of hone 3 f3 rfl
    have t3 := hx 3 f3 rfl
    obtain ⟨p4, q4⟩ := hone_of hone 4 f4 rfl
    have t4 := hx 4 f4 rfl
    obtain ⟨p5, q5⟩ := hone_of hone 5 f5 rfl
    have t5 := hx 5 f5 rfl
    obtain ⟨p6, q6⟩ := hone_of hone 6 f6 rfl
    have t6 := hx 6 f6 rfl
    obtain ⟨p7, q7⟩ := hone_of hone 7 f7 rfl
    have t7 := hx 7 f7 rfl
    obtain ⟨p8, q8⟩ := hone_of hone 8 f8 rfl
    have t8 := hx 8 f8 rfl
    simp only [p0, q0, p1, q1, p2, q2, p3, q3, p4, q4, p5, q5, p6, q6, p7, q7, p8, q8, List.drop_zero, List.drop_succ_cons, List.take_succ_cons, List.take_zero, List.getElem?_cons_zero, List.getElem?_cons_succ] at t0 t1 t2 t3 t4 t5 t6 t7 t8
    obtain ⟨z0, e0, k0, l0⟩ := o0 m c0 y0 t0 (hf.part ht (j := 0) rfl rfl)
    obtain ⟨z1, e1, k1, l1⟩ := o1 m c1 y1 t1 (hf.part ht (j := 1) rfl rfl)
    obtain ⟨z2, e2, k2, l2⟩ := o2 m c2 y2 t2 (hf.part ht (j := 2) rfl rfl)
    obtain ⟨z3, e3, k3, l3⟩ := o3 m c3 y3 t3 (hf.part ht (j := 3) rfl rfl)
    obtain ⟨z4, e4, k4, l4⟩ := o4 m c4 y4 t4 (hf.part ht (j := 4) rfl rfl)
    obtain ⟨z5, e5, k5, l5⟩ := o5 m c5 y5 t5 (hf.part ht (j := 5) rfl rfl)
    obtain ⟨z6, e6, k6, l6⟩ := o6 m c6 y6 t6 (hf.part ht (j := 6) rfl rfl)
    obtain ⟨z7, e7, k7, l7⟩ := o7 m c7 y7 t7 (hf.part ht (j := 7) rfl rfl)
    obtain ⟨z8, e8, k8, l8⟩ := o8 m c8 y8 t8 (hf.part ht (j := 8) rfl rfl)
    refine ⟨⟨z0, z1, z2, z3, z4, z5, z6, z7, z8⟩, by rw [e0, e1, e2, e3, e4, e5, e6, e7, e8], ⟨k0, k1, k2, k3, k4, k5, k6, k7, k8⟩, ?_⟩
    simp only [Rows.uptoBulk, Rows.uptoBulkAll, List.map_cons, List.map_nil]
    omega
end
end Go.Proofs.YtfkfpanhbanljaaGreat.Opens
