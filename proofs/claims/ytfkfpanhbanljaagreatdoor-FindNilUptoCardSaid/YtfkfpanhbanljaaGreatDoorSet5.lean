import Derived.Test.YtfkfpanhbanljaaGreatDoorFrameElem
import Derived.Test.YtfkfpanhbanljaaGreatDoorProg
import Derived.Test.YtfkfpanhbanljaaGreatDoorMem
import Derived.Outline
/- Arguments opened, over any program: structs whose fields have several cells each (structs in structs). -/
namespace Go.Proofs.YtfkfpanhbanljaaGreatDoor.Opens
open Go.ChangeShapes Go.WideShapes Go.ChangeAt Go.RowKit Go.Deep Go.Joins Go.Proofs.YtfkfpanhbanljaaGreatDoor.Mem

section
variable {H : Type} {enc : TypeId × Value → H} {P : Program} {W : World}
/-- the cells from 'off' on open, field by field, to a thing z -/
def Fs (enc : TypeId × Value → H) (P : Program) (W : World) (fs : List Field) (off : Nat) {α : Type} (g : α → List Value) (Ok : α → Prop) (b : α → Nat) : Prop :=
  ∀ (m : Nat) (cs : List Value) (xs : List (DataW H × List MemPlace)), cs.length = off + (fs.map fun f : Field => P.cellsOf f.type).sum → xs.length = fs.length →
    (∀ (j : Nat) (f : Field), fs[j]? = some f → ∃ x, xs[j]? = some x ∧ DataW.trod enc P W 0 (fun _ => true) true m f.type ((cs.drop f.offset).take (P.cellsOf f.type)) = some x ∧ Fit P f.type x.1) → ∃ z, cs.drop off = g z ∧ Ok z ∧ b z ≤ Rows.uptoBulkAll (xs.map (·.1))
theorem fs_nil (off : Nat) : Fs enc P W [] off (fun _ : Unit => []) (fun _ => True) (fun _ => 0) := fun m cs xs hl hx _ =>
  ⟨(), List.drop_eq_nil_of_le (by simp at hl; omega), trivial, Nat.zero_le _⟩
theorem fs_cons {f : Field} {fs : List Field} {off k : Nat} {α β : Type} {g : α → List Value} {Ok : α → Prop} {b : α → Nat} {g' : β → List Value} {Ok' : β → Prop} {b' : β → Nat} (h : Some_ enc P W f.type g Ok b) (ho : f.offset = off) (hk : P.cellsOf f.type = k) (r : Fs enc P W fs (off + k) g' Ok' b') :
    Fs enc P W (f :: fs) off (fun z : α × β => g z.1 ++ g' z.2) (fun z => Ok z.1 ∧ Ok' z.2) (fun z => b z.1 + b' z.2) := fun m cs xs hl hx ht => by
  rcases xs with _ | ⟨x, xs⟩
  · cases hx
  · obtain ⟨x', e0, t0, f0⟩ := ht 0 f rfl
    obtain rfl : x = x' := Option.some.inj e0
    rw [ho, hk] at t0
    obtain ⟨z, hz1, hz2, hz3⟩ := h m _ x t0 f0
    have hl2 : cs.length = off + k + (fs.map fun f : Field => P.cellsOf f.type).sum := by
      rw [hl, List.map_cons, List.sum_cons, hk]; omega
    obtain ⟨y, hy1, hy2, hy3⟩ := r m cs xs hl2 (by simpa using hx) fun j f' hf' => ht (j + 1) f' hf'
    refine ⟨⟨z, y⟩, ?_, ⟨hz2, hy2⟩, ?_⟩
    · show cs.drop off = g z ++ g' y
      rw [← hz1, ← hy1, ← List.drop_drop, List.take_append_drop]
    · simp only [List.map_cons, Rows.uptoBulkAll]
      omega
theorem struct_any {t : TypeId} {fs : Array Field} (ht : P.underlying t = some (.struct fs)) (hC : P.cellsOf t = (fs.toList.map fun f : Field => P.cellsOf f.type).sum) {α : Type} {g : α → List Value} {Ok : α → Prop} {b : α → Nat} (h : Fs enc P W fs.toList 0 g Ok b) :
    Some_ enc P W t g Ok (fun z => b z + 1) := fun n cs x h0 hf => by
  obtain ⟨xs, m, _, rfl, hcl, hxl, hx⟩ := DataW.trod_struct ht h0
  rw [hC] at hcl
  obtain ⟨z, h1, h2, h3⟩ := h m cs xs (by rw [hcl]; simp) (by simpa using hxl) (fun j f hf' => by
    have hfs : fs[j]? = some f := by rw [← Array.getElem?_toList]; exact hf'
    have hj : j < xs.length := by
      rw [hxl]; exact (Array.getElem?_eq_some_iff.1 hfs).1
    refine ⟨xs[j], List.getElem?_eq_getElem hj, ?_, ?_⟩
    · rw [hx j f hfs, List.getElem?_eq_getElem hj]
    · exact hf.part ht (j := j) (by rw [List.getElem?_map, hf']; rfl) (by rw [List.getElem?_map, List.getElem?_eq_getElem hj]; rfl))
  exact ⟨z, by simpa using h1, h2, by simp only [Rows.uptoBulk]; omega⟩
theorem fs_one {f : Field} {fs : List Field} {off : Nat} {α β : Type} {g : α → Value} {Ok : α → Prop} {b : α → Nat} {g' : β → List Value} {Ok' : β → Prop} {b' : β → Nat} (h : One enc P W f.type g Ok b) (ho : f.offset = off) (hk : P.cellsOf f.type = 1) (r : Fs enc P W fs (off + 1) g' Ok' b') :
    Fs enc P W (f :: fs) off (fun z : α × β => g z.1 :: g' z.2) (fun z => Ok z.1 ∧ Ok' z.2) (fun z => b z.1 + b' z.2) := fun m cs xs hl hx ht => by
  rcases xs with _ | ⟨x, xs⟩
  · cases hx
  · obtain ⟨x', e0, t0, f0⟩ := ht 0 f rfl
    obtain rfl : x = x' := Option.some.inj e0
    rw [ho, hk] at t0
    have hl2 : cs.length = off + 1 + (fs.map fun f : Field => P.cellsOf f.type).sum := by
      rw [hl, List.map_cons, List.sum_cons, hk]; omega
    obtain ⟨c, hc⟩ : ∃ c, cs.drop off = c :: cs.drop (off + 1) := ⟨cs[off]'(by omega), by rw [← List.drop_eq_getElem_cons]⟩
    rw [hc] at t0
    obtain ⟨z, hz1, hz2, hz3⟩ := h m c x t0 f0
    obtain ⟨y, hy1, hy2, hy3⟩ := r m cs xs hl2 (by simpa using hx) fun j f' hf' => ht (j + 1) f' hf'
    refine ⟨⟨z, y⟩, ?_, ⟨hz2, hy2⟩, ?_⟩
    · show cs.drop off = g z :: g' y
      rw [hc, hz1, hy1]
    · simp only [List.map_cons, Rows.uptoBulkAll]
      omega
theorem iso2 {t : TypeId} {α β : Type} {g : α → List Value} {Ok : α → Prop} {b : α → Nat} (h : Some_ enc P W t g Ok b) {g' : β → List Value} {Ok' : β → Prop} {b' : β → Nat} (f : α → β) (hg : ∀ z, g' (f z) = g z) (hok : ∀ z, Ok z → Ok' (f z)) (hb : ∀ z, b' (f z) ≤ b z) : Some_ enc P W t g' Ok' b' := h.iso f hg hok hb
/-- any slice, by its three numbers -/
theorem one_raw {t te : TypeId} (ht : P.underlying t = some (.slice te)) : One enc P W t (fun z : Option Addr × Nat × Nat => .slice z.1 z.2.1 z.2.2) (fun z => z.2.1 ≤ z.2.2) (fun _ => 1) := fun n c x h hf => by
  rcases open_slice ht h with ⟨hcs, _⟩ | ⟨a, len, cap, k, m, D, Pl, hcs, _, hlc, _⟩
  · exact ⟨(none, 0, 0), by simpa using hcs, Nat.le_refl _, bulk_one _⟩
  · exact ⟨(some a, len, cap), by simpa using hcs, hlc, bulk_one _⟩
theorem one_u16 {t : TypeId} (h0 : P.underlying t = some (.int .u16)) : One enc P W t (fun z : Nat => .int .u16 (z : Int)) (fun z => z < 65536) (fun _ => 1) := fun n c x h _ => by
  obtain ⟨i, hi, _, wi⟩ := DataW.trod_int h0 h
  have := bounds_u16 wi
  exact ⟨i.toNat, by show c = Value.int _ ((i.toNat : Nat) : Int); rw [show ((i.toNat : Nat) : Int) = i from by omega]; simpa using hi, by omega, bulk_one _⟩
def wordE : Elem Nat := ⟨fun x => [.int .u64 (x : Int)], 1, by decide, fun _ => rfl, fun x u hu => by rcases List.mem_singleton.1 hu with rfl; rfl⟩
theorem wordE_cells (l : List Nat) : wordE.cells l = l.map fun x : Nat => Value.int .u64 (x : Int) := by
  unfold Elem.cells
  induction l with
  | nil => rfl
  | cons x l ih => rw [List.flatMap_cons, ih]; rfl
theorem words_some {te : TypeId} (he : P.underlying te = some (.int .u64)) : Some_ enc P W te wordE.g (fun z => z < 18446744073709551616) (fun _ => 1) := fun n cs x h hf => by
  obtain ⟨i, hi, _, wi⟩ := DataW.trod_int he h
  have := bounds_u64 wi
  exact ⟨i.toNat, by rw [hi]; show _ = [Value.int .u64 ((i.toNat : Nat) : Int)]; rw [show ((i.toNat : Nat) : Int) = i from by omega], by omega, bulk_one _⟩
/-- words in one cell -/
theorem one_words {t te : TypeId} (ht : P.underlying t = some (.slice te)) (he : P.underlying te = some (.int .u64)) (hC : P.cellsOf te = 1) :
    One enc P W t (SliceM.val (α := Nat)) (fun z => Rd W W.heap.size z.A (z.l.map fun x : Nat => Value.int .u64 (x : Int)) ∧ (∀ y ∈ z.l, y < 18446744073709551616) ∧ z.l.length ≤ z.c) (fun _ => 1) := fun n c x h hf => by
  obtain ⟨z, h1, ⟨h2, h3, h4, h5⟩, h6⟩ := one_slice wordE ht hC (words_some he) n c x h hf
  exact ⟨z, h1, ⟨by unfold Elem.Rd at h2; rwa [wordE_cells] at h2, h3, h4⟩, bulk_one _⟩
end
end Go.Proofs.YtfkfpanhbanljaaGreatDoor.Opens

/- Lists of texts, lines, cards in memory: what reads as which. -/
namespace Go.Proofs.YtfkfpanhbanljaaGreatDoor.Card
open Go.RowKit Go.Proofs.YtfkfpanhbanljaaGreatDoor.Mem

/-- texts as values -/
def SB (l : List ByteArray) : List Value := l.map Value.string
theorem SB_length (l : List ByteArray) : (SB l).length = l.length := by simp [SB]
theorem SB_get (l : List ByteArray) (k : Nat) (h : k < l.length) : (SB l)[k]? = some (.string (l.getD k ByteArray.empty)) := by
  simp [SB, List.getElem?_eq_getElem h]
theorem SB_append (a b : List ByteArray) : SB (a ++ b) = SB a ++ SB b := by simp [SB]
theorem str_beq (a b : ByteArray) : (a.toList == b.toList) = decide (a = b) := by
  rw [ByteArray.toList_eq, ByteArray.toList_eq]
  by_cases h : a = b
  · subst h; simp
  · rw [decide_eq_false h]
    refine beq_eq_false_iff_ne.2 fun e => h ?_
    obtain ⟨⟨x⟩⟩ := a
    obtain ⟨⟨y⟩⟩ := b
    simp at e
    subst e
    rfl
/-- a line where it lies: its field, its text, and the other texts that stand there -/
structure LineM where
  f : Nat
  t : ByteArray
  A : Option Addr
  m : List ByteArray
  c : Nat
def LineM.cells (x : LineM) : List Value := [.int .u8 (x.f : Int), .string x.t, .slice x.A x.m.length x.c]
def LineM.val (x : LineM) : Value := .agg #[.int .u8 (x.f : Int), .string x.t, .slice x.A x.m.length x.c]
/-- what it says -/
def LineM.p (x : LineM) : Nat × ByteArray × List ByteArray := (x.f, x.t, x.m)
def LineM.Ok (w : World) (B : Nat) (x : LineM) : Prop := Rd w B x.A (SB x.m) ∧ x.f < 256 ∧ x.m.length ≤ x.c ∧ x.m.length ≤ 8796093022208
def LB (ls : List LineM) : List Value := ls.flatMap LineM.cells
def RdLines (w : World) (B : Nat) (X : Option Addr) (ls : List LineM) : Prop := Rd w B X (LB ls) ∧ ∀ x ∈ ls, x.Ok w B
/-- a card where it lies -/
structure CardM where
  cid : Nat
  X : Option Addr
  ls : List LineM
  c : Nat
def CardM.cells (x : CardM) : List Value := [.int .u64 (x.cid : Int), .slice x.X x.ls.length x.c]
def CardM.val (x : CardM) : Value := .agg #[.int .u64 (x.cid : Int), .slice x.X x.ls.length x.c]
def CardM.p (x : CardM) : Nat × List (Nat × ByteArray × List ByteArray) := (x.cid, x.ls.map LineM.p)
def CardM.Ok (w : World) (B : Nat) (x : CardM) : Prop := x.cid < 18446744073709551616 ∧ RdLines w B x.X x.ls ∧ x.ls.length ≤ x.c ∧ x.ls.length ≤ 2932031007402
def CB (cs : List CardM) : List Value := cs.flatMap CardM.cells
def RdCards (w : World) (B : Nat) (X : Option Addr) (cs : List CardM) : Prop := Rd w B X (CB cs) ∧ ∀ x ∈ cs, x.Ok w B
section
variable {w w' : World} {B B' : Nat}
theorem LineM.Ok.keep {x : LineM} (h : x.Ok w B) (hk : ∀ p : Addr, p.block < B → w'.cell? p = w.cell? p) : x.Ok w' B := ⟨h.1.keep hk, h.2⟩
theorem LineM.Ok.more {x : LineM} (h : x.Ok w B) (hB : B ≤ B') : x.Ok w B' := ⟨h.1.more hB, h.2⟩
theorem LineM.Ok.next {x : LineM} (h : x.Ok w w.heap.size) (hb : Below w.heap.size w w') : x.Ok w' w'.heap.size := ⟨h.1.next hb, h.2⟩
theorem RdLines.keep {X : Option Addr} {ls : List LineM} (h : RdLines w B X ls) (hk : ∀ p : Addr, p.block < B → w'.cell? p = w.cell? p) : RdLines w' B X ls := ⟨h.1.keep hk, fun x hx => (h.2 x hx).keep hk⟩
theorem RdLines.more {X : Option Addr} {ls : List LineM} (h : RdLines w B X ls) (hB : B ≤ B') : RdLines w B' X ls := ⟨h.1.more hB, fun x hx => (h.2 x hx).more hB⟩
theorem RdLines.below {X : Option Addr} {ls : List LineM} (h : RdLines w B X ls) (hb : Below B w w') : RdLines w' B X ls := h.keep fun _ hp => hb.cell hp
theorem RdLines.next {X : Option Addr} {ls : List LineM} (h : RdLines w w.heap.size X ls) (hb : Below w.heap.size w w') : RdLines w' w'.heap.size X ls := (h.below hb).more hb.size
theorem CardM.Ok.keep {x : CardM} (h : x.Ok w B) (hk : ∀ p : Addr, p.block < B → w'.cell? p = w.cell? p) : x.Ok w' B := ⟨h.1, h.2.1.keep hk, h.2.2⟩
theorem CardM.Ok.more {x : CardM} (h : x.Ok w B) (hB : B ≤ B') : x.Ok w B' := ⟨h.1, h.2.1.more hB, h.2.2⟩
theorem CardM.Ok.below {x : CardM} (h : x.Ok w B) (hb : Below B w w') : x.Ok w' B := h.keep fun _ hp => hb.cell hp
theorem CardM.Ok.next {x : CardM} (h : x.Ok w w.heap.size) (hb : Below w.heap.size w w') : x.Ok w' w'.heap.size := (h.below hb).more hb.size
theorem RdCards.keep {X : Option Addr} {cs : List CardM} (h : RdCards w B X cs) (hk : ∀ p : Addr, p.block < B → w'.cell? p = w.cell? p) : RdCards w' B X cs := ⟨h.1.keep hk, fun x hx => (h.2 x hx).keep hk⟩
theorem RdCards.more {X : Option Addr} {cs : List CardM} (h : RdCards w B X cs) (hB : B ≤ B') : RdCards w B' X cs := ⟨h.1.more hB, fun x hx => (h.2 x hx).more hB⟩
theorem RdCards.below {X : Option Addr} {cs : List CardM} (h : RdCards w B X cs) (hb : Below B w w') : RdCards w' B X cs := h.keep fun _ hp => hb.cell hp
theorem RdCards.next {X : Option Addr} {cs : List CardM} (h : RdCards w w.heap.size X cs) (hb : Below w.heap.size w w') : RdCards w' w'.heap.size X cs := (h.below hb).more hb.size
/-- element i of elements of k cells each, its cell j -/
theorem flat_get {α : Type} (g : α → List Value) (k : Nat) (hg : ∀ x, (g x).length = k) : ∀ (ls : List α) (i j : Nat) (x : α), ls[i]? = some x → j < k → (ls.flatMap g)[i * k + j]? = (g x)[j]?
  | [], i, j, x, h, _ => by simp at h
  | y :: ls, 0, j, x, h, hj => by
    simp at h
    subst h
    rw [List.flatMap_cons, Nat.zero_mul, Nat.zero_add, List.getElem?_append_left (by rw [hg]; exact hj)]
  | y :: ls, i + 1, j, x, h, hj => by
    rw [List.flatMap_cons, List.getElem?_append_right (by rw [hg, Nat.add_mul]; omega), hg]
    have := flat_get g k hg ls i j x (by simpa using h) hj
    rw [show (i + 1) * k + j - k = i * k + j from by rw [Nat.add_mul]; omega]
    exact this
theorem flat_length {α : Type} (g : α → List Value) (k : Nat) (hg : ∀ x, (g x).length = k) (ls : List α) : (ls.flatMap g).length = ls.length * k := by
  induction ls with
  | nil => simp
  | cons y ls ih => rw [List.flatMap_cons, List.length_append, hg, ih, List.length_cons, Nat.add_mul]; omega
theorem LB_length (ls : List LineM) : (LB ls).length = ls.length * 3 := flat_length _ 3 (fun _ => rfl) ls
theorem CB_length (cs : List CardM) : (CB cs).length = cs.length * 2 := flat_length _ 2 (fun _ => rfl) cs
/-- a line of a list: where it lies -/
theorem RdLines.at_ {X : Option Addr} {ls : List LineM} (h : RdLines w B X ls) {i : Nat} {x : LineM} (hi : ls[i]? = some x) :
    ∃ b o, X = some ⟨b, o, none⟩ ∧ b < B ∧ w.cell? ⟨b, o + i * 3, none⟩ = some (.int .u8 (x.f : Int)) ∧ w.cell? ⟨b, o + i * 3 + 1, none⟩ = some (.string x.t) ∧ w.cell? ⟨b, o + i * 3 + 2, none⟩ = some (.slice x.A x.m.length x.c) ∧ x.Ok w B := by
  have hlt := (List.getElem?_eq_some_iff.1 hi).1
  have hne : LB ls ≠ [] := by
    intro e
    have h0 := congrArg List.length e
    rw [LB_length] at h0
    have h1 : ls.length * 3 = 0 := h0
    omega
  obtain ⟨b, o, e, hb, hc⟩ := h.1 hne
  have hg := fun j hj => flat_get LineM.cells 3 (fun _ => rfl) ls i j x hi hj
  refine ⟨b, o, e, hb, ?_, ?_, ?_, h.2 x (List.mem_of_getElem? hi)⟩
  · exact hc (i * 3) _ (hg 0 (by decide))
  · rw [Nat.add_assoc]; exact hc (i * 3 + 1) _ (hg 1 (by decide))
  · rw [Nat.add_assoc]; exact hc (i * 3 + 2) _ (hg 2 (by decide))
theorem RdCards.at_ {X : Option Addr} {cs : List CardM} (h : RdCards w B X cs) {i : Nat} {x : CardM} (hi : cs[i]? = some x) :
    ∃ b o, X = some ⟨b, o, none⟩ ∧ b < B ∧ w.cell? ⟨b, o + i * 2, none⟩ = some (.int .u64 (x.cid : Int)) ∧ w.cell? ⟨b, o + i * 2 + 1, none⟩ = some (.slice x.X x.ls.length x.c) ∧ x.Ok w B := by
  have hlt := (List.getElem?_eq_some_iff.1 hi).1
  have hne : CB cs ≠ [] := by
    intro e
    have h0 := congrArg List.length e
    rw [CB_length] at h0
    have h1 : cs.length * 2 = 0 := h0
    omega
  obtain ⟨b, o, e, hb, hc⟩ := h.1 hne
  have hg := fun j hj => flat_get CardM.cells 2 (fun _ => rfl) cs i j x hi hj
  refine ⟨b, o, e, hb, ?_, ?_, h.2 x (List.mem_of_getElem? hi)⟩
  · exact hc (i * 2) _ (hg 0 (by decide))
  · rw [Nat.add_assoc]; exact hc (i * 2 + 1) _ (hg 1 (by decide))
end
end Go.Proofs.YtfkfpanhbanljaaGreatDoor.Card
