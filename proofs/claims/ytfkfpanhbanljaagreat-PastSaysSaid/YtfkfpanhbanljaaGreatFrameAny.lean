/- Arguments opened, over any program: structs whose fields have several cells each (structs in structs). -/
import Derived.Test.YtfkfpanhbanljaaGreatFrameElem
namespace Go.Proofs.YtfkfpanhbanljaaGreat.Opens
open Go.ChangeShapes Go.WideShapes Go.ChangeAt Go.RowKit Go.Deep Go.Joins Go.Proofs.YtfkfpanhbanljaaGreat.Mem

section
variable {H : Type} {enc : TypeId × Value → H} {P : Program} {W : World}
/-- the cells from 'off' on open, field by field, to a thing z -/
def Fs (enc : TypeId × Value → H) (P : Program) (W : World) (fs : List Field) (off : Nat) {α : Type} (g : α → List Value) (Ok : α → Prop) (b : α → Nat) : Prop :=
  ∀ (m : Nat) (cs : List Value) (xs : List (DataW H × List MemPlace)), cs.length = off + (fs.map fun f : Field => P.cellsOf f.type).sum → xs.length = fs.length →
    (∀ (j : Nat) (f : Field), fs[j]? = some f → ∃ x, xs[j]? = some x ∧ DataW.trod enc P W 0 (fun _ => true) true m f.type ((cs.drop f.offset).take (P.cellsOf f.type)) = some x ∧ Fit P f.type x.1) → ∃ z, cs.drop off = g z ∧ Ok z ∧ b z ≤ Rows.uptoBulkAll (xs.map (·.1))
theorem fs_nil (off : Nat) : Fs enc P W [] off (fun _ : Unit => []) (fun _ => True) (fun _ => 0) := fun m cs xs hl hx _ =>
  ⟨(), List.drop_eq_nil_of_le (by simp at hl; omega), trivial, Nat.zero_le _⟩
theorem fs_cons {f : Field} {fs : List Field} {off k : Nat} {α β : Type} {g : α → List Value} {Ok : α → Prop} {b : α → Nat} {g' : β → List Value} {Ok' : β → Prop} {b' : β → Nat} (h : Some_ enc P W f.type g Ok b) (ho : f.offset = off) (hk : P.cellsOf f.type = k) (r : Fs enc P W fs (off + k) g' Ok' b') :
    Fs enc P W (f :: fs) off (fun z : α × β => g z.1 ++ g' z.2) (fun z => Ok z.1 ∧ Ok' z.2) (fun z => b z.1 + b' z.2) := fun m cs xs hl hx ht => by
  rcases xs with _ | ⟨x, xs⟩
  · cases hx
  · obtain ⟨x', e0, t0, f0⟩ := ht 0 f rfl
    obtain rfl : x = x' := Option.some.inj e0
    rw [ho, hk] at t0
    obtain ⟨z, hz1, hz2, hz3⟩ := h m _ x t0 f0
    have hl2 : cs.length = off + k + (fs.map fun f : Field => P.cellsOf f.type).sum := by
      rw [hl, List.map_cons, List.sum_cons, hk]; omega
    obtain ⟨y, hy1, hy2, hy3⟩ := r m cs xs hl2 (by simpa using hx) fun j f' hf' => ht (j + 1) f' hf'
    refine ⟨⟨z, y⟩, ?_, ⟨hz2, hy2⟩, ?_⟩
    · show cs.drop off = g z ++ g' y
      rw [← hz1, ← hy1, ← List.drop_drop, List.take_append_drop]
    · simp only [List.map_cons, Rows.uptoBulkAll]
      omega
theorem struct_any {t : TypeId} {fs : Array Field} (ht : P.underlying t = some (.struct fs)) (hC : P.cellsOf t = (fs.toList.map fun f : Field => P.cellsOf f.type).sum) {α : Type} {g : α → List Value} {Ok : α → Prop} {b : α → Nat} (h : Fs enc P W fs.toList 0 g Ok b) :
    Some_ enc P W t g Ok (fun z => b z + 1) := fun n cs x h0 hf => by
  obtain ⟨xs, m, _, rfl, hcl, hxl, hx⟩ := DataW.trod_struct ht h0
  rw [hC] at hcl
  obtain ⟨z, h1, h2, h3⟩ := h m cs xs (by rw [hcl]; simp) (by simpa using hxl) (fun j f hf' => by
    have hfs : fs[j]? = some f := by rw [← Array.getElem?_toList]; exact hf'
    have hj : j < xs.length := by
      rw [hxl]; exact (Array.getElem?_eq_some_iff.1 hfs).1
    refine ⟨xs[j], List.getElem?_eq_getElem hj, ?_, ?_⟩
    · rw [hx j f hfs, List.getElem?_eq_getElem hj]
    · exact hf.part ht (j := j) (by rw [List.getElem?_map, hf']; rfl) (by rw [List.getElem?_map, List.getElem?_eq_getElem hj]; rfl))
  exact ⟨z, by simpa using h1, h2, by simp only [Rows.uptoBulk]; omega⟩
theorem fs_one {f : Field} {fs : List Field} {off : Nat} {α β : Type} {g : α → Value} {Ok : α → Prop} {b : α → Nat} {g' : β → List Value} {Ok' : β → Prop} {b' : β → Nat} (h : One enc P W f.type g Ok b) (ho : f.offset = off) (hk : P.cellsOf f.type = 1) (r : Fs enc P W fs (off + 1) g' Ok' b') :
    Fs enc P W (f :: fs) off (fun z : α × β => g z.1 :: g' z.2) (fun z => Ok z.1 ∧ Ok' z.2) (fun z => b z.1 + b' z.2) := fun m cs xs hl hx ht => by
  rcases xs with _ | ⟨x, xs⟩
  · cases hx
  · obtain ⟨x', e0, t0, f0⟩ := ht 0 f rfl
    obtain rfl : x = x' := Option.some.inj e0
    rw [ho, hk] at t0
    have hl2 : cs.length = off + 1 + (fs.map fun f : Field => P.cellsOf f.type).sum := by
      rw [hl, List.map_cons, List.sum_cons, hk]; omega
    obtain ⟨c, hc⟩ : ∃ c, cs.drop off = c :: cs.drop (off + 1) := ⟨cs[off]'(by omega), by rw [← List.drop_eq_getElem_cons]⟩
    rw [hc] at t0
    obtain ⟨z, hz1, hz2, hz3⟩ := h m c x t0 f0
    obtain ⟨y, hy1, hy2, hy3⟩ := r m cs xs hl2 (by simpa using hx) fun j f' hf' => ht (j + 1) f' hf'
    refine ⟨⟨z, y⟩, ?_, ⟨hz2, hy2⟩, ?_⟩
    · show cs.drop off = g z :: g' y
      rw [hc, hz1, hy1]
    · simp only [List.map_cons, Rows.uptoBulkAll]
      omega
theorem iso2 {t : TypeId} {α β : Type} {g : α → List Value} {Ok : α → Prop} {b : α → Nat} (h : Some_ enc P W t g Ok b) {g' : β → List Value} {Ok' : β → Prop} {b' : β → Nat} (f : α → β) (hg : ∀ z, g' (f z) = g z) (hok : ∀ z, Ok z → Ok' (f z)) (hb : ∀ z, b' (f z) ≤ b z) : Some_ enc P W t g' Ok' b' := h.iso f hg hok hb
/-- any slice, by its three numbers -/
theorem one_raw {t te : TypeId} (ht : P.underlying t = some (.slice te)) : One enc P W t (fun z : Option Addr × Nat × Nat => .slice z.1 z.2.1 z.2.2) (fun z => z.2.1 ≤ z.2.2) (fun _ => 1) := fun n c x h hf => by
  rcases open_slice ht h with ⟨hcs, _⟩ | ⟨a, len, cap, k, m, D, Pl, hcs, _, hlc, _⟩
  · exact ⟨(none, 0, 0), by simpa using hcs, Nat.le_refl _, bulk_one _⟩
  · exact ⟨(some a, len, cap), by simpa using hcs, hlc, bulk_one _⟩
theorem one_u16 {t : TypeId} (h0 : P.underlying t = some (.int .u16)) : One enc P W t (fun z : Nat => .int .u16 (z : Int)) (fun z => z < 65536) (fun _ => 1) := fun n c x h _ => by
  obtain ⟨i, hi, _, wi⟩ := DataW.trod_int h0 h
  have := bounds_u16 wi
  exact ⟨i.toNat, by show c = Value.int _ ((i.toNat : Nat) : Int); rw [show ((i.toNat : Nat) : Int) = i from by omega]; simpa using hi, by omega, bulk_one _⟩
def wordE : Elem Nat := ⟨fun x => [.int .u64 (x : Int)], 1, by decide, fun _ => rfl, fun x u hu => by rcases List.mem_singleton.1 hu with rfl; rfl⟩
theorem wordE_cells (l : List Nat) : wordE.cells l = l.map fun x : Nat => Value.int .u64 (x : Int) := by
  unfold Elem.cells
  induction l with
  | nil => rfl
  | cons x l ih => rw [List.flatMap_cons, ih]; rfl
theorem words_some {te : TypeId} (he : P.underlying te = some (.int .u64)) : Some_ enc P W te wordE.g (fun z => z < 18446744073709551616) (fun _ => 1) := fun n cs x h hf => by
  obtain ⟨i, hi, _, wi⟩ := DataW.trod_int he h
  have := bounds_u64 wi
  exact ⟨i.toNat, by rw [hi]; show _ = [Value.int .u64 ((i.toNat : Nat) : Int)]; rw [show ((i.toNat : Nat) : Int) = i from by omega], by omega, bulk_one _⟩
/-- words in one cell -/
theorem one_words {t te : TypeId} (ht : P.underlying t = some (.slice te)) (he : P.underlying te = some (.int .u64)) (hC : P.cellsOf te = 1) :
    One enc P W t (SliceM.val (α := Nat)) (fun z => Rd W W.heap.size z.A (z.l.map fun x : Nat => Value.int .u64 (x : Int)) ∧ (∀ y ∈ z.l, y < 18446744073709551616) ∧ z.l.length ≤ z.c) (fun _ => 1) := fun n c x h hf => by
  obtain ⟨z, h1, ⟨h2, h3, h4, h5⟩, h6⟩ := one_slice wordE ht hC (words_some he) n c x h hf
  exact ⟨z, h1, ⟨by unfold Elem.Rd at h2; rwa [wordE_cells] at h2, h3, h4⟩, bulk_one _⟩
end
end Go.Proofs.YtfkfpanhbanljaaGreat.Opens
