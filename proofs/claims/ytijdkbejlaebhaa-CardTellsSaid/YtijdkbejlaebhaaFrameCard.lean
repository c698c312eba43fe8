/- An argument that is a card, opened. -/
import Derived.Test.YtijdkbejlaebhaaFrame
import Derived.Test.YtijdkbejlaebhaaCardMem
import Derived.Lib.SmallJoins
namespace Go.Proofs.Ytijdkbejlaebhaa.Card
open Go.ChangeShapes Go.WideShapes Go.ChangeAt Go.RowKit Go.Deep Go.Joins Go.Proofs.Ytijdkbejlaebhaa.Mem

instance : Inhabited LineM := ⟨⟨0, ⟨#[]⟩, none, [], 0⟩⟩
section
variable {H : Type} {enc : TypeId × Value → H} {P : Program} {W : World} {base : Nat}
/-- no weight of it is beyond the reach -/
def Fit (P : Program) (t : TypeId) (d : DataW H) : Prop := ∀ n ∈ d.weights P t, n ≤ reachBytes
theorem fit_of {ts : List TypeId} {ds : List (DataW H)} {j : Nat} {t : TypeId} {d : DataW H} (hw : (DataW.weightsEach P ts ds).all (· ≤ reachBytes) = true) (ht : ts[j]? = some t) (hd : ds[j]? = some d) : Fit P t d := fun n hn =>
  of_decide_eq_true (List.all_eq_true.1 hw _ (DataW.weights_mem_each ht hd n hn))
theorem Fit.part {t : TypeId} {fs : Array Field} {ds : List (DataW H)} (h : Fit P t (.agg ds)) (ht : P.underlying t = some (.struct fs)) {j : Nat} {u : TypeId} {d : DataW H} (hu : (fs.toList.map (·.type))[j]? = some u) (hd : ds[j]? = some d) : Fit P u d := fun n hn =>
  h n (by simp only [DataW.weights, ht]; exact DataW.weights_mem_each hu hd n hn)
theorem weightsAll_mem {e : TypeId} {d : DataW H} : ∀ {ds : List (DataW H)}, d ∈ ds → ∀ n ∈ d.weights P e, n ∈ DataW.weightsAll P e ds
  | [], h, _, _ => by cases h
  | d0 :: ds, h, n, hn => by
    simp only [DataW.weightsAll, List.mem_append]
    rcases List.mem_cons.1 h with rfl | h
    · exact Or.inl hn
    · exact Or.inr (weightsAll_mem h n hn)
theorem Fit.elem {t e : TypeId} {el sp : List (DataW H)} (h : Fit P t (.slice el sp)) (ht : P.underlying t = some (.slice e)) {d : DataW H} (hd : d ∈ el) : Fit P e d := fun n hn =>
  h n (by simp only [DataW.weights, ht, List.mem_cons, List.mem_append]; exact Or.inr (Or.inl (weightsAll_mem hd n hn)))
theorem Fit.long {t e : TypeId} {el sp : List (DataW H)} (h : Fit P t (.slice el sp)) (ht : P.underlying t = some (.slice e)) : (el.length + sp.length) * P.bytesOf e ≤ reachBytes :=
  h _ (by simp [DataW.weights, ht])
theorem Fit.str {t : TypeId} {l : List UInt8} (h : Fit (H := H) P t (.lit (.string l))) : l.length ≤ reachBytes := h _ (by simp [DataW.weights])
/-- a line that lies somewhere -/
theorem in_line {tl : TypeId} {f0 f1 f2 : Field} {q : TypeId} (hl : P.underlying tl = some (.struct #[f0, f1, f2])) (hone : oneCellFields P #[f0, f1, f2] = true) (hC : P.cellsOf tl = 3)
    (h0 : P.underlying f0.type = some (.int .u8)) (h1 : P.underlying f1.type = some .string) (h2 : P.underlying f2.type = some (.slice q)) (hq : P.underlying q = some .string) (cq : P.cellsOf q = 1) (bq : P.bytesOf q = 16)
    {n : Nat} {cs : List Value} {x : DataW H × List MemPlace} (h : DataW.trod enc P W base (fun _ => true) true n tl cs = some x) (hf : Fit P tl x.1) :
    ∃ z : LineM, cs = z.cells ∧ z.Ok W W.heap.size ∧ z.t.size ≤ 140737488355328 ∧ ∀ y ∈ z.m, y.size ≤ 9223372036854775807 := by
  obtain ⟨y0, y1, y2, m, rfl, hcl, t0, t1, t2⟩ := trod_struct3 hl h
  obtain ⟨o0, k0⟩ := hone_of hone 0 f0 rfl
  obtain ⟨o1, k1⟩ := hone_of hone 1 f1 rfl
  obtain ⟨o2, k2⟩ := hone_of hone 2 f2 rfl
  obtain ⟨c0, c1, c2, rfl⟩ : ∃ c0 c1 c2, cs = [c0, c1, c2] := by
    rw [hC] at hcl
    match cs, hcl with
    | [c0, c1, c2], _ => exact ⟨c0, c1, c2, rfl⟩
  simp only [o0, k0, o1, k1, o2, k2, List.drop_zero, List.drop_succ_cons, List.take_succ_cons, List.take_zero] at t0 t1 t2
  obtain ⟨i, hi, hx0, wi⟩ := DataW.trod_int h0 t0
  obtain ⟨s, hs, hx1, _⟩ := DataW.trod_string h1 t1
  obtain rfl : c0 = .int .u8 i := by simpa using hi
  obtain rfl : c1 = .string s := by simpa using hs
  have hb0 := bounds_u8 wi
  have hs1 : s.size ≤ 140737488351232 := by
    have hp : Fit P f1.type y1.1 := hf.part hl (j := 1) rfl rfl
    rw [hx1] at hp
    have := hp.str
    have h3 : s.data.toList.length = s.data.size := Array.length_toList
    have h4 : s.size = s.data.size := rfl
    unfold reachBytes at this
    omega
  have hp2 : Fit P f2.type y2.1 := hf.part hl (j := 2) rfl rfl
  have hi0 : ((i.toNat : Nat) : Int) = i := by omega
  rcases open_strs h2 hq cq t2 with ⟨hcs, _⟩ | ⟨a, len, cap, k, Sx, hcs, _, hlc, hm, hk, rfl, hcell⟩
  · obtain rfl : c2 = .slice none 0 0 := by simpa using hcs
    exact ⟨⟨i.toNat, s, none, [], 0⟩, by simp [LineM.cells, hi0], ⟨Rd.nil, by show i.toNat < 256; omega, Nat.le_refl _, by simp⟩, by show s.size ≤ _; omega, fun y hy => by cases hy⟩
  · obtain rfl : c2 = .slice (some a) len cap := by simpa using hcs
    simp only [if_true] at hk
    obtain rfl : cap = k := hk.symm
    have hlong := hp2.long h2
    simp only [List.length_map, List.length_range, bq, reachBytes] at hlong
    refine ⟨⟨i.toNat, s, some a, (List.range len).map Sx, cap⟩, by simp [LineM.cells, hi0], ⟨fun hne => ?_, by show i.toNat < 256; omega, by simpa using hlc, by simp; omega⟩, by show s.size ≤ _; omega, fun y hy => by
      obtain ⟨r, hr, rfl⟩ := List.mem_map.1 hy
      exact (hcell r (by have := List.mem_range.1 hr; omega)).2⟩
    have hpos : 0 < len := by
      rcases Nat.eq_zero_or_pos len with e0 | e0
      · subst e0; simp [SB] at hne
      · exact e0
    obtain ⟨b, off, spot⟩ := a
    have hspot : spot = none := by simpa [Addr.add] using World.cell?_spot (hcell 0 (by omega)).1
    subst hspot
    have hbW : b < W.heap.size := by
      have := World.block_lt_of_cell? W _ (hcell 0 (by omega)).1
      simpa [Addr.add] using this
    refine ⟨b, off, rfl, hbW, fun j u hu => ?_⟩
    have hj : j < len := by
      have := (List.getElem?_eq_some_iff.1 hu).1
      simpa [SB] using this
    have h1 := (hcell j (by omega)).1
    rw [Mem.add_plain] at h1
    rw [h1, ← hu]
    simp [SB, hj]
/-- an argument that is a card -/
theorem arg_card {t tl : TypeId} {g0 g1 f0 f1 f2 : Field} {q : TypeId} (hs : P.underlying t = some (.struct #[g0, g1])) (hone2 : oneCellFields P #[g0, g1] = true) (hC2 : P.cellsOf t = 2)
    (k0 : P.underlying g0.type = some (.int .u64)) (k1 : P.underlying g1.type = some (.slice tl)) (hl : P.underlying tl = some (.struct #[f0, f1, f2])) (hone : oneCellFields P #[f0, f1, f2] = true) (hC : P.cellsOf tl = 3) (hB : P.bytesOf tl = 48)
    (h0 : P.underlying f0.type = some (.int .u8)) (h1 : P.underlying f1.type = some .string) (h2 : P.underlying f2.type = some (.slice q)) (hq : P.underlying q = some .string) (cq : P.cellsOf q = 1) (bq : P.bytesOf q = 16)
    {v : Value} {d : DataW H} {p : List MemPlace} {tys : List TypeId} {ds : List (DataW H)} {j b0 : Nat}
    (hv : Value.okWide P W .any b0 t v) (h : DataW.Trod enc P W 0 (fun _ => true) true t v d p)
    (hw : (DataW.weightsEach P tys ds).all (· ≤ reachBytes) = true) (hts : tys[j]? = some t) (hds : ds[j]? = some d) :
    ∃ x : CardM, v = x.val ∧ x.Ok W W.heap.size ∧ ∀ z ∈ x.ls, z.t.size ≤ 140737488355328 ∧ ∀ y ∈ z.m, y.size ≤ 9223372036854775807 := by
  obtain ⟨v0, v1, y0, y1, n, rfl, rfl, rfl, t0, t1⟩ := open_agg2 hs hone2 hC2 hv h
  have hfit := fit_of hw hts hds
  have hp1 : Fit P g1.type y1.1 := hfit.part hs (j := 1) rfl rfl
  obtain ⟨i, hi, _, wi⟩ := DataW.trod_int k0 t0
  obtain rfl : v0 = .int .u64 i := by simpa using hi
  have hb0 := bounds_u64 wi
  have hi0 : ((i.toNat : Nat) : Int) = i := by omega
  rcases open_slice k1 t1 with ⟨hcs, _⟩ | ⟨a, len, cap, k, m, D, Pl, hcs, _, hlc, hm, hk, rfl, hx⟩
  · obtain rfl : v1 = .slice none 0 0 := by simpa using hcs
    exact ⟨⟨i.toNat, none, [], 0⟩, by simp [CardM.val, hi0], ⟨by show i.toNat < _; omega, ⟨Rd.nil, fun x hx => by cases hx⟩, Nat.le_refl _, by simp⟩, fun z hz => by cases hz⟩
  · obtain rfl : v1 = .slice (some a) len cap := by simpa using hcs
    simp only [if_true] at hk
    obtain rfl : cap = k := hk.symm
    have hlong := hp1.long k1
    simp only [List.length_map, List.length_range, hB, reachBytes] at hlong
    obtain ⟨Z, hZ⟩ := choose_lt (α := LineM) (n := len) (p := fun r z => (∀ c, c < 3 → W.cell? ((a.add (r * 3)).add c) = z.cells[c]?) ∧ z.Ok W W.heap.size ∧ z.t.size ≤ 140737488355328 ∧ ∀ y ∈ z.m, y.size ≤ 9223372036854775807) (fun r hr => by
      obtain ⟨cs', hc1, hc2⟩ := hx r (by omega)
      rw [hC] at hc1
      obtain ⟨_, _, hcc⟩ := World.cells?_some hc1
      obtain ⟨z, rfl, hz1, hz2⟩ := in_line hl hone hC h0 h1 h2 hq cq bq hc2 (hp1.elem k1 (List.mem_map.2 ⟨r, List.mem_range.2 hr, rfl⟩))
      exact ⟨z, hcc, hz1, hz2⟩)
    refine ⟨⟨i.toNat, some a, (List.range len).map Z, cap⟩, by simp [CardM.val, hi0], ⟨by show i.toNat < _; omega, ⟨fun hne => ?_, fun x hx => ?_⟩, by simpa using hlc, by simp; omega⟩, fun z hz => ?_⟩
    · have hpos : 0 < len := by
        rcases Nat.eq_zero_or_pos len with e0 | e0
        · subst e0; simp [LB] at hne
        · exact e0
      obtain ⟨b, off, spot⟩ := a
      have hc0 : W.cell? (((⟨b, off, spot⟩ : Addr).add (0 * 3)).add 0) = some (.int .u8 ((Z 0).f : Int)) := (hZ 0 hpos).1 0 (by omega)
      have hspot : spot = none := by simpa [Addr.add] using World.cell?_spot hc0
      subst hspot
      have hbW : b < W.heap.size := by
        have := World.block_lt_of_cell? W _ hc0
        simpa [Addr.add] using this
      refine ⟨b, off, rfl, hbW, fun j u hu => ?_⟩
      have hj : j < len * 3 := by
        have := (List.getElem?_eq_some_iff.1 hu).1
        rw [LB_length] at this
        simpa using this
      have hr : j / 3 < len := by omega
      have hm3 : j % 3 < 3 := Nat.mod_lt _ (by decide)
      have hje : j / 3 * 3 + j % 3 = j := by omega
      have h3 := (hZ (j / 3) hr).1 (j % 3) hm3
      rw [Mem.add_plain, Mem.add_plain, Nat.add_assoc, hje] at h3
      have h4 := flat_get LineM.cells 3 (fun _ => rfl) ((List.range len).map Z) (j / 3) (j % 3) (Z (j / 3)) (by simp [hr]) hm3
      rw [hje] at h4
      rw [h3, ← h4]
      exact hu
    · obtain ⟨r, hr, rfl⟩ := List.mem_map.1 hx
      exact (hZ r (List.mem_range.1 hr)).2.1
    · obtain ⟨r, hr, rfl⟩ := List.mem_map.1 hz
      exact (hZ r (List.mem_range.1 hr)).2.2
end
end Go.Proofs.Ytijdkbejlaebhaa.Card
