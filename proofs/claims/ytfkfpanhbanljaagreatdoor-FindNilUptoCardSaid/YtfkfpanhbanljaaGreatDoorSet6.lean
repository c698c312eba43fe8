import Derived.Test.YtfkfpanhbanljaaGreatDoorFrame
import Derived.Test.YtfkfpanhbanljaaGreatDoorSet5
import Derived.Lib.SmallJoins
import Derived.Deep.QuietTactic
import Derived.BigQuiet
/- An argument that is a card, opened. -/
namespace Go.Proofs.YtfkfpanhbanljaaGreatDoor.Card
open Go.ChangeShapes Go.WideShapes Go.ChangeAt Go.RowKit Go.Deep Go.Joins Go.Proofs.YtfkfpanhbanljaaGreatDoor.Mem

instance : Inhabited LineM := ⟨⟨0, ⟨#[]⟩, none, [], 0⟩⟩
section
variable {H : Type} {enc : TypeId × Value → H} {P : Program} {W : World} {base : Nat}
/-- no weight of it is beyond the reach -/
def Fit (P : Program) (t : TypeId) (d : DataW H) : Prop := ∀ n ∈ d.weights P t, n ≤ reachBytes
theorem fit_of {ts : List TypeId} {ds : List (DataW H)} {j : Nat} {t : TypeId} {d : DataW H} (hw : (DataW.weightsEach P ts ds).all (· ≤ reachBytes) = true) (ht : ts[j]? = some t) (hd : ds[j]? = some d) : Fit P t d := fun n hn =>
  of_decide_eq_true (List.all_eq_true.1 hw _ (DataW.weights_mem_each ht hd n hn))
theorem Fit.part {t : TypeId} {fs : Array Field} {ds : List (DataW H)} (h : Fit P t (.agg ds)) (ht : P.underlying t = some (.struct fs)) {j : Nat} {u : TypeId} {d : DataW H} (hu : (fs.toList.map (·.type))[j]? = some u) (hd : ds[j]? = some d) : Fit P u d := fun n hn =>
  h n (by simp only [DataW.weights, ht]; exact DataW.weights_mem_each hu hd n hn)
theorem weightsAll_mem {e : TypeId} {d : DataW H} : ∀ {ds : List (DataW H)}, d ∈ ds → ∀ n ∈ d.weights P e, n ∈ DataW.weightsAll P e ds
  | [], h, _, _ => by cases h
  | d0 :: ds, h, n, hn => by
    simp only [DataW.weightsAll, List.mem_append]
    rcases List.mem_cons.1 h with rfl | h
    · exact Or.inl hn
    · exact Or.inr (weightsAll_mem h n hn)
theorem Fit.elem {t e : TypeId} {el sp : List (DataW H)} (h : Fit P t (.slice el sp)) (ht : P.underlying t = some (.slice e)) {d : DataW H} (hd : d ∈ el) : Fit P e d := fun n hn =>
  h n (by simp only [DataW.weights, ht, List.mem_cons, List.mem_append]; exact Or.inr (Or.inl (weightsAll_mem hd n hn)))
theorem Fit.long {t e : TypeId} {el sp : List (DataW H)} (h : Fit P t (.slice el sp)) (ht : P.underlying t = some (.slice e)) : (el.length + sp.length) * P.bytesOf e ≤ reachBytes :=
  h _ (by simp [DataW.weights, ht])
theorem Fit.str {t : TypeId} {l : List UInt8} (h : Fit (H := H) P t (.lit (.string l))) : l.length ≤ reachBytes := h _ (by simp [DataW.weights])
/-- a line that lies somewhere -/
theorem in_line_s {tl : TypeId} {f0 f1 f2 : Field} {q : TypeId} (hl : P.underlying tl = some (.struct #[f0, f1, f2])) (hone : oneCellFields P #[f0, f1, f2] = true) (hC : P.cellsOf tl = 3)
    (h0 : P.underlying f0.type = some (.int .u8)) (h1 : P.underlying f1.type = some .string) (h2 : P.underlying f2.type = some (.slice q)) (hq : P.underlying q = some .string) (cq : P.cellsOf q = 1) (bq : P.bytesOf q = 16)
    {n : Nat} {cs : List Value} {x : DataW H × List MemPlace} (h : DataW.trod enc P W base (fun _ => true) true n tl cs = some x) (hf : Fit P tl x.1) :
    ∃ z : LineM, cs = z.cells ∧ z.Ok W W.heap.size ∧ z.t.size ≤ 140737488355328 ∧ ∀ y ∈ z.m, y.size ≤ 140737488351232 := by
  obtain ⟨y0, y1, y2, m, rfl, hcl, t0, t1, t2⟩ := trod_struct3 hl h
  obtain ⟨o0, k0⟩ := hone_of hone 0 f0 rfl
  obtain ⟨o1, k1⟩ := hone_of hone 1 f1 rfl
  obtain ⟨o2, k2⟩ := hone_of hone 2 f2 rfl
  obtain ⟨c0, c1, c2, rfl⟩ : ∃ c0 c1 c2, cs = [c0, c1, c2] := by
    rw [hC] at hcl
    match cs, hcl with
    | [c0, c1, c2], _ => exact ⟨c0, c1, c2, rfl⟩
  simp only [o0, k0, o1, k1, o2, k2, List.drop_zero, List.drop_succ_cons, List.take_succ_cons, List.take_zero] at t0 t1 t2
  obtain ⟨i, hi, hx0, wi⟩ := DataW.trod_int h0 t0
  obtain ⟨s, hs, hx1, _⟩ := DataW.trod_string h1 t1
  obtain rfl : c0 = .int .u8 i := by simpa using hi
  obtain rfl : c1 = .string s := by simpa using hs
  have hb0 := bounds_u8 wi
  have hs1 : s.size ≤ 140737488351232 := by
    have hp : Fit P f1.type y1.1 := hf.part hl (j := 1) rfl rfl
    rw [hx1] at hp
    have := hp.str
    have h3 : s.data.toList.length = s.data.size := Array.length_toList
    have h4 : s.size = s.data.size := rfl
    unfold reachBytes at this
    omega
  have hp2 : Fit P f2.type y2.1 := hf.part hl (j := 2) rfl rfl
  have hi0 : ((i.toNat : Nat) : Int) = i := by omega
  rcases open_strs h2 hq cq t2 with ⟨hcs, _⟩ | ⟨a, len, cap, k, Sx, hcs, _, hlc, hm, hk, rfl, hcell⟩
  · obtain rfl : c2 = .slice none 0 0 := by simpa using hcs
    exact ⟨⟨i.toNat, s, none, [], 0⟩, by simp [LineM.cells, hi0], ⟨Rd.nil, by show i.toNat < 256; omega, Nat.le_refl _, by simp⟩, by show s.size ≤ _; omega, fun y hy => by cases hy⟩
  · obtain rfl : c2 = .slice (some a) len cap := by simpa using hcs
    simp only [if_true] at hk
    obtain rfl : cap = k := hk.symm
    have hlong := hp2.long h2
    simp only [List.length_map, List.length_range, bq, reachBytes] at hlong
    refine ⟨⟨i.toNat, s, some a, (List.range len).map Sx, cap⟩, by simp [LineM.cells, hi0], ⟨fun hne => ?_, by show i.toNat < 256; omega, by simpa using hlc, by simp; omega⟩, by show s.size ≤ _; omega, fun y hy => by
      obtain ⟨r, hr, rfl⟩ := List.mem_map.1 hy
      have h5 := (hp2.elem h2 (List.mem_map_of_mem hr)).str
      have h6 : (Sx r).data.toList.length = (Sx r).data.size := Array.length_toList
      have h7 : (Sx r).size = (Sx r).data.size := rfl
      unfold reachBytes at h5
      omega⟩
    have hpos : 0 < len := by
      rcases Nat.eq_zero_or_pos len with e0 | e0
      · subst e0; simp [SB] at hne
      · exact e0
    obtain ⟨b, off, spot⟩ := a
    have hspot : spot = none := by simpa [Addr.add] using World.cell?_spot (hcell 0 (by omega)).1
    subst hspot
    have hbW : b < W.heap.size := by
      have := World.block_lt_of_cell? W _ (hcell 0 (by omega)).1
      simpa [Addr.add] using this
    refine ⟨b, off, rfl, hbW, fun j u hu => ?_⟩
    have hj : j < len := by
      have := (List.getElem?_eq_some_iff.1 hu).1
      simpa [SB] using this
    have h1 := (hcell j (by omega)).1
    rw [Mem.add_plain] at h1
    rw [h1, ← hu]
    simp [SB, hj]
theorem in_line {tl : TypeId} {f0 f1 f2 : Field} {q : TypeId} (hl : P.underlying tl = some (.struct #[f0, f1, f2])) (hone : oneCellFields P #[f0, f1, f2] = true) (hC : P.cellsOf tl = 3)
    (h0 : P.underlying f0.type = some (.int .u8)) (h1 : P.underlying f1.type = some .string) (h2 : P.underlying f2.type = some (.slice q)) (hq : P.underlying q = some .string) (cq : P.cellsOf q = 1) (bq : P.bytesOf q = 16)
    {n : Nat} {cs : List Value} {x : DataW H × List MemPlace} (h : DataW.trod enc P W base (fun _ => true) true n tl cs = some x) (hf : Fit P tl x.1) :
    ∃ z : LineM, cs = z.cells ∧ z.Ok W W.heap.size ∧ z.t.size ≤ 140737488355328 ∧ ∀ y ∈ z.m, y.size ≤ 9223372036854775807 := by
  obtain ⟨z, h1, h2, h3, h4⟩ := in_line_s hl hone hC h0 h1 h2 hq cq bq h hf
  exact ⟨z, h1, h2, h3, fun y hy => by have := h4 y hy; omega⟩
/-- an argument that is a card -/
theorem arg_card {t tl : TypeId} {g0 g1 f0 f1 f2 : Field} {q : TypeId} (hs : P.underlying t = some (.struct #[g0, g1])) (hone2 : oneCellFields P #[g0, g1] = true) (hC2 : P.cellsOf t = 2)
    (k0 : P.underlying g0.type = some (.int .u64)) (k1 : P.underlying g1.type = some (.slice tl)) (hl : P.underlying tl = some (.struct #[f0, f1, f2])) (hone : oneCellFields P #[f0, f1, f2] = true) (hC : P.cellsOf tl = 3) (hB : P.bytesOf tl = 48)
    (h0 : P.underlying f0.type = some (.int .u8)) (h1 : P.underlying f1.type = some .string) (h2 : P.underlying f2.type = some (.slice q)) (hq : P.underlying q = some .string) (cq : P.cellsOf q = 1) (bq : P.bytesOf q = 16)
    {v : Value} {d : DataW H} {p : List MemPlace} {tys : List TypeId} {ds : List (DataW H)} {j b0 : Nat}
    (hv : Value.okWide P W .any b0 t v) (h : DataW.Trod enc P W 0 (fun _ => true) true t v d p)
    (hw : (DataW.weightsEach P tys ds).all (· ≤ reachBytes) = true) (hts : tys[j]? = some t) (hds : ds[j]? = some d) :
    ∃ x : CardM, v = x.val ∧ x.Ok W W.heap.size ∧ ∀ z ∈ x.ls, z.t.size ≤ 140737488355328 ∧ ∀ y ∈ z.m, y.size ≤ 9223372036854775807 := by
  obtain ⟨v0, v1, y0, y1, n, rfl, rfl, rfl, t0, t1⟩ := open_agg2 hs hone2 hC2 hv h
  have hfit := fit_of hw hts hds
  have hp1 : Fit P g1.type y1.1 := hfit.part hs (j := 1) rfl rfl
  obtain ⟨i, hi, _, wi⟩ := DataW.trod_int k0 t0
  obtain rfl : v0 = .int .u64 i := by simpa using hi
  have hb0 := bounds_u64 wi
  have hi0 : ((i.toNat : Nat) : Int) = i := by omega
  rcases open_slice k1 t1 with ⟨hcs, _⟩ | ⟨a, len, cap, k, m, D, Pl, hcs, _, hlc, hm, hk, rfl, hx⟩
  · obtain rfl : v1 = .slice none 0 0 := by simpa using hcs
    exact ⟨⟨i.toNat, none, [], 0⟩, by simp [CardM.val, hi0], ⟨by show i.toNat < _; omega, ⟨Rd.nil, fun x hx => by cases hx⟩, Nat.le_refl _, by simp⟩, fun z hz => by cases hz⟩
  · obtain rfl : v1 = .slice (some a) len cap := by simpa using hcs
    simp only [if_true] at hk
    obtain rfl : cap = k := hk.symm
    have hlong := hp1.long k1
    simp only [List.length_map, List.length_range, hB, reachBytes] at hlong
    obtain ⟨Z, hZ⟩ := choose_lt (α := LineM) (n := len) (p := fun r z => (∀ c, c < 3 → W.cell? ((a.add (r * 3)).add c) = z.cells[c]?) ∧ z.Ok W W.heap.size ∧ z.t.size ≤ 140737488355328 ∧ ∀ y ∈ z.m, y.size ≤ 9223372036854775807) (fun r hr => by
      obtain ⟨cs', hc1, hc2⟩ := hx r (by omega)
      rw [hC] at hc1
      obtain ⟨_, _, hcc⟩ := World.cells?_some hc1
      obtain ⟨z, rfl, hz1, hz2⟩ := in_line hl hone hC h0 h1 h2 hq cq bq hc2 (hp1.elem k1 (List.mem_map.2 ⟨r, List.mem_range.2 hr, rfl⟩))
      exact ⟨z, hcc, hz1, hz2⟩)
    refine ⟨⟨i.toNat, some a, (List.range len).map Z, cap⟩, by simp [CardM.val, hi0], ⟨by show i.toNat < _; omega, ⟨fun hne => ?_, fun x hx => ?_⟩, by simpa using hlc, by simp; omega⟩, fun z hz => ?_⟩
    · have hpos : 0 < len := by
        rcases Nat.eq_zero_or_pos len with e0 | e0
        · subst e0; simp [LB] at hne
        · exact e0
      obtain ⟨b, off, spot⟩ := a
      have hc0 : W.cell? (((⟨b, off, spot⟩ : Addr).add (0 * 3)).add 0) = some (.int .u8 ((Z 0).f : Int)) := (hZ 0 hpos).1 0 (by omega)
      have hspot : spot = none := by simpa [Addr.add] using World.cell?_spot hc0
      subst hspot
      have hbW : b < W.heap.size := by
        have := World.block_lt_of_cell? W _ hc0
        simpa [Addr.add] using this
      refine ⟨b, off, rfl, hbW, fun j u hu => ?_⟩
      have hj : j < len * 3 := by
        have := (List.getElem?_eq_some_iff.1 hu).1
        rw [LB_length] at this
        simpa using this
      have hr : j / 3 < len := by omega
      have hm3 : j % 3 < 3 := Nat.mod_lt _ (by decide)
      have hje : j / 3 * 3 + j % 3 = j := by omega
      have h3 := (hZ (j / 3) hr).1 (j % 3) hm3
      rw [Mem.add_plain, Mem.add_plain, Nat.add_assoc, hje] at h3
      have h4 := flat_get LineM.cells 3 (fun _ => rfl) ((List.range len).map Z) (j / 3) (j % 3) (Z (j / 3)) (by simp [hr]) hm3
      rw [hje] at h4
      rw [h3, ← h4]
      exact hu
    · obtain ⟨r, hr, rfl⟩ := List.mem_map.1 hx
      exact (hZ r (List.mem_range.1 hr)).2.1
    · obtain ⟨r, hr, rfl⟩ := List.mem_map.1 hz
      exact (hZ r (List.mem_range.1 hr)).2.2
end
end Go.Proofs.YtfkfpanhbanljaaGreatDoor.Card

/- Two lists of texts compared: the library's slices.Equal, and the reference's own. -/
namespace Go.Proofs.YtfkfpanhbanljaaGreatDoor.Card
open Go.RowKit Go.Proofs.YtfkfpanhbanljaaGreatDoor.Mem

theorem take_lastS (m : List ByteArray) (j : Nat) (h : j < m.length) : m.take (j + 1) = m.take j ++ [m.getD j ByteArray.empty] := by
  rw [List.take_succ_eq_append_getElem h]; simp [List.getD, h]
theorem texts_any (B B' : Nat) (A A' : Option Addr) (n m c c' : Nat) (a b : List ByteArray) (w : World) (hn : n = a.length) (hm : m = b.length) (h1 : Rd w B A (SB a)) (h2 : Rd w B' A' (SB b)) (hsz : a.length ≤ 9223372036854775807) :
    Calls Tryz.prog 15 #[.slice A n c, .slice A' m c'] w fun e w' => e = .returned (.bool (decide (a = b))) ∧ ∃ q, w' = w.drewN q := by
  subst hn hm
  by_cases hl : a.length = b.length
  · have hne : ((a.length : Int) != (b.length : Int)) = false := by simp; omega
    have HL := kept hl
    clear hl
    go_enter Tryz.func15, Tryz.ntmps15
    go_wp2
    go_loopw [5] (fun i wr => ∃ k q : Nat, k ≤ a.length ∧ i = .int .i64 (k : Int) ∧ Kept (a.take k = b.take k) ∧ wr = w.drewN q) (fun i _ => a.length - (intOf i).toNat)
    case atStart => exact ⟨0, 0, Nat.zero_le _, rfl, ⟨rfl⟩, rfl⟩
    case round =>
      obtain ⟨k, q, hk, rfl, ht, rfl⟩ := hrel
      by_cases hlt : k < a.length
      · have hlt2 : k < b.length := by rw [← HL.out]; exact hlt
        obtain ⟨b1, o1, rfl, hb1, hc1⟩ := h1.at_ (SB_get a k hlt)
        obtain ⟨b2, o2, rfl, hb2, hc2⟩ := h2.at_ (SB_get b k hlt2)
        by_cases hxy : a.getD k ByteArray.empty = b.getD k ByteArray.empty
        · have ht2 : Kept (a.take (k + 1) = b.take (k + 1)) := ⟨by rw [take_lastS a k hlt, take_lastS b k hlt2, ht.out, hxy]⟩
          rw [hxy] at hc1
          generalize b.getD k ByteArray.empty = y at *
          clear hxy ht
          go_wp2
          go_quiet (fail)
          go_wp2
          go_roundw
          case rel => exact ⟨k + 1, q + nq, by omega, by go_num, ht2, by simp⟩
          case measure => simp [intOf]; omega
        · have HF : Kept (decide (a = b) = false) := ⟨decide_eq_false (fun e => hxy (by rw [e]))⟩
          have hb : ((a.getD k ByteArray.empty).toList == (b.getD k ByteArray.empty).toList) = false := by rw [str_beq]; exact decide_eq_false hxy
          generalize a.getD k ByteArray.empty = x at *
          generalize b.getD k ByteArray.empty = y at *
          clear hxy ht
          go_wp2
          go_quiet (fail)
          go_wp2
          go_ret
          exact ⟨ret_bool HF.out.symm, q + nq, by simp⟩
      · have HF : Kept (decide (a = b) = true) := ⟨by
          have e1 : a.take k = a := List.take_of_length_le (by omega)
          have e2 : b.take k = b := List.take_of_length_le (by rw [← HL.out]; omega)
          have := ht.out
          rw [e1, e2] at this
          exact decide_eq_true this⟩
        clear ht
        go_wp2
        go_ret
        exact ⟨ret_bool HF.out.symm, q, rfl⟩
  · have hne : ((a.length : Int) != (b.length : Int)) = true := by simp; omega
    have HF : Kept (decide (a = b) = false) := ⟨decide_eq_false (fun e => hl (by rw [e]))⟩
    clear hl
    go_enter Tryz.func15, Tryz.ntmps15
    go_wp2
    go_ret
    exact ⟨ret_bool HF.out.symm, 0, rfl⟩
end Go.Proofs.YtfkfpanhbanljaaGreatDoor.Card

/- Lines and cards compared: the walks of card.sameLine, Same, All, and of the reference. -/
namespace Go.Proofs.YtfkfpanhbanljaaGreatDoor.Card
open Go.RowKit Go.Proofs.YtfkfpanhbanljaaGreatDoor.Mem

theorem below_next {w w1 w2 : World} (h : Below w.heap.size w w1) (h2 : Below w1.heap.size w1 w2) : Below w.heap.size w w2 := h.trans (h2.mono h.size)
theorem below_new {w w1 : World} (h : Below w.heap.size w w1) (o : Obj) : Below w.heap.size w (w1.alloc o) := h.alloc h.size o
theorem line_p {x y : LineM} : x.p = y.p ↔ x.f = y.f ∧ x.t = y.t ∧ x.m = y.m := by
  unfold LineM.p
  simp only [Prod.mk.injEq]
theorem int_beq (a b : Nat) : ((a : Int) == (b : Int)) = decide (a = b) := by
  by_cases h : a = b
  · subst h; simp
  · rw [decide_eq_false h]; exact beq_eq_false_iff_ne.2 (by omega)
theorem take_map {α β : Type} (f : α → β) (l : List α) (k : Nat) (x : α) (h : l[k]? = some x) : (l.take (k + 1)).map f = (l.take k).map f ++ [f x] := by
  obtain ⟨hk, rfl⟩ := List.getElem?_eq_some_iff.1 h
  rw [List.take_succ_eq_append_getElem hk, List.map_append]; rfl
theorem card_p {x y : CardM} : x.p = y.p ↔ x.cid = y.cid ∧ x.ls.map LineM.p = y.ls.map LineM.p := by
  unfold CardM.p
  simp only [Prod.mk.injEq]
end Go.Proofs.YtfkfpanhbanljaaGreatDoor.Card
