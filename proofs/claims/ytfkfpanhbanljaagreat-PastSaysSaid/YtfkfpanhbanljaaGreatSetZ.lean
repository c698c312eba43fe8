import Derived.Test.YtfkfpanhbanljaaGreatMem
import Derived.ProofKit
import Derived.OpenShut
import Derived.ShutString
import Derived.ChangeOld
import Derived.SizedLaws
import Derived.Test.YtfkfpanhbanljaaGreatSetB
/- Arguments opened: bytes that came in, as a list of numbers below 256. Over any program. -/
namespace Go.Proofs.YtfkfpanhbanljaaGreat.Mem
open Go.ChangeShapes Go.WideShapes Go.ChangeAt Go.RowKit
theorem u8_nat {n : Int} (h : (Lit.int .u8 n).wf = true) : (n.toNat : Int) = n ∧ n.toNat < 256 := by
  have := bounds_u8 h
  omega
theorem arg_bytes {H : Type} {enc : TypeId × Value → H} {P : Program} {W : World} {base : Nat} {t e : TypeId} {v : Value} {d : DataW H} {p : List MemPlace} {ts : List TypeId} {ds : List (DataW H)} {j : Nat}
    (ht : P.underlying t = some (.slice e)) (he : P.underlying e = some (.int .u8)) (hc : P.cellsOf e = 1) (hby : P.bytesOf e = 1)
    (hv : Value.okWide P W .any base t v) (h : DataW.Trod enc P W 0 (fun _ => true) true t v d p) (hlt : ∀ x ∈ p, x.block < W.heap.size)
    (hw : (DataW.weightsEach P ts ds).all (· ≤ reachBytes) = true) (hts : ts[j]? = some t) (hds : ds[j]? = some d) :
    ∃ A l c, v = .slice A l.length c ∧ AllB l ∧ l.length ≤ c ∧ c ≤ 140737488351232 ∧ Rd W W.heap.size A (BB l) := by
  obtain ⟨a0, len, cap, rfl⟩ := okWide_slice ht hv
  obtain ⟨fuel, hf⟩ := h
  rcases open_ints ht he hc hf with ⟨hcs, _⟩ | ⟨x, l, c, zs, hcs, _, hl, hm, hz, hx, hcell, hwz⟩
  · simp [Value.cells] at hcs
    obtain ⟨rfl, rfl, rfl⟩ := hcs
    exact ⟨none, [], 0, rfl, (fun x hx => by cases hx), Nat.le_refl _, by omega, Rd.nil⟩
  · simp [Value.cells] at hcs
    obtain ⟨rfl, rfl, rfl⟩ := hcs
    simp only [Prod.mk.injEq] at hx
    obtain ⟨rfl, rfl⟩ := hx
    simp only [if_true] at hz
    have hreach := sized_slice hw hts hds ht
    rw [hby] at hreach
    simp only [lits, List.length_map, List.length_take, List.length_drop, reachBytes] at hreach
    have hal : AllB ((zs.take len).map Int.toNat) := by
      intro y hy
      simp only [List.mem_map] at hy
      obtain ⟨n, hn, rfl⟩ := hy
      exact (u8_nat (hwz n (List.mem_of_mem_take hn))).2
    have hll : ((zs.take len).map Int.toNat).length = len := by rw [List.length_map, List.length_take]; omega
    refine ⟨some x, (zs.take len).map Int.toNat, cap, by rw [hll], hal, by rw [hll]; exact hl, by omega, fun hne => ?_⟩
    have hpos : 0 < len := by
      rcases Nat.eq_zero_or_pos len with e0 | e0
      · subst e0; simp [BB] at hne
      · exact e0
    obtain ⟨b, off, spot⟩ := x
    have hspot : spot = none := by simpa [Addr.add] using World.cell?_spot (hcell 0 (by omega))
    subst hspot
    have hbW : b < W.heap.size := hlt (.cell b off) (MemPlace.mem_row.2 ⟨0, by omega, by simp⟩)
    refine ⟨b, off, rfl, hbW, fun i u hu => ?_⟩
    have hi : i < len := by
      have := (List.getElem?_eq_some_iff.1 hu).1
      rw [BB_length, hll] at this
      exact this
    have h1 := hcell i (by omega)
    rw [add_plain] at h1
    rw [h1]
    have hzi : zs[i]? = some (zs[i]'(by omega)) := List.getElem?_eq_getElem (by omega)
    have hn := u8_nat (hwz (zs[i]'(by omega)) (List.getElem_mem _))
    rw [← hu]
    simp only [BB, List.getElem?_map, List.getElem?_take, if_pos hi, hzi, List.getD, Option.getD_some, Option.map_some]
    rw [hn.1]
end Go.Proofs.YtfkfpanhbanljaaGreat.Mem

/- Arguments opened: whole numbers that came in as a slice, as a list; words of 64 bits; ints. Over any program. -/
namespace Go.Proofs.YtfkfpanhbanljaaGreat.Mem
open Go.ChangeShapes Go.WideShapes Go.ChangeAt Go.RowKit
theorem arg_nums {H : Type} {enc : TypeId × Value → H} {P : Program} {W : World} {base : Nat} {t e : TypeId} {v : Value} {d : DataW H} {p : List MemPlace} {ts : List TypeId} {ds : List (DataW H)} {j : Nat} {ik : IntKind}
    (ht : P.underlying t = some (.slice e)) (he : P.underlying e = some (.int ik)) (hc : P.cellsOf e = 1) (hby : P.bytesOf e = 8)
    (hv : Value.okWide P W .any base t v) (h : DataW.Trod enc P W 0 (fun _ => true) true t v d p) (hlt : ∀ x ∈ p, x.block < W.heap.size)
    (hw : (DataW.weightsEach P ts ds).all (· ≤ reachBytes) = true) (hts : ts[j]? = some t) (hds : ds[j]? = some d) :
    ∃ (A : Option Addr) (l : List Int) (c : Nat), v = .slice A l.length c ∧ (∀ x ∈ l, (Lit.int ik x).wf = true) ∧ l.length ≤ c ∧ c ≤ 17592186043904 ∧ Rd W W.heap.size A (l.map fun x : Int => Value.int ik x) := by
  obtain ⟨a0, len, cap, rfl⟩ := okWide_slice ht hv
  obtain ⟨fuel, hf⟩ := h
  rcases open_ints ht he hc hf with ⟨hcs, _⟩ | ⟨x, l, c, zs, hcs, _, hl, hm, hz, hx, hcell, hwz⟩
  · simp [Value.cells] at hcs
    obtain ⟨rfl, rfl, rfl⟩ := hcs
    exact ⟨none, [], 0, rfl, (fun x hx => by cases hx), Nat.le_refl _, by omega, Rd.nil⟩
  · simp [Value.cells] at hcs
    obtain ⟨rfl, rfl, rfl⟩ := hcs
    simp only [Prod.mk.injEq] at hx
    obtain ⟨rfl, rfl⟩ := hx
    simp only [if_true] at hz
    have hreach := sized_slice hw hts hds ht
    rw [hby] at hreach
    simp only [lits, List.length_map, List.length_take, List.length_drop, reachBytes] at hreach
    have hll : (zs.take len).length = len := by rw [List.length_take]; omega
    refine ⟨some x, zs.take len, cap, by rw [hll], fun n hn => hwz n (List.mem_of_mem_take hn), by rw [hll]; exact hl, by omega, fun hne => ?_⟩
    have hpos : 0 < len := by
      rcases Nat.eq_zero_or_pos len with e0 | e0
      · subst e0; simp at hne
      · exact e0
    obtain ⟨b, off, spot⟩ := x
    have hspot : spot = none := by simpa [Addr.add] using World.cell?_spot (hcell 0 (by omega))
    subst hspot
    have hbW : b < W.heap.size := hlt (.cell b off) (MemPlace.mem_row.2 ⟨0, by omega, by simp⟩)
    refine ⟨b, off, rfl, hbW, fun i u hu => ?_⟩
    have hi : i < len := by
      have := (List.getElem?_eq_some_iff.1 hu).1
      rw [List.length_map, hll] at this
      exact this
    have h1 := hcell i (by omega)
    rw [add_plain] at h1
    rw [h1]
    have hzi : zs[i]? = some (zs[i]'(by omega)) := List.getElem?_eq_getElem (by omega)
    rw [← hu]
    simp only [List.getElem?_map, List.getElem?_take, if_pos hi, hzi, List.getD, Option.getD_some, Option.map_some]
def AllW64 (m : List Nat) : Prop := ∀ x ∈ m, x < 18446744073709551616
theorem nums_words {W : World} {B : Nat} {A : Option Addr} {l : List Int} (hl : ∀ x ∈ l, (Lit.int .u64 x).wf = true) (hr : Rd W B A (l.map fun x : Int => Value.int .u64 x)) :
    ∃ m : List Nat, m.length = l.length ∧ AllW64 m ∧ Rd W B A (WB m) := by
  have hb : ∀ x ∈ l, (x.toNat : Int) = x ∧ x.toNat < 18446744073709551616 := fun x hx => by
    have := bounds_u64 (hl x hx)
    omega
  refine ⟨l.map Int.toNat, by simp, fun y hy => ?_, ?_⟩
  · simp only [List.mem_map] at hy
    obtain ⟨x, hx, rfl⟩ := hy
    exact (hb x hx).2
  · have e : WB (l.map Int.toNat) = l.map fun x : Int => Value.int .u64 x := by
      unfold WB
      rw [List.map_map]
      refine List.map_congr_left fun x hx => ?_
      simp only [Function.comp, (hb x hx).1]
    rw [e]
    exact hr
theorem arg_words {H : Type} {enc : TypeId × Value → H} {P : Program} {W : World} {base : Nat} {t e : TypeId} {v : Value} {d : DataW H} {p : List MemPlace} {ts : List TypeId} {ds : List (DataW H)} {j : Nat}
    (ht : P.underlying t = some (.slice e)) (he : P.underlying e = some (.int .u64)) (hc : P.cellsOf e = 1) (hby : P.bytesOf e = 8)
    (hv : Value.okWide P W .any base t v) (h : DataW.Trod enc P W 0 (fun _ => true) true t v d p) (hlt : ∀ x ∈ p, x.block < W.heap.size)
    (hw : (DataW.weightsEach P ts ds).all (· ≤ reachBytes) = true) (hts : ts[j]? = some t) (hds : ds[j]? = some d) :
    ∃ (A : Option Addr) (m : List Nat) (c : Nat), v = .slice A m.length c ∧ AllW64 m ∧ m.length ≤ c ∧ c ≤ 17592186043904 ∧ Rd W W.heap.size A (WB m) := by
  obtain ⟨A, l, c, h1, h2, h3, h4, h5⟩ := arg_nums ht he hc hby hv h hlt hw hts hds
  obtain ⟨m, hm, hm2, hm3⟩ := nums_words h2 h5
  exact ⟨A, m, c, by rw [hm]; exact h1, hm2, by omega, h4, hm3⟩
theorem nums_ints {l : List Int} (hl : ∀ x ∈ l, (Lit.int .i64 x).wf = true) : ∀ x ∈ l, -9223372036854775808 ≤ x ∧ x ≤ 9223372036854775807 := fun x hx => by
  have := bounds_i64 (hl x hx)
  omega
end Go.Proofs.YtfkfpanhbanljaaGreat.Mem
