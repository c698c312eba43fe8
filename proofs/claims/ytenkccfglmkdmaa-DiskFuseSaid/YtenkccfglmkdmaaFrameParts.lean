/- An argument that is a slice of byte slices, opened. -/
import Derived.Test.YtenkccfglmkdmaaFrame
import Derived.Test.YtenkccfglmkdmaaCrcOf
import Derived.Deep.Matrix
namespace Go.Proofs.Ytenkccfglmkdmaa.Crc
open Go.ChangeShapes Go.WideShapes Go.ChangeAt Go.RowKit Go.Deep Go.Proofs.Ytenkccfglmkdmaa.Mem

theorem plain_spot {w : World} {a : Addr} {i : Nat} {v : Value} (h : w.cell? (a.add i) = some v) (h0 : i = 0) : a = ⟨a.block, a.off, none⟩ := by
  subst h0
  obtain ⟨b, o, s⟩ := a
  have : s = none := by simpa [Addr.add] using World.cell?_spot h
  subst this
  rfl
theorem arg_parts {H : Type} {enc : TypeId × Value → H} {P : Program} {W : World} {base : Nat} {t e q : TypeId} {v : Value} {d : DataW H} {p : List MemPlace}
    (ht : P.underlying t = some (.slice e)) (he : P.underlying e = some (.slice q)) (hq : P.underlying q = some (.int .u8)) (ce : P.cellsOf e = 1) (cq : P.cellsOf q = 1)
    (hv : Value.okWide P W .any base t v) (h : DataW.Trod enc P W 0 (fun _ => true) true t v d p) :
    ∃ X ps c, v = .slice X (List.length ps) c ∧ ps.length ≤ 9223372036854775807 ∧ ps.length ≤ c ∧ RdParts W W.heap.size X ps := by
  obtain ⟨a0, len, cap, rfl⟩ := okWide_slice ht hv
  obtain ⟨fuel, hf⟩ := h
  rcases open_int_rows ht he hq ce cq hf with ⟨hcs, _⟩ | ⟨a, len', cap', A, L, C, Z, hcs, _, hl, hm, _, hrow⟩
  · simp [Value.cells] at hcs
    obtain ⟨rfl, rfl, rfl⟩ := hcs
    exact ⟨none, [], 0, rfl, by simp, Nat.le_refl _, Rd.nil, fun p hp => (by cases hp)⟩
  · simp [Value.cells] at hcs
    obtain ⟨rfl, rfl, rfl⟩ := hcs
    have hmm : cap ≤ 9223372036854775807 := by simpa [maxLen] using hm
    have hlr : ∀ r, r < len → (((Z r).take (L r)).map Int.toNat).length = L r := fun r hr => by
      obtain ⟨_, h2, _, h4, _⟩ := hrow r (by omega)
      rw [List.length_map, List.length_take]; omega
    refine ⟨some a, (List.range len).map fun r => ⟨A r, ((Z r).take (L r)).map Int.toNat, C r⟩, cap, by simp, by simp; omega, by simp; omega, fun hne => ?_, fun p hp => ?_⟩
    · have hpos : 0 < len := by
        rcases Nat.eq_zero_or_pos len with e0 | e0
        · subst e0; simp at hne
        · exact e0
      have ha := plain_spot (hrow 0 (by omega)).1 rfl
      refine ⟨a.block, a.off, congrArg some ha, ?_, fun j u hu => ?_⟩
      · have h1 := (hrow 0 (by omega)).1
        have := World.block_lt_of_cell? W _ h1
        simpa [Addr.add] using this
      · have hj : j < len := by
          have := (List.getElem?_eq_some_iff.1 hu).1
          simpa using this
        have h1 := (hrow j (by omega)).1
        rw [ha, Mem.add_plain] at h1
        rw [h1, ← hu]
        simp only [List.getElem?_map, List.getElem?_range hj, Option.map_some, Part.val]
        rw [hlr j hj]
    · simp only [List.mem_map, List.mem_range] at hp
      obtain ⟨r, hr, rfl⟩ := hp
      obtain ⟨_, h2, h3, h4, h5, _, h7⟩ := hrow r (by omega)
      have h3' : C r ≤ 9223372036854775807 := by simpa [maxLen] using h3
      have hal : AllB (((Z r).take (L r)).map Int.toNat) := by
        intro y hy
        simp only [List.mem_map] at hy
        obtain ⟨n, hn, rfl⟩ := hy
        exact (u8_nat (h5 n (List.mem_of_mem_take hn))).2
      refine ⟨fun hne => ?_, hal, by rw [hlr r hr]; omega⟩
      have hpos : 0 < L r := by
        rcases Nat.eq_zero_or_pos (L r) with e0 | e0
        · exfalso; apply hne; simp [BB, e0]
        · exact e0
      cases hA : A r with
      | none => have := (hrow r (by omega)).2.2.2.2.2.1 hA; omega
      | some a' =>
        have hc := (h7 a' hA).2
        have ha := plain_spot (hc 0 (by omega)) rfl
        refine ⟨a'.block, a'.off, congrArg some ha, ?_, fun i u hu => ?_⟩
        · have := World.block_lt_of_cell? W _ (hc 0 (by omega))
          simpa [Addr.add] using this
        · have hi : i < L r := by
            have := (List.getElem?_eq_some_iff.1 hu).1
            rw [BB_length, hlr r hr] at this
            exact this
          have h1 := hc i (by omega)
          rw [ha, Mem.add_plain] at h1
          rw [h1]
          have hzi : (Z r)[i]? = some ((Z r)[i]'(by omega)) := List.getElem?_eq_getElem (by omega)
          have hn := u8_nat (h5 ((Z r)[i]'(by omega)) (List.getElem_mem _))
          rw [← hu]
          simp only [BB, List.getElem?_map, List.getElem?_take, if_pos hi, hzi, List.getD, Option.getD_some, Option.map_some]
          rw [hn.1]
end Go.Proofs.Ytenkccfglmkdmaa.Crc
