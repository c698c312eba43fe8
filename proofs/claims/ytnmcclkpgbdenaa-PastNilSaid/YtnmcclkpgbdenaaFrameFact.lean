/- An argument that is a fact to be added, opened. -/
import Derived.Test.YtnmcclkpgbdenaaFrameAny
import Derived.Test.YtnmcclkpgbdenaaPastNil
namespace Go.Proofs.Ytnmcclkpgbdenaa.Opens
open Go.ChangeShapes Go.WideShapes Go.ChangeAt Go.RowKit Go.Deep Go.Joins Go.Proofs.Ytnmcclkpgbdenaa.Mem Go.Proofs.Ytnmcclkpgbdenaa.Past

section
variable {H : Type} {enc : TypeId × Value → H} {P : Program} {W : World}
/-- an argument that is a struct -/
theorem Some_.argS {t : TypeId} {fs : Array Field} {α : Type} {g : α → List Value} {Ok : α → Prop} {b : α → Nat} (ho : Some_ enc P W t g Ok b) (ht : P.underlying t = some (.struct fs)) {v : Value} {d : DataW H} {p : List MemPlace} {ts : List TypeId} {ds : List (DataW H)} {j b0 : Nat}
    (hv : Value.okWide P W .any b0 t v) (h : DataW.Trod enc P W 0 (fun _ => true) true t v d p) (hw : (DataW.weightsEach P ts ds).all (· ≤ reachBytes) = true) (hts : ts[j]? = some t) (hds : ds[j]? = some d) : ∃ z, v = .agg (g z).toArray ∧ Ok z := by
  obtain ⟨cs, rfl, -⟩ := okWide_struct ht hv
  obtain ⟨n, hn⟩ := h
  obtain ⟨z, h1, h2, -⟩ := ho n cs.toList (d, p) (by simpa [Value.cells] using hn) (fit_of hw hts hds)
  exact ⟨z, by rw [← h1], h2⟩
end
section
variable {H : Type} {enc : TypeId × Value → H} {W : World}
theorem some_fact : Some_ enc Try.prog W 62 FactM.cells (fun _ => True) (fun _ => 1) :=
  iso2 (struct_any (enc := enc) (W := W) Try.underlying62 (by kernel_rfl) (fs_cons (k := 7)
    (struct_any Try.underlying59 (by kernel_rfl) (fs_cons (k := 2)
      (struct_any Try.underlying46 (by kernel_rfl) (fs_one (one_u16 Try.underlying44) rfl (by kernel_rfl) (fs_one (one_u64 Try.underlying35) rfl (by kernel_rfl) (fs_nil _)))) rfl (by kernel_rfl)
      (fs_one (one_u8 Try.underlying5) rfl (by kernel_rfl) (fs_one (one_u64 Try.underlying35) rfl (by kernel_rfl) (fs_one (one_u8 Try.underlying5) rfl (by kernel_rfl) (fs_one (one_string Try.underlying9) rfl (by kernel_rfl) (fs_one (one_raw Try.underlying57) rfl (by kernel_rfl) (fs_nil _)))))))) rfl (by kernel_rfl)
    (fs_one (one_words Try.underlying60 Try.underlying35 (by kernel_rfl)) rfl (by kernel_rfl) (fs_nil _))))
    (fun z : ((Nat × Nat × Unit) × Nat × Nat × Nat × ByteArray × (Option Addr × Nat × Nat) × Unit) × SliceM Nat × Unit => (⟨⟨z.1.1.1, z.1.1.2.1, z.1.2.1, z.1.2.2.1, z.1.2.2.2.1, z.1.2.2.2.2.1, z.1.2.2.2.2.2.1.1, z.1.2.2.2.2.2.1.2.1, z.1.2.2.2.2.2.1.2.2⟩, z.2.1.A, z.2.1.l, z.2.1.c⟩ : FactM)) (fun _ => rfl) (fun _ _ => trivial) (fun z => by omega)
set_option maxRecDepth 100000 in
theorem arg_fact {v : Value} {d : DataW H} {p : List MemPlace} {ts : List TypeId} {ds : List (DataW H)} {j b0 : Nat} (hv : Value.okWide Try.prog W .any b0 62 v) (h : DataW.Trod enc Try.prog W 0 (fun _ => true) true 62 v d p)
    (hw : (DataW.weightsEach Try.prog ts ds).all (· ≤ reachBytes) = true) (hts : ts[j]? = some 62) (hds : ds[j]? = some d) : ∃ z : FactM, v = z.val := by
  obtain ⟨z, rfl, -⟩ := some_fact.argS Try.underlying62 hv h hw hts hds
  exact ⟨z, rfl⟩
end
end Go.Proofs.Ytnmcclkpgbdenaa.Opens
