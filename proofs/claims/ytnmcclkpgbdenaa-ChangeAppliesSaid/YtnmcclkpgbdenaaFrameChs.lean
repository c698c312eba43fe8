/- Arguments that are lists of changes, opened. -/
import Derived.Test.YtnmcclkpgbdenaaSet16
import Derived.Test.YtnmcclkpgbdenaaSet14
namespace Go.Proofs.Ytnmcclkpgbdenaa.Opens
open Go.ChangeShapes Go.WideShapes Go.ChangeAt Go.RowKit Go.Deep Go.Joins Go.Proofs.Ytnmcclkpgbdenaa.Mem Go.Proofs.Ytnmcclkpgbdenaa.Card Go.Proofs.Ytnmcclkpgbdenaa.Chg

section
variable {H : Type} {enc : TypeId × Value → H} {W : World}
theorem some_ch : Some_ enc Try.prog W 79 ChM.cells (fun x => x.Ok W W.heap.size ∧ (∀ z ∈ x.card.ls, LTx z) ∧ LTx x.line) (fun _ => 1) :=
  iso2 (struct_any (enc := enc) (W := W) Try.underlying79 (by kernel_rfl) (fs_one (one_u8 Try.underlying5) rfl (by kernel_rfl) (fs_cons (k := 2) (b := fun _ => 1) some_card rfl (by kernel_rfl) (fs_cons (k := 3) (b := fun _ => 1) some_line rfl (by kernel_rfl) (fs_nil _)))))
    (fun z : Nat × CardM × LineM × Unit => (⟨z.1, z.2.1, z.2.2.1⟩ : ChM)) (fun _ => rfl) (fun z h => ⟨⟨h.1, h.2.1.1, h.2.2.1.1⟩, h.2.1.2, h.2.2.1.2⟩) (fun z => by omega)
theorem one_chs : One enc Try.prog W 26 (SliceM.val (α := ChM)) (fun z => chE.Rd W W.heap.size z.A z.l ∧ (∀ x ∈ z.l, x.Ok W W.heap.size ∧ (∀ u ∈ x.card.ls, LTx u) ∧ LTx x.line) ∧ z.l.length ≤ z.c ∧ z.c * Try.prog.bytesOf 79 ≤ reachBytes) (fun z => (z.l.map fun _ => 1).sum + 1) :=
  haveI : Inhabited ChM := ⟨⟨0, ⟨0, none, [], 0⟩, zeroL⟩⟩
  one_slice chE (b := fun _ => 1) Try.underlying26 (by kernel_rfl) some_ch
set_option maxRecDepth 100000 in
theorem arg_chs {v : Value} {d : DataW H} {p : List MemPlace} {ts : List TypeId} {ds : List (DataW H)} {j b0 : Nat} (hv : Value.okWide Try.prog W .any b0 26 v) (h : DataW.Trod enc Try.prog W 0 (fun _ => true) true 26 v d p)
    (hw : (DataW.weightsEach Try.prog ts ds).all (· ≤ reachBytes) = true) (hts : ts[j]? = some 26) (hds : ds[j]? = some d) :
    ∃ A l c, v = .slice A (List.length l) c ∧ RdChs W W.heap.size A l ∧ l.length ≤ c ∧ c ≤ 1599289640402 ∧ ∀ x ∈ l, (∀ u ∈ x.card.ls, LTx u) ∧ LTx x.line := by
  obtain ⟨⟨A, l, c⟩, rfl, ⟨h1, h2, h3, h4⟩, -⟩ := one_chs.arg (slice_cells Try.underlying26 hv) h hw hts hds
  have h5 : Try.prog.bytesOf 79 = 88 := by kernel_rfl
  rw [h5] at h4
  unfold reachBytes at h4
  dsimp only at h1 h2 h3 h4
  exact ⟨A, l, c, rfl, ⟨h1, fun x hx => (h2 x hx).1⟩, h3, by omega, fun x hx => (h2 x hx).2⟩
end
end Go.Proofs.Ytnmcclkpgbdenaa.Opens
