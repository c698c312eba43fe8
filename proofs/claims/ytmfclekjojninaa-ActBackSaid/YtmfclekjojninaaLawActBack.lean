/-
  PROVED HERE: the statement ActBackSaid, of the law epitaph/epitaphlaw37.ActBack: for every input the call returns true and leaves all that was there as it was. Conditions: none beyond the row's own.
  The walk stands in YtmfclekjojninaaActLaws.
-/
import Derived.Test.YtmfclekjojninaaRows
import Derived.WalkKit
import Derived.ProofKit
import Derived.OpenShut
import Derived.ShutString
import Derived.ChangeOld
import Derived.Below
import Derived.SizedLaws
import Derived.Handed
import Derived.KernelRfl
import Derived.Test.YtmfclekjojninaaFrame
import Derived.Test.YtmfclekjojninaaFrameElem
import Derived.Test.YtmfclekjojninaaActLaws
namespace Go.Proofs.Ytmfclekjojninaa.actBack
open Go.ChangeShapes Go.WideShapes Go.ChangeAt Go.RowKit Go.Proofs.Ytmfclekjojninaa.Mem
open Go.ChangeMaps (open_string shut_string)
set_option linter.unusedVariables false

theorem own : ownKnob Try.prog.godebug = none := by kernel_rfl
theorem laidOut : laidOutB Try.prog = true := by kernel_rfl
set_option maxRecDepth 100000 in
theorem lifted (os : Os) (started : os.Started) (H : Type) (enc : TypeId × Value → H) :
    ReturnsInHanded {} Try.checked os 8 .any (Rows.actBackSpec.pre6 enc Try.prog Try.f8 Rows.actBackRow.domain false) (Rows.actBackSpec.post enc Try.prog Try.f8 false true false false) := by
  refine returnsInHanded_of_change_sized (C := Try.checked) own started (by kernel_rfl) Try.func8
    (ChangeSpec.witness6 (enc := enc) (C := Try.checked) false ⟨#[], #[.slice none 0 0, .slice none 0 0], []⟩ 8 (by kernel_rfl) (by kernel_rfl) (by kernel_rfl) (by kernel_rfl)) ?_
  intro W base args ds gs before hval0 hW _ hsz0 _
  have hsz : (DataW.weightsEach Try.prog (Try.f8.params.toList ++ Rows.actBackSpec.plain.varTypes Try.prog) (ds ++ gs)).all (· ≤ reachBytes) = true := hsz0
  have hval : ∀ (j : Nat) t v, Try.f8.params[j]? = some t → args[j]? = some v → Value.okWide Try.prog W .any base t v := hval0
  have hW' := hW
  obtain ⟨p, q, hA0, hV, rfl, hfz, hnd⟩ := hW
  have hA : DataW.TrodAll enc Try.prog W 0 (fun _ => true) true Try.f8.params.toList args.toList ds p := hA0
  rw [Try.params8] at hA hval hsz
  obtain ⟨v0, vs0, d0, ds0, p0, q0, hargs, rfl, rfl, h0, r0⟩ := trodAll_cons hA
  obtain ⟨v1, vs1, d1, ds1, p1, q1, rfl, rfl, rfl, h1, r1⟩ := trodAll_cons r0
  obtain ⟨rfl, rfl, rfl⟩ := trodAll_nil r1
  obtain rfl : args = #[v0, v1] := by cases args; simp_all
  obtain ⟨rfl, rfl⟩ := trodVars_none hV
  have hlt : ∀ x ∈ p0 ++ (p1 ++ []), x.block < W.heap.size := fun x hx => hW'.lt x (by simpa using hx)
  have k0 := h0
  have lt0 : ∀ x ∈ p0, x.block < W.heap.size := by obtain ⟨m, hm⟩ := k0; exact DataW.trod_lt m _ _ _ hm
  have op0 := Opens.one_slice (enc := enc) (W := W) Act.actE (b := (fun _ => 1)) Try.underlying58 (by kernel_rfl) (Opens.Some_.iso (fun z : Nat × Nat × Nat × Nat × ByteArray × Int × Int × Nat => (⟨z.1, z.2.1, z.2.2.1, z.2.2.2.1, z.2.2.2.2.1, z.2.2.2.2.2.1, z.2.2.2.2.2.2.1, z.2.2.2.2.2.2.2⟩ : Act.ActM)) (fun _ => rfl) (Ok' := (fun _ => Act.ActM.Ok) W) (fun z h => h) (fun z => by first | omega | (dsimp only; omega) | simp) (Opens.struct_8 Try.underlying62 (by kernel_rfl) (by kernel_rfl) (Opens.one_u8 Try.underlying5) (Opens.one_u8 Try.underlying5) (Opens.one_u64 Try.underlying60) (Opens.one_u8 Try.underlying5) (Opens.one_string Try.underlying9) (Opens.one_i64 Try.underlying3) (Opens.one_i64 Try.underlying3) (Opens.one_u32 Try.underlying27)))
  obtain ⟨⟨A0, l0, c0⟩, rfl, ⟨hr0, ho0, hle0, hc0⟩, hb0⟩ := op0.arg (j := 0) (Opens.slice_cells Try.underlying58 (hval 0 58 v0 rfl rfl)) h0 hsz rfl rfl
  dsimp only at hr0 ho0 hle0 hc0 hb0
  have k1 := h1
  have lt1 : ∀ x ∈ p1, x.block < W.heap.size := by obtain ⟨m, hm⟩ := k1; exact DataW.trod_lt m _ _ _ hm
  obtain ⟨A1, l1, c1, rfl, hl1, hle1, hc1, hr1⟩ := arg_bytes (j := 1) Try.underlying28 Try.underlying5 (by kernel_rfl) (by kernel_rfl) (hval 1 28 v1 rfl rfl) h1 lt1 hsz rfl rfl
  clear hA0 hval0 hlt
  have fin : Calls Try.prog 8 #[.slice A0 l0.length c0, .slice A1 l1.length c1] W fun e W' => e = .returned (.bool true) ∧ Below W.heap.size W W' := by
    have hb0 : Try.prog.bytesOf 62 = 64 := by kernel_rfl
    rw [hb0] at hc0
    exact Act.back_law A0 A1 c0 c1 l0 l1 W hr0 ho0 (by unfold reachBytes at hc0; omega) hl1 hr1 hle1 hc1
  refine fin.mono fun e W' ⟨he, bel⟩ => ?_
  subst he
  exact ⟨_, rfl, _, _, _, [], _, [], hW', trodAll_mk1 (shut_bool Try.underlying4 _), (trodAll_cons_mk (Below.trod laidOut (by kernel_rfl) (of_decide_eq_true (by kernel_rfl)) k0 bel lt0) (trodAll_cons_mk (Below.trod laidOut (by kernel_rfl) (of_decide_eq_true (by kernel_rfl)) k1 bel lt1) trodAll_mk0)), rfl, bel.frame _, fun h => by cases h⟩

theorem over : Rows.actBackRow.holds Try.pinned (OpenSpec.ofChange Rows.actBackSpec) :=
  OpenClaim.holds_of_wide 8 Try.f8 rfl rfl rfl rfl rfl rfl rfl ⟨rfl, rfl, rfl, rfl, rfl⟩ rfl rfl rfl rfl rfl (by kernel_rfl) Try.func8 (by kernel_rfl)
    (of_decide_eq_true (by kernel_rfl)) (by unfold Func.isWrapper; first | (rw [if_pos (by decide +kernel)]; kernel_rfl) | (rw [if_neg (by decide +kernel)]; exact ⟨rfl, rfl⟩))
    (fun os started H enc _ => lifted os started H enc)
/-- THE STATEMENT -/
theorem proved : Rows.ActBackSaid := over
#print axioms proved
end Go.Proofs.Ytmfclekjojninaa.actBack
