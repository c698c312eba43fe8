/-
  PROVED HERE: the statement NetPlaysSaid, of the law epitaph/epitaphlaw36.NetPlays: for every input the call returns true and leaves all that was there as it was. Conditions: none beyond the row's own.
  The walk stands in YtpckfnafcmifpaaNetPlays.
-/
import Derived.Test.YtpckfnafcmifpaaRows
import Derived.WalkKit
import Derived.ProofKit
import Derived.OpenShut
import Derived.ShutString
import Derived.ChangeOld
import Derived.Below
import Derived.SizedLaws
import Derived.Handed
import Derived.KernelRfl
import Derived.Test.YtpckfnafcmifpaaFrame
import Derived.Test.YtpckfnafcmifpaaFrameElem
import Derived.Test.YtpckfnafcmifpaaNetPlays
namespace Go.Proofs.Ytpckfnafcmifpaa.netPlays
open Go.ChangeShapes Go.WideShapes Go.ChangeAt Go.RowKit Go.Proofs.Ytpckfnafcmifpaa.Mem
open Go.ChangeMaps (open_string shut_string)
set_option linter.unusedVariables false

theorem own : ownKnob Try.prog.godebug = none := by kernel_rfl
theorem laidOut : laidOutB Try.prog = true := by kernel_rfl
set_option maxRecDepth 100000 in
theorem lifted (os : Os) (started : os.Started) (H : Type) (enc : TypeId × Value → H) :
    ReturnsInHanded {} Try.checked os 4 .any (Rows.netPlaysSpec.pre6 enc Try.prog Try.f4 Rows.netPlaysRow.domain false) (Rows.netPlaysSpec.post enc Try.prog Try.f4 false true false false) := by
  refine returnsInHanded_of_change_sized (C := Try.checked) own started (by kernel_rfl) Try.func4
    (ChangeSpec.witness6 (enc := enc) (C := Try.checked) false ⟨#[], #[.slice none 0 0], []⟩ 8 (by kernel_rfl) (by kernel_rfl) (by kernel_rfl) (by kernel_rfl)) ?_
  intro W base args ds gs before hval0 hW _ hsz0 _
  have hsz : (DataW.weightsEach Try.prog (Try.f4.params.toList ++ Rows.netPlaysSpec.plain.varTypes Try.prog) (ds ++ gs)).all (· ≤ reachBytes) = true := hsz0
  have hval : ∀ (j : Nat) t v, Try.f4.params[j]? = some t → args[j]? = some v → Value.okWide Try.prog W .any base t v := hval0
  have hW' := hW
  obtain ⟨p, q, hA0, hV, rfl, hfz, hnd⟩ := hW
  have hA : DataW.TrodAll enc Try.prog W 0 (fun _ => true) true Try.f4.params.toList args.toList ds p := hA0
  rw [Try.params4] at hA hval hsz
  obtain ⟨v0, vs0, d0, ds0, p0, q0, hargs, rfl, rfl, h0, r0⟩ := trodAll_cons hA
  obtain ⟨rfl, rfl, rfl⟩ := trodAll_nil r0
  obtain rfl : args = #[v0] := by cases args; simp_all
  obtain ⟨rfl, rfl⟩ := trodVars_none hV
  have hlt : ∀ x ∈ p0 ++ [], x.block < W.heap.size := fun x hx => hW'.lt x (by simpa using hx)
  have k0 := h0
  have lt0 : ∀ x ∈ p0, x.block < W.heap.size := by obtain ⟨m, hm⟩ := k0; exact DataW.trod_lt m _ _ _ hm
  have op0 := Opens.one_slice (enc := enc) (W := W) Net.nactE (b := (fun _ => 1)) Try.underlying49 (by kernel_rfl) (Opens.Some_.iso (fun z : Nat × Int × Int × Nat × Opens.SliceM Nat => (⟨z.1, z.2.1, z.2.2.1, z.2.2.2.1, z.2.2.2.2.A, z.2.2.2.2.l, z.2.2.2.2.c⟩ : Net.ActM)) (fun _ => rfl) (Ok' := Net.ActM.Ok W) (fun z h => h) (fun z => by first | omega | (dsimp only; omega) | simp) (Opens.struct_5 Try.underlying56 (by kernel_rfl) (by kernel_rfl) (Opens.one_u8 Try.underlying5) (Opens.one_i64 Try.underlying3) (Opens.one_i64 Try.underlying3) (Opens.one_u32 Try.underlying53) (Opens.one_bytes Try.underlying54 Try.underlying5 (by kernel_rfl) (by kernel_rfl))))
  obtain ⟨⟨A0, l0, c0⟩, rfl, ⟨hr0, ho0, hle0, hc0⟩, hb0⟩ := op0.arg (j := 0) (Opens.slice_cells Try.underlying49 (hval 0 49 v0 rfl rfl)) h0 hsz rfl rfl
  dsimp only at hr0 ho0 hle0 hc0 hb0
  clear hA0 hval0 hlt
  have fin : Calls Try.prog 4 #[.slice A0 l0.length c0] W fun e W' => e = .returned (.bool true) ∧ Below W.heap.size W W' := by
    have hbo : Try.prog.bytesOf 56 = 56 := by kernel_rfl
    rw [hbo] at hc0
    exact Net.plays_law A0 c0 l0 W hr0 ho0 (by unfold reachBytes at hc0; omega)
  refine fin.mono fun e W' ⟨he, bel⟩ => ?_
  subst he
  exact ⟨_, rfl, _, _, _, [], _, [], hW', trodAll_mk1 (shut_bool Try.underlying4 _), (trodAll_cons_mk (Below.trod laidOut (by kernel_rfl) (of_decide_eq_true (by kernel_rfl)) k0 bel lt0) trodAll_mk0), rfl, bel.frame _, fun h => by cases h⟩

theorem over : Rows.netPlaysRow.holds Try.pinned (OpenSpec.ofChange Rows.netPlaysSpec) :=
  OpenClaim.holds_of_wide 4 Try.f4 rfl rfl rfl rfl rfl rfl rfl ⟨rfl, rfl, rfl, rfl, rfl⟩ rfl rfl rfl rfl rfl (by kernel_rfl) Try.func4 (by kernel_rfl)
    (of_decide_eq_true (by kernel_rfl)) (by unfold Func.isWrapper; first | (rw [if_pos (by decide +kernel)]; kernel_rfl) | (rw [if_neg (by decide +kernel)]; exact ⟨rfl, rfl⟩))
    (fun os started H enc _ => lifted os started H enc)
/-- THE STATEMENT -/
theorem proved : Rows.NetPlaysSaid := over
#print axioms proved
end Go.Proofs.Ytpckfnafcmifpaa.netPlays
