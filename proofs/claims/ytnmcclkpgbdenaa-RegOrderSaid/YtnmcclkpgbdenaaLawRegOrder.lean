/-
  PROVED HERE: the statement RegOrderSaid, of the law epitaph/epitaphlaw14.RegOrder: for every input the call returns true and leaves all that was there as it was. Conditions: none beyond the row's own.
  The walk stands in YtnmcclkpgbdenaaRegOrd.
-/
import Derived.Test.YtnmcclkpgbdenaaRows
import Derived.WalkKit
import Derived.ProofKit
import Derived.OpenShut
import Derived.ShutString
import Derived.ChangeOld
import Derived.Below
import Derived.SizedLaws
import Derived.Handed
import Derived.KernelRfl
import Derived.Test.YtnmcclkpgbdenaaFrame
import Derived.Test.YtnmcclkpgbdenaaFrameElem
import Derived.Test.YtnmcclkpgbdenaaFrameAny
import Derived.Test.YtnmcclkpgbdenaaRegOrd
namespace Go.Proofs.Ytnmcclkpgbdenaa.regOrder
open Go.ChangeShapes Go.WideShapes Go.ChangeAt Go.RowKit Go.Proofs.Ytnmcclkpgbdenaa.Mem
open Go.ChangeMaps (open_string shut_string)
set_option linter.unusedVariables false

theorem own : ownKnob Try.prog.godebug = none := by kernel_rfl
theorem laidOut : laidOutB Try.prog = true := by kernel_rfl
set_option maxRecDepth 100000 in
theorem lifted (os : Os) (started : os.Started) (H : Type) (enc : TypeId × Value → H) :
    ReturnsInHanded {} Try.checked os 6 .any (Rows.regOrderSpec.pre6 enc Try.prog Try.f6 Rows.regOrderRow.domain false) (Rows.regOrderSpec.post enc Try.prog Try.f6 false true false false) := by
  refine returnsInHanded_of_change_sized (C := Try.checked) own started (by kernel_rfl) Try.func6
    (ChangeSpec.witness6 (enc := enc) (C := Try.checked) false ⟨#[], #[.int .u8 0, .slice none 0 0, .int .u8 0], []⟩ 8 (by kernel_rfl) (by kernel_rfl) (by kernel_rfl) (by kernel_rfl)) ?_
  intro W base args ds gs before hval0 hW _ hsz0 _
  have hsz : (DataW.weightsEach Try.prog (Try.f6.params.toList ++ Rows.regOrderSpec.plain.varTypes Try.prog) (ds ++ gs)).all (· ≤ reachBytes) = true := hsz0
  have hval : ∀ (j : Nat) t v, Try.f6.params[j]? = some t → args[j]? = some v → Value.okWide Try.prog W .any base t v := hval0
  have hW' := hW
  obtain ⟨p, q, hA0, hV, rfl, hfz, hnd⟩ := hW
  have hA : DataW.TrodAll enc Try.prog W 0 (fun _ => true) true Try.f6.params.toList args.toList ds p := hA0
  rw [Try.params6] at hA hval hsz
  obtain ⟨v0, vs0, d0, ds0, p0, q0, hargs, rfl, rfl, h0, r0⟩ := trodAll_cons hA
  obtain ⟨v1, vs1, d1, ds1, p1, q1, rfl, rfl, rfl, h1, r1⟩ := trodAll_cons r0
  obtain ⟨v2, vs2, d2, ds2, p2, q2, rfl, rfl, rfl, h2, r2⟩ := trodAll_cons r1
  obtain ⟨rfl, rfl, rfl⟩ := trodAll_nil r2
  obtain rfl : args = #[v0, v1, v2] := by cases args; simp_all
  obtain ⟨rfl, rfl⟩ := trodVars_none hV
  have hlt : ∀ x ∈ p0 ++ (p1 ++ (p2 ++ [])), x.block < W.heap.size := fun x hx => hW'.lt x (by simpa using hx)
  obtain ⟨a0, rfl, rfl, rfl, w0⟩ := open_int Try.underlying5 (hval 0 5 v0 rfl rfl) h0
  have k1 := h1
  have lt1 : ∀ x ∈ p1, x.block < W.heap.size := by obtain ⟨m, hm⟩ := k1; exact DataW.trod_lt m _ _ _ hm
  have sm1 := Opens.struct_any (enc := enc) (W := W) Try.underlying48 (by kernel_rfl) (Opens.fs_cons (k := 2) (Opens.struct_any Try.underlying46 (by kernel_rfl) (Opens.fs_one (Opens.one_u16 Try.underlying44) rfl (by kernel_rfl) (Opens.fs_one (Opens.one_u64 Try.underlying35) rfl (by kernel_rfl) (Opens.fs_nil _)))) rfl (by kernel_rfl) (Opens.fs_one (Opens.one_string Try.underlying9) rfl (by kernel_rfl) (Opens.fs_nil _)))
  have op1 := Opens.one_slice (enc := enc) (W := W) Reg.valE (b := (fun _ => 1)) Try.underlying43 (by kernel_rfl) (Opens.iso2 sm1 (fun z : (Nat × Nat × Unit) × ByteArray × Unit => (⟨z.1.1, z.1.2.1, z.2.1⟩ : Reg.ValM)) (fun _ => rfl) (Ok' := (fun _ _ => True) W) (fun z h => trivial) (fun z => by first | omega | (dsimp only; omega) | simp))
  obtain ⟨⟨A1, l1, c1⟩, rfl, ⟨hr1, ho1, hle1, hc1⟩, hb1⟩ := op1.arg (j := 1) (Opens.slice_cells Try.underlying43 (hval 1 43 v1 rfl rfl)) h1 hsz rfl rfl
  dsimp only at hr1 ho1 hle1 hc1 hb1
  obtain ⟨a2, rfl, rfl, rfl, w2⟩ := open_int Try.underlying5 (hval 2 5 v2 rfl rfl) h2
  clear hA0 hval0 hlt
  have fin : Calls Try.prog 6 #[.int .u8 a0, .slice A1 l1.length c1, .int .u8 a2] W fun e W' => e = .returned (.bool true) ∧ Below W.heap.size W W' := by
    have hu0 := bounds_u8 w0
    have hu2 := bounds_u8 w2
    obtain ⟨n, rfl⟩ : ∃ f : Nat, (f : Int) = a0 := ⟨a0.toNat, by omega⟩
    obtain ⟨m, rfl⟩ : ∃ f : Nat, (f : Int) = a2 := ⟨a2.toNat, by omega⟩
    exact Reg.order_law n m A1 l1 c1 W (by omega) (by omega) hr1
  refine fin.mono fun e W' ⟨he, bel⟩ => ?_
  subst he
  exact ⟨_, rfl, _, _, _, [], _, [], hW', trodAll_mk1 (shut_bool Try.underlying4 _), (trodAll_cons_mk (shut_int Try.underlying5 w0) (trodAll_cons_mk (Below.trod laidOut (by kernel_rfl) (of_decide_eq_true (by kernel_rfl)) k1 bel lt1) (trodAll_cons_mk (shut_int Try.underlying5 w2) trodAll_mk0))), rfl, bel.frame _, fun h => by cases h⟩

theorem over : Rows.regOrderRow.holds Try.pinned (OpenSpec.ofChange Rows.regOrderSpec) :=
  OpenClaim.holds_of_wide 6 Try.f6 rfl rfl rfl rfl rfl rfl rfl ⟨rfl, rfl, rfl, rfl, rfl⟩ rfl rfl rfl rfl rfl (by kernel_rfl) Try.func6 (by kernel_rfl)
    (of_decide_eq_true (by kernel_rfl)) (by unfold Func.isWrapper; first | (rw [if_pos (by decide +kernel)]; kernel_rfl) | (rw [if_neg (by decide +kernel)]; exact ⟨rfl, rfl⟩))
    (fun os started H enc _ => lifted os started H enc)
/-- THE STATEMENT -/
theorem proved : Rows.RegOrderSaid := over
#print axioms proved
end Go.Proofs.Ytnmcclkpgbdenaa.regOrder
