/-
  PROVED HERE: the statement RegShowsSaid, of the law epitaph/epitaphlaw14.RegShows: for every input the call returns true and leaves all that was there as it was. Conditions: none beyond the row's own.
  The walk stands in YtnmcclkpgbdenaaRegLaws.
-/
import Derived.Test.YtnmcclkpgbdenaaRows
import Derived.WalkKit
import Derived.ProofKit
import Derived.OpenShut
import Derived.ShutString
import Derived.ChangeOld
import Derived.Below
import Derived.SizedLaws
import Derived.Handed
import Derived.KernelRfl
import Derived.Test.YtnmcclkpgbdenaaFrame
import Derived.Test.YtnmcclkpgbdenaaFrameElem
import Derived.Test.YtnmcclkpgbdenaaFrameAny
import Derived.Test.YtnmcclkpgbdenaaRegLaws
namespace Go.Proofs.Ytnmcclkpgbdenaa.regShows
open Go.ChangeShapes Go.WideShapes Go.ChangeAt Go.RowKit Go.Proofs.Ytnmcclkpgbdenaa.Mem
open Go.ChangeMaps (open_string shut_string)
set_option linter.unusedVariables false

theorem own : ownKnob Try.prog.godebug = none := by kernel_rfl
theorem laidOut : laidOutB Try.prog = true := by kernel_rfl
set_option maxRecDepth 100000 in
theorem lifted (os : Os) (started : os.Started) (H : Type) (enc : TypeId × Value → H) :
    ReturnsInHanded {} Try.checked os 5 .any (Rows.regShowsSpec.pre6 enc Try.prog Try.f5 Rows.regShowsRow.domain false) (Rows.regShowsSpec.post enc Try.prog Try.f5 false true false false) := by
  refine returnsInHanded_of_change_sized (C := Try.checked) own started (by kernel_rfl) Try.func5
    (ChangeSpec.witness6 (enc := enc) (C := Try.checked) false ⟨#[], #[.int .u8 0, .slice none 0 0], []⟩ 8 (by kernel_rfl) (by kernel_rfl) (by kernel_rfl) (by kernel_rfl)) ?_
  intro W base args ds gs before hval0 hW _ hsz0 _
  have hsz : (DataW.weightsEach Try.prog (Try.f5.params.toList ++ Rows.regShowsSpec.plain.varTypes Try.prog) (ds ++ gs)).all (· ≤ reachBytes) = true := hsz0
  have hval : ∀ (j : Nat) t v, Try.f5.params[j]? = some t → args[j]? = some v → Value.okWide Try.prog W .any base t v := hval0
  have hW' := hW
  obtain ⟨p, q, hA0, hV, rfl, hfz, hnd⟩ := hW
  have hA : DataW.TrodAll enc Try.prog W 0 (fun _ => true) true Try.f5.params.toList args.toList ds p := hA0
  rw [Try.params5] at hA hval hsz
  obtain ⟨v0, vs0, d0, ds0, p0, q0, hargs, rfl, rfl, h0, r0⟩ := trodAll_cons hA
  obtain ⟨v1, vs1, d1, ds1, p1, q1, rfl, rfl, rfl, h1, r1⟩ := trodAll_cons r0
  obtain ⟨rfl, rfl, rfl⟩ := trodAll_nil r1
  obtain rfl : args = #[v0, v1] := by cases args; simp_all
  obtain ⟨rfl, rfl⟩ := trodVars_none hV
  have hlt : ∀ x ∈ p0 ++ (p1 ++ []), x.block < W.heap.size := fun x hx => hW'.lt x (by simpa using hx)
  obtain ⟨a0, rfl, rfl, rfl, w0⟩ := open_int Try.underlying5 (hval 0 5 v0 rfl rfl) h0
  have k1 := h1
  have lt1 : ∀ x ∈ p1, x.block < W.heap.size := by obtain ⟨m, hm⟩ := k1; exact DataW.trod_lt m _ _ _ hm
  have sm1 := Opens.struct_any (enc := enc) (W := W) Try.underlying48 (by kernel_rfl) (Opens.fs_cons (k := 2) (Opens.struct_any Try.underlying46 (by kernel_rfl) (Opens.fs_one (Opens.one_u16 Try.underlying44) rfl (by kernel_rfl) (Opens.fs_one (Opens.one_u64 Try.underlying35) rfl (by kernel_rfl) (Opens.fs_nil _)))) rfl (by kernel_rfl) (Opens.fs_one (Opens.one_string Try.underlying9) rfl (by kernel_rfl) (Opens.fs_nil _)))
  have op1 := Opens.one_slice (enc := enc) (W := W) Reg.valE (b := (fun _ => 1)) Try.underlying43 (by kernel_rfl) (Opens.iso2 sm1 (fun z : (Nat × Nat × Unit) × ByteArray × Unit => (⟨z.1.1, z.1.2.1, z.2.1⟩ : Reg.ValM)) (fun _ => rfl) (Ok' := (fun _ _ => True) W) (fun z h => trivial) (fun z => by first | omega | (dsimp only; omega) | simp))
  obtain ⟨⟨A1, l1, c1⟩, rfl, ⟨hr1, ho1, hle1, hc1⟩, hb1⟩ := op1.arg (j := 1) (Opens.slice_cells Try.underlying43 (hval 1 43 v1 rfl rfl)) h1 hsz rfl rfl
  dsimp only at hr1 ho1 hle1 hc1 hb1
  clear hA0 hval0 hlt
  have fin : Calls Try.prog 5 #[.int .u8 a0, .slice A1 l1.length c1] W fun e W' => e = .returned (.bool true) ∧ Below W.heap.size W W' := by
    have hu0 := bounds_u8 w0
    obtain ⟨n, rfl⟩ : ∃ f : Nat, (f : Int) = a0 := ⟨a0.toNat, by omega⟩
    exact Reg.shows_law n A1 l1 c1 W (by omega) hr1
  refine fin.mono fun e W' ⟨he, bel⟩ => ?_
  subst he
  exact ⟨_, rfl, _, _, _, [], _, [], hW', trodAll_mk1 (shut_bool Try.underlying4 _), (trodAll_cons_mk (shut_int Try.underlying5 w0) (trodAll_cons_mk (Below.trod laidOut (by kernel_rfl) (of_decide_eq_true (by kernel_rfl)) k1 bel lt1) trodAll_mk0)), rfl, bel.frame _, fun h => by cases h⟩

theorem over : Rows.regShowsRow.holds Try.pinned (OpenSpec.ofChange Rows.regShowsSpec) :=
  OpenClaim.holds_of_wide 5 Try.f5 rfl rfl rfl rfl rfl rfl rfl ⟨rfl, rfl, rfl, rfl, rfl⟩ rfl rfl rfl rfl rfl (by kernel_rfl) Try.func5 (by kernel_rfl)
    (of_decide_eq_true (by kernel_rfl)) (by unfold Func.isWrapper; first | (rw [if_pos (by decide +kernel)]; kernel_rfl) | (rw [if_neg (by decide +kernel)]; exact ⟨rfl, rfl⟩))
    (fun os started H enc _ => lifted os started H enc)
/-- THE STATEMENT -/
theorem proved : Rows.RegShowsSaid := over
#print axioms proved
end Go.Proofs.Ytnmcclkpgbdenaa.regShows
