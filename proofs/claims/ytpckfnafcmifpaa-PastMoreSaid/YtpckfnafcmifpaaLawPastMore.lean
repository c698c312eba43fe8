/-
  PROVED HERE: the statement PastMoreSaid, of the law epitaph/epitaphlaw41.PastMore: for every input the call returns true and leaves all that was there as it was. Conditions: none beyond the row's own.
  The walk stands in YtpckfnafcmifpaaPastMore.
-/
import Derived.Test.YtpckfnafcmifpaaRows
import Derived.WalkKit
import Derived.ProofKit
import Derived.OpenShut
import Derived.ShutString
import Derived.ChangeOld
import Derived.Below
import Derived.SizedLaws
import Derived.Handed
import Derived.KernelRfl
import Derived.Test.YtpckfnafcmifpaaFrame
import Derived.Test.YtpckfnafcmifpaaFrameWords
import Derived.Test.YtpckfnafcmifpaaFrameElem
import Derived.Test.YtpckfnafcmifpaaFrameAny
import Derived.Test.YtpckfnafcmifpaaPastMore
namespace Go.Proofs.Ytpckfnafcmifpaa.pastMore
open Go.ChangeShapes Go.WideShapes Go.ChangeAt Go.RowKit Go.Proofs.Ytpckfnafcmifpaa.Mem
open Go.ChangeMaps (open_string shut_string)
set_option linter.unusedVariables false

theorem own : ownKnob Try.prog.godebug = none := by kernel_rfl
theorem laidOut : laidOutB Try.prog = true := by kernel_rfl
set_option maxRecDepth 100000 in
theorem lifted (os : Os) (started : os.Started) (H : Type) (enc : TypeId × Value → H) :
    ReturnsInHanded {} Try.checked os 3 .any (Rows.pastMoreSpec.pre6 enc Try.prog Try.f3 Rows.pastMoreRow.domain false) (Rows.pastMoreSpec.post enc Try.prog Try.f3 false true false false) := by
  refine returnsInHanded_of_change_sized (C := Try.checked) own started (by kernel_rfl) Try.func3
    (ChangeSpec.witness6 (enc := enc) (C := Try.checked) false ⟨#[], #[.slice none 0 0, .slice none 0 0, .slice none 0 0], []⟩ 8 (by kernel_rfl) (by kernel_rfl) (by kernel_rfl) (by kernel_rfl)) ?_
  intro W base args ds gs before hval0 hW _ hsz0 _
  have hsz : (DataW.weightsEach Try.prog (Try.f3.params.toList ++ Rows.pastMoreSpec.plain.varTypes Try.prog) (ds ++ gs)).all (· ≤ reachBytes) = true := hsz0
  have hval : ∀ (j : Nat) t v, Try.f3.params[j]? = some t → args[j]? = some v → Value.okWide Try.prog W .any base t v := hval0
  have hW' := hW
  obtain ⟨p, q, hA0, hV, rfl, hfz, hnd⟩ := hW
  have hA : DataW.TrodAll enc Try.prog W 0 (fun _ => true) true Try.f3.params.toList args.toList ds p := hA0
  rw [Try.params3] at hA hval hsz
  obtain ⟨v0, vs0, d0, ds0, p0, q0, hargs, rfl, rfl, h0, r0⟩ := trodAll_cons hA
  obtain ⟨v1, vs1, d1, ds1, p1, q1, rfl, rfl, rfl, h1, r1⟩ := trodAll_cons r0
  obtain ⟨v2, vs2, d2, ds2, p2, q2, rfl, rfl, rfl, h2, r2⟩ := trodAll_cons r1
  obtain ⟨rfl, rfl, rfl⟩ := trodAll_nil r2
  obtain rfl : args = #[v0, v1, v2] := by cases args; simp_all
  obtain ⟨rfl, rfl⟩ := trodVars_none hV
  have hlt : ∀ x ∈ p0 ++ (p1 ++ (p2 ++ [])), x.block < W.heap.size := fun x hx => hW'.lt x (by simpa using hx)
  have k0 := h0
  have lt0 : ∀ x ∈ p0, x.block < W.heap.size := by obtain ⟨m, hm⟩ := k0; exact DataW.trod_lt m _ _ _ hm
  have sm0 := Opens.struct_any (enc := enc) (W := W) Try.underlying39 (by kernel_rfl) (Opens.fs_cons (k := 7) (Opens.struct_any Try.underlying37 (by kernel_rfl) (Opens.fs_cons (k := 2) (Opens.struct_any Try.underlying34 (by kernel_rfl) (Opens.fs_one (Opens.one_u16 Try.underlying31) rfl (by kernel_rfl) (Opens.fs_one (Opens.one_u64 Try.underlying32) rfl (by kernel_rfl) (Opens.fs_nil _)))) rfl (by kernel_rfl) (Opens.fs_one (Opens.one_u8 Try.underlying5) rfl (by kernel_rfl) (Opens.fs_one (Opens.one_u64 Try.underlying32) rfl (by kernel_rfl) (Opens.fs_one (Opens.one_u8 Try.underlying5) rfl (by kernel_rfl) (Opens.fs_one (Opens.one_string Try.underlying9) rfl (by kernel_rfl) (Opens.fs_one (Opens.one_raw Try.underlying35) rfl (by kernel_rfl) (Opens.fs_nil _)))))))) rfl (by kernel_rfl) (Opens.fs_one (Opens.one_words Try.underlying23 Try.underlying32 (by kernel_rfl)) rfl (by kernel_rfl) (Opens.fs_nil _)))
  have op0 := Opens.one_slice (enc := enc) (W := W) Past.factE (b := (fun _ => 1)) Try.underlying22 (by kernel_rfl) (Opens.iso2 sm0 (fun z : ((Nat × Nat × Unit) × Nat × Nat × Nat × ByteArray × (Option Addr × Nat × Nat) × Unit) × Opens.SliceM Nat × Unit => (⟨⟨z.1.1.1, z.1.1.2.1, z.1.2.1, z.1.2.2.1, z.1.2.2.2.1, z.1.2.2.2.2.1, z.1.2.2.2.2.2.1.1, z.1.2.2.2.2.2.1.2.1, z.1.2.2.2.2.2.1.2.2⟩, z.2.1.A, z.2.1.l, z.2.1.c⟩ : Past.FactM)) (fun _ => rfl) (Ok' := Past.FactM.Arg W) (fun z h => ⟨h.2.1.1, h.2.1.2.1, h.1.2.1⟩) (fun z => by first | omega | (dsimp only; omega) | simp))
  obtain ⟨⟨A0, l0, c0⟩, rfl, ⟨hr0, ho0, hle0, hc0⟩, hb0⟩ := op0.arg (j := 0) (Opens.slice_cells Try.underlying22 (hval 0 22 v0 rfl rfl)) h0 hsz rfl rfl
  dsimp only at hr0 ho0 hle0 hc0 hb0
  have k1 := h1
  have lt1 : ∀ x ∈ p1, x.block < W.heap.size := by obtain ⟨m, hm⟩ := k1; exact DataW.trod_lt m _ _ _ hm
  obtain ⟨A1, l1, c1, rfl, hl1, hle1, hc1, hr1⟩ := arg_words (j := 1) Try.underlying23 Try.underlying32 (by kernel_rfl) (by kernel_rfl) (hval 1 23 v1 rfl rfl) h1 lt1 hsz rfl rfl
  have k2 := h2
  have lt2 : ∀ x ∈ p2, x.block < W.heap.size := by obtain ⟨m, hm⟩ := k2; exact DataW.trod_lt m _ _ _ hm
  obtain ⟨A2, l2, c2, rfl, hl2, hle2, hc2, hr2⟩ := arg_words (j := 2) Try.underlying23 Try.underlying32 (by kernel_rfl) (by kernel_rfl) (hval 2 23 v2 rfl rfl) h2 lt2 hsz rfl rfl
  clear hA0 hval0 hlt
  have fin : Calls Try.prog 3 #[.slice A0 l0.length c0, .slice A1 l1.length c1, .slice A2 l2.length c2] W fun e W' => e = .returned (.bool true) ∧ Below W.heap.size W W' := by
    have hbo : Try.prog.bytesOf 39 = 104 := by kernel_rfl
    rw [hbo] at hc0
    exact Past.more_law A0 A1 A2 c0 c1 c2 l0 l1 l2 W hr0 ho0 (by unfold reachBytes at hc0; omega) hl1 hl2 hr1 hr2 (by omega) (by omega)
  refine fin.mono fun e W' ⟨he, bel⟩ => ?_
  subst he
  exact ⟨_, rfl, _, _, _, [], _, [], hW', trodAll_mk1 (shut_bool Try.underlying4 _), (trodAll_cons_mk (Below.trod laidOut (by kernel_rfl) (of_decide_eq_true (by kernel_rfl)) k0 bel lt0) (trodAll_cons_mk (Below.trod laidOut (by kernel_rfl) (of_decide_eq_true (by kernel_rfl)) k1 bel lt1) (trodAll_cons_mk (Below.trod laidOut (by kernel_rfl) (of_decide_eq_true (by kernel_rfl)) k2 bel lt2) trodAll_mk0))), rfl, bel.frame _, fun h => by cases h⟩

theorem over : Rows.pastMoreRow.holds Try.pinned (OpenSpec.ofChange Rows.pastMoreSpec) :=
  OpenClaim.holds_of_wide 3 Try.f3 rfl rfl rfl rfl rfl rfl rfl ⟨rfl, rfl, rfl, rfl, rfl⟩ rfl rfl rfl rfl rfl (by kernel_rfl) Try.func3 (by kernel_rfl)
    (of_decide_eq_true (by kernel_rfl)) (by unfold Func.isWrapper; first | (rw [if_pos (by decide +kernel)]; kernel_rfl) | (rw [if_neg (by decide +kernel)]; exact ⟨rfl, rfl⟩))
    (fun os started H enc _ => lifted os started H enc)
/-- THE STATEMENT -/
theorem proved : Rows.PastMoreSaid := over
#print axioms proved
end Go.Proofs.Ytpckfnafcmifpaa.pastMore
