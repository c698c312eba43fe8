/-
  PROVED HERE: the statement PastSaysSaid, of the law epitaph/epitaphlaw41.PastSays: for every input the call returns true and leaves all that was there as it was. Conditions: none beyond the row's own.
  The walk stands in YtfkfpanhbanljaaGreatPastSays.
-/
import Derived.Test.YtfkfpanhbanljaaGreatRows
import Derived.WalkKit
import Derived.ProofKit
import Derived.OpenShut
import Derived.ShutString
import Derived.ChangeOld
import Derived.Below
import Derived.SizedLaws
import Derived.Handed
import Derived.KernelRfl
import Derived.Test.YtfkfpanhbanljaaGreatSetZ
import Derived.Test.YtfkfpanhbanljaaGreatFrameElem
import Derived.Test.YtfkfpanhbanljaaGreatFrameAny
import Derived.Test.YtfkfpanhbanljaaGreatPastSays
namespace Go.Proofs.YtfkfpanhbanljaaGreat.pastSays
open Go.ChangeShapes Go.WideShapes Go.ChangeAt Go.RowKit Go.Proofs.YtfkfpanhbanljaaGreat.Mem
open Go.ChangeMaps (open_string shut_string)
set_option linter.unusedVariables false

theorem own : ownKnob Tryz.prog.godebug = none := by kernel_rfl
theorem laidOut : laidOutB Tryz.prog = true := by kernel_rfl
set_option maxRecDepth 100000 in
theorem lifted (os : Os) (started : os.Started) (H : Type) (enc : TypeId × Value → H) :
    ReturnsInHanded {} Tryz.checked os 3 .any (Rows.pastSaysSpec.pre6 enc Tryz.prog Tryz.f3 Rows.pastSaysRow.domain false) (Rows.pastSaysSpec.post enc Tryz.prog Tryz.f3 false true false false) := by
  refine returnsInHanded_of_change_sized (C := Tryz.checked) own started (by kernel_rfl) Tryz.func3
    (ChangeSpec.witness6 (enc := enc) (C := Tryz.checked) false ⟨#[], #[.slice none 0 0, .slice none 0 0, .int .i64 0], []⟩ 8 (by kernel_rfl) (by kernel_rfl) (by kernel_rfl) (by kernel_rfl)) ?_
  intro W base args ds gs before hval0 hW _ hsz0 _
  have hsz : (DataW.weightsEach Tryz.prog (Tryz.f3.params.toList ++ Rows.pastSaysSpec.plain.varTypes Tryz.prog) (ds ++ gs)).all (· ≤ reachBytes) = true := hsz0
  have hval : ∀ (j : Nat) t v, Tryz.f3.params[j]? = some t → args[j]? = some v → Value.okWide Tryz.prog W .any base t v := hval0
  have hW' := hW
  obtain ⟨p, q, hA0, hV, rfl, hfz, hnd⟩ := hW
  have hA : DataW.TrodAll enc Tryz.prog W 0 (fun _ => true) true Tryz.f3.params.toList args.toList ds p := hA0
  rw [Tryz.params3] at hA hval hsz
  obtain ⟨v0, vs0, d0, ds0, p0, q0, hargs, rfl, rfl, h0, r0⟩ := trodAll_cons hA
  obtain ⟨v1, vs1, d1, ds1, p1, q1, rfl, rfl, rfl, h1, r1⟩ := trodAll_cons r0
  obtain ⟨v2, vs2, d2, ds2, p2, q2, rfl, rfl, rfl, h2, r2⟩ := trodAll_cons r1
  obtain ⟨rfl, rfl, rfl⟩ := trodAll_nil r2
  obtain rfl : args = #[v0, v1, v2] := by cases args; simp_all
  obtain ⟨rfl, rfl⟩ := trodVars_none hV
  have hlt : ∀ x ∈ p0 ++ (p1 ++ (p2 ++ [])), x.block < W.heap.size := fun x hx => hW'.lt x (by simpa using hx)
  have k0 := h0
  have lt0 : ∀ x ∈ p0, x.block < W.heap.size := by obtain ⟨m, hm⟩ := k0; exact DataW.trod_lt m _ _ _ hm
  have sm0 := Opens.struct_any (enc := enc) (W := W) Tryz.underlying40 (by kernel_rfl) (Opens.fs_cons (k := 7) (Opens.struct_any Tryz.underlying38 (by kernel_rfl) (Opens.fs_cons (k := 2) (Opens.struct_any Tryz.underlying35 (by kernel_rfl) (Opens.fs_one (Opens.one_u16 Tryz.underlying32) rfl (by kernel_rfl) (Opens.fs_one (Opens.one_u64 Tryz.underlying33) rfl (by kernel_rfl) (Opens.fs_nil _)))) rfl (by kernel_rfl) (Opens.fs_one (Opens.one_u8 Tryz.underlying5) rfl (by kernel_rfl) (Opens.fs_one (Opens.one_u64 Tryz.underlying33) rfl (by kernel_rfl) (Opens.fs_one (Opens.one_u8 Tryz.underlying5) rfl (by kernel_rfl) (Opens.fs_one (Opens.one_string Tryz.underlying9) rfl (by kernel_rfl) (Opens.fs_one (Opens.one_raw Tryz.underlying36) rfl (by kernel_rfl) (Opens.fs_nil _)))))))) rfl (by kernel_rfl) (Opens.fs_one (Opens.one_words Tryz.underlying23 Tryz.underlying33 (by kernel_rfl)) rfl (by kernel_rfl) (Opens.fs_nil _)))
  have op0 := Opens.one_slice (enc := enc) (W := W) Past.factE (b := (fun _ => 1)) Tryz.underlying22 (by kernel_rfl) (Opens.iso2 sm0 (fun z : ((Nat × Nat × Unit) × Nat × Nat × Nat × ByteArray × (Option Addr × Nat × Nat) × Unit) × Opens.SliceM Nat × Unit => (⟨⟨z.1.1.1, z.1.1.2.1, z.1.2.1, z.1.2.2.1, z.1.2.2.2.1, z.1.2.2.2.2.1, z.1.2.2.2.2.2.1.1, z.1.2.2.2.2.2.1.2.1, z.1.2.2.2.2.2.1.2.2⟩, z.2.1.A, z.2.1.l, z.2.1.c⟩ : Past.FactM)) (fun _ => rfl) (Ok' := Past.FactM.ArgS W) (fun z h => ⟨h.2.1.1, h.2.1.2.1, h.1.2.1, h.1.2.2.1, h.1.2.2.2.1⟩) (fun z => by first | omega | (dsimp only; omega) | simp))
  obtain ⟨⟨A0, l0, c0⟩, rfl, ⟨hr0, ho0, hle0, hc0⟩, hb0⟩ := op0.arg (j := 0) (Opens.slice_cells Tryz.underlying22 (hval 0 22 v0 rfl rfl)) h0 hsz rfl rfl
  dsimp only at hr0 ho0 hle0 hc0 hb0
  have k1 := h1
  have lt1 : ∀ x ∈ p1, x.block < W.heap.size := by obtain ⟨m, hm⟩ := k1; exact DataW.trod_lt m _ _ _ hm
  obtain ⟨A1, l1, c1, rfl, hl1, hle1, hc1, hr1⟩ := arg_words (j := 1) Tryz.underlying23 Tryz.underlying33 (by kernel_rfl) (by kernel_rfl) (hval 1 23 v1 rfl rfl) h1 lt1 hsz rfl rfl
  obtain ⟨a2, rfl, rfl, rfl, w2⟩ := open_int Tryz.underlying3 (hval 2 3 v2 rfl rfl) h2
  clear hA0 hval0 hlt
  have fin : Calls Tryz.prog 3 #[.slice A0 l0.length c0, .slice A1 l1.length c1, .int .i64 a2] W fun e W' => e = .returned (.bool true) ∧ Below W.heap.size W W' := by
    have hbo : Tryz.prog.bytesOf 40 = 104 := by kernel_rfl
    rw [hbo] at hc0
    have hk2 := bounds_i64 w2
    exact Past.psays_law A0 A1 c0 c1 l0 l1 a2 W hr0 ho0 (by unfold reachBytes at hc0; omega) hl1 hr1 (by omega) (by omega)
  refine fin.mono fun e W' ⟨he, bel⟩ => ?_
  subst he
  exact ⟨_, rfl, _, _, _, [], _, [], hW', trodAll_mk1 (shut_bool Tryz.underlying4 _), (trodAll_cons_mk (Below.trod laidOut (by kernel_rfl) (of_decide_eq_true (by kernel_rfl)) k0 bel lt0) (trodAll_cons_mk (Below.trod laidOut (by kernel_rfl) (of_decide_eq_true (by kernel_rfl)) k1 bel lt1) (trodAll_cons_mk (shut_int Tryz.underlying3 w2) trodAll_mk0))), rfl, bel.frame _, fun h => by cases h⟩

theorem over : Rows.pastSaysRow.holds Tryz.pinned (OpenSpec.ofChange Rows.pastSaysSpec) :=
  OpenClaim.holds_of_wide 3 Tryz.f3 rfl rfl rfl rfl rfl rfl rfl ⟨rfl, rfl, rfl, rfl, rfl⟩ rfl rfl rfl rfl rfl (by kernel_rfl) Tryz.func3 (by kernel_rfl)
    (of_decide_eq_true (by kernel_rfl)) (by unfold Func.isWrapper; first | (rw [if_pos (by decide +kernel)]; kernel_rfl) | (rw [if_neg (by decide +kernel)]; exact ⟨rfl, rfl⟩))
    (fun os started H enc _ => lifted os started H enc)
/-- THE STATEMENT -/
theorem proved : Rows.PastSaysSaid := over
#print axioms proved
end Go.Proofs.YtfkfpanhbanljaaGreat.pastSays
