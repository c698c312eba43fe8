/-
  PROVED HERE: the statement JournalPlaysCardSaid, of the law epitaph/epitaphlaw24.JournalPlays: for every input the call returns true and leaves all that was there as it was. Conditions: none beyond the row's own.
  The walk stands in YtdlghabpnpbebaaDoorJrnPlays.
-/
import Derived.Test.YtdlghabpnpbebaaDoorRows
import Derived.Test.YtdlghabpnpbebaaDoorCards
import Derived.Test.YtdlghabpnpbebaaDoorTie
import Derived.SevenTiedAt
import Derived.LaidMore
import Derived.Stop.Joined
import Derived.Test.YtdlghabpnpbebaaDoorCrcLaid
import Derived.WalkKit
import Derived.ProofKit
import Derived.OpenShut
import Derived.ShutString
import Derived.ChangeOld
import Derived.Below
import Derived.SizedLaws
import Derived.Handed
import Derived.KernelRfl
import Derived.Test.YtdlghabpnpbebaaDoorFrame
import Derived.Test.YtdlghabpnpbebaaDoorFrameElem
import Derived.Test.YtdlghabpnpbebaaDoorJrnPlays
namespace Go.Proofs.YtdlghabpnpbebaaDoor.journalPlays
open Go.ChangeShapes Go.WideShapes Go.ChangeAt Go.RowKit Go.Proofs.YtdlghabpnpbebaaDoor.Mem
open Go.ChangeMaps (open_string shut_string)
set_option linter.unusedVariables false

theorem own : ownKnob Tryd.prog.godebug = none := by kernel_rfl
theorem laidOut : laidOutB Tryd.prog = true := by kernel_rfl
set_option maxRecDepth 100000 in
theorem lifted (os : Os) (started : os.Started) (H : Type) (enc : TypeId × Value → H) :
    ReturnsInHanded {} Tryd.checked os 6 .any (fun w args => (Rows.journalPlaysSpec.pre enc Tryd.prog Tryd.f6 [] false w args ∧ laidMetH Tryd.prog [("epitaph/crc.four", Rows.laid_epitaph_crc_four)] w) ∧ sizedMet enc Tryd.prog Tryd.f6 (OpenSpec.ofChange Rows.journalPlaysSpec) false w args)
      (Rows.journalPlaysSpec.post enc Tryd.prog Tryd.f6 false true false false) := by
  refine returnsInHanded_of_change_and (C := Tryd.checked) (X := fun w _ => laidMetH Tryd.prog [("epitaph/crc.four", Rows.laid_epitaph_crc_four)] w) (fun _ _ _ hh h => h.of_heap hh) own started (by kernel_rfl) Tryd.func6
    (ChangeSpec.witness_shaped (enc := enc) (C := Tryd.checked) (os := os) (X := fun w _ => laidMetH Tryd.prog [("epitaph/crc.four", Rows.laid_epitaph_crc_four)] w) false (World.doorLaid Tryd.prog 400 os) #[.int .i64 0, .slice none 0 0] 8 rfl (World.shaped_of_RefB (by kernel_rfl) (by kernel_rfl)) (by kernel_rfl) (by kernel_rfl) (by kernel_rfl) (doorMet os _)) ?_
  intro W base args ds gs before hval0 hW _ hsz0 hL _
  have hsz : (DataW.weightsEach Tryd.prog (Tryd.f6.params.toList ++ Rows.journalPlaysSpec.plain.varTypes Tryd.prog) (ds ++ gs)).all (· ≤ reachBytes) = true := hsz0
  have hval : ∀ (j : Nat) t v, Tryd.f6.params[j]? = some t → args[j]? = some v → Value.okWide Tryd.prog W .any base t v := hval0
  have hW' := hW
  obtain ⟨p, q, hA0, hV, rfl, hfz, hnd⟩ := hW
  have hA : DataW.TrodAll enc Tryd.prog W 0 (fun _ => true) true Tryd.f6.params.toList args.toList ds p := hA0
  rw [Tryd.params6] at hA hval hsz
  obtain ⟨v0, vs0, d0, ds0, p0, q0, hargs, rfl, rfl, h0, r0⟩ := trodAll_cons hA
  obtain ⟨v1, vs1, d1, ds1, p1, q1, rfl, rfl, rfl, h1, r1⟩ := trodAll_cons r0
  obtain ⟨rfl, rfl, rfl⟩ := trodAll_nil r1
  obtain rfl : args = #[v0, v1] := by cases args; simp_all
  obtain ⟨rfl, rfl⟩ := trodVars_none hV
  have hlt : ∀ x ∈ p0 ++ (p1 ++ []), x.block < W.heap.size := fun x hx => hW'.lt x (by simpa using hx)
  obtain ⟨a0, rfl, rfl, rfl, w0⟩ := open_int Tryd.underlying3 (hval 0 3 v0 rfl rfl) h0
  have k1 := h1
  have lt1 : ∀ x ∈ p1, x.block < W.heap.size := by obtain ⟨m, hm⟩ := k1; exact DataW.trod_lt m _ _ _ hm
  have op1 := Opens.one_slice (enc := enc) (W := W) Jrn.jactE (b := (fun _ => 1)) Tryd.underlying42 (by kernel_rfl) (Opens.Some_.iso (fun z : Nat × Int × Bool × Opens.SliceM Nat => (⟨z.1, z.2.1, z.2.2.1, z.2.2.2.A, z.2.2.2.l, z.2.2.2.c⟩ : Jrn.JActM)) (fun _ => rfl) (Ok' := Jrn.JActM.Ok W) (fun z h => h) (fun z => by first | omega | (dsimp only; omega) | simp) (Opens.struct_4 Tryd.underlying47 (by kernel_rfl) (by kernel_rfl) (Opens.one_u8 Tryd.underlying5) (Opens.one_i64 Tryd.underlying3) (Opens.one_bool Tryd.underlying4) (Opens.one_bytes Tryd.underlying22 Tryd.underlying5 (by kernel_rfl) (by kernel_rfl))))
  obtain ⟨⟨A1, l1, c1⟩, rfl, ⟨hr1, ho1, hle1, hc1⟩, hb1⟩ := op1.arg (j := 1) (Opens.slice_cells Tryd.underlying42 (hval 1 42 v1 rfl rfl)) h1 hsz rfl rfl
  dsimp only at hr1 ho1 hle1 hc1 hb1
  clear hA0 hval0 hlt
  have fin : Calls Tryd.prog 6 #[.int .i64 a0, .slice A1 l1.length c1] W fun e W' => e = .returned (.bool true) ∧ Below W.heap.size W W' := by
    have hbo : Tryd.prog.bytesOf 47 = 48 := by kernel_rfl
    rw [hbo] at hc1
    exact Jrn.jplays_law a0 A1 c1 l1 W (tab_of_laid hL) hr1 ho1 (by unfold reachBytes at hc1; omega)
  refine fin.mono fun e W' ⟨he, bel⟩ => ?_
  subst he
  exact ⟨_, rfl, _, _, _, [], _, [], hW', trodAll_mk1 (shut_bool Tryd.underlying4 _), (trodAll_cons_mk (shut_int Tryd.underlying3 w0) (trodAll_cons_mk (Below.trod laidOut (by kernel_rfl) (of_decide_eq_true (by kernel_rfl)) k1 bel lt1) trodAll_mk0)), rfl, bel.frame _, fun h => by cases h⟩

theorem over : Rows.journalPlaysRow.holds Tryd.pinned (OpenSpec.ofChange Rows.journalPlaysSpec) :=
  OpenClaim.holds_of_wide 6 Tryd.f6 rfl rfl rfl rfl rfl rfl rfl ⟨rfl, rfl, rfl, rfl, rfl⟩ rfl rfl rfl rfl rfl (by kernel_rfl) Tryd.func6 (by kernel_rfl)
    (of_decide_eq_true (by kernel_rfl)) (by unfold Func.isWrapper; first | (rw [if_pos (by decide +kernel)]; kernel_rfl) | (rw [if_neg (by decide +kernel)]; exact ⟨rfl, rfl⟩))
    (fun os started H enc _ => lifted os started H enc)
theorem proved : Rows.JournalPlaysCardSaid :=
  Claim7.holds_tied_plain_at .later [] [.data] true (true, "a666e50bcd7bf89c6798958e8dd049ef3cb3e251951ea2dcfd7505e2d625bdff") false
    over (fun _ h => by cases h) (by kernel_rfl) (fun _ h => by cases h) journalPlays_row_tie rfl ⟨rfl, rfl⟩ (by kernel_rfl) rfl
    (fun f fn hf hfn => by
      obtain rfl : f = 6 := Option.some.inj ((show Tryd.prog.funcNamed "epitaph/epitaphlaw24.JournalPlays" = some 6 by kernel_rfl).symm.trans hf) |>.symm
      obtain rfl : fn = Tryd.f6 := (Option.some.inj (Tryd.func6.symm.trans hfn)).symm
      exact ⟨by kernel_rfl, fun j t ht => by
        rw [Tryd.params6] at ht
        have hall : ([3, 42] : List TypeId).all (fun t => Tryd.prog.wantsStandIn t == false) = true := by kernel_rfl
        have hmem : t ∈ ([3, 42] : List TypeId) := by
          have := List.mem_of_getElem? (l := [3, 42]) (i := j) (by simpa using ht)
          exact this
        have hno : Tryd.prog.wantsStandIn t = false := by simpa using List.all_eq_true.1 hall t hmem
        exact hno⟩)
    (by kernel_rfl)
#print axioms proved
end Go.Proofs.YtdlghabpnpbebaaDoor.journalPlays
