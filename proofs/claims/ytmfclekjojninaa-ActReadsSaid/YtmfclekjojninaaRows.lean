/-
  No cell of these rows narrows 'for every input' (looked for: loops, veiled, ifaces, maps, wideKeys, modest, calm, conditions, laid).
  DERIVED. THE GIVEN ROWS OF THIS SEAT. 6 by the template 'for every input the law returns true; each argument reads behind the call as it read before'; 0 by the template 'total and deterministic' (their statements: YtmfclekjojninaaTotals.lean).
  GIVEN WITH THE SEED: the statements are not yours to turn. If you find one false, say at which input.
  Laid BY PROGRAM, IN A SANDBOX (cutbox-rows.mjs): the forced cells as the released guide's own fill.sh prints them over the translation c73fe0c820b24de6… (all of the seat's roots in one cut). By AI agents, Wed Nov 11 2026. No macro, syntax, notation, axiom, sorry.
-/
import Derived.Test.YtmfclekjojninaaChecked
import GoSem.Claim
import GoSem.ClaimJoined
import GoSem.ClaimMapViews
import Derived.JoinedTies
import Derived.KernelRfl
namespace Go.Proofs.Ytmfclekjojninaa
/- THE CELL 'sum', in the pinned program and in every row, IS THE sha256 OF THE DUMP (.gsa) THAT YtmfclekjojninaaProg.lean LOADS. Nothing in Lean hashes anything: it is a label: what it is worth is what the hold of that sum in a sandbox is worth. -/
noncomputable def Try.pinned : Pinned := { name := "ytmfclekjojninaa", sum := "c73fe0c820b24de64f4ba85517d9e9ec9fb5096c09d0809adc2e04e56bd90d4e", checked := Try.checked }
namespace Rows
def none {H : Type} : Left H := { results := [], args := [] }

/-- 'epitaphlaw36.NetPlays': WHATEVER THE INPUT: true; the input reads as it did. -/
def netPlaysSpec : ChangeSpec := { name := "netPlays", fn := fun _ => fun
  | [d] => { results := [.lit (.bool true)], args := [d] }
  | _ => none }
def netPlaysRow : OpenClaim := { program := "ytmfclekjojninaa", sum := "c73fe0c820b24de64f4ba85517d9e9ec9fb5096c09d0809adc2e04e56bd90d4e", func := "epitaph/epitaphlaw36.NetPlays", spec := "netPlays", apart := false }
def NetPlaysSaid : Prop := netPlaysRow.holds Try.pinned (OpenSpec.ofChange netPlaysSpec)

/-- ITS FALSE NEIGHBOUR: 'it returns false'. Refute it at one input. -/
def netPlaysWrong : ChangeSpec := { name := "netPlays", fn := fun _ => fun
  | [d] => { results := [.lit (.bool false)], args := [d] }
  | _ => none }
def NetPlaysWrongFalsely : Prop := netPlaysRow.holds Try.pinned (OpenSpec.ofChange netPlaysWrong)

/-- 'epitaphlaw36.NetSpoils': WHATEVER THE INPUT: true; the input reads as it did. -/
def netSpoilsSpec : ChangeSpec := { name := "netSpoils", fn := fun _ => fun
  | [d1, d2, d3] => { results := [.lit (.bool true)], args := [d1, d2, d3] }
  | _ => none }
def netSpoilsRow : OpenClaim := { program := "ytmfclekjojninaa", sum := "c73fe0c820b24de64f4ba85517d9e9ec9fb5096c09d0809adc2e04e56bd90d4e", func := "epitaph/epitaphlaw36.NetSpoils", spec := "netSpoils", apart := false }
def NetSpoilsSaid : Prop := netSpoilsRow.holds Try.pinned (OpenSpec.ofChange netSpoilsSpec)

/-- ITS FALSE NEIGHBOUR: 'it returns false'. Refute it at one input. -/
def netSpoilsWrong : ChangeSpec := { name := "netSpoils", fn := fun _ => fun
  | [d1, d2, d3] => { results := [.lit (.bool false)], args := [d1, d2, d3] }
  | _ => none }
def NetSpoilsWrongFalsely : Prop := netSpoilsRow.holds Try.pinned (OpenSpec.ofChange netSpoilsWrong)

/-- 'epitaphlaw36.NetFull': WHATEVER THE INPUT: true; the input reads as it did. -/
def netFullSpec : ChangeSpec := { name := "netFull", fn := fun _ => fun
  | [d1, d2] => { results := [.lit (.bool true)], args := [d1, d2] }
  | _ => none }
def netFullRow : OpenClaim := { program := "ytmfclekjojninaa", sum := "c73fe0c820b24de64f4ba85517d9e9ec9fb5096c09d0809adc2e04e56bd90d4e", func := "epitaph/epitaphlaw36.NetFull", spec := "netFull", apart := false }
def NetFullSaid : Prop := netFullRow.holds Try.pinned (OpenSpec.ofChange netFullSpec)

/-- ITS FALSE NEIGHBOUR: 'it returns false'. Refute it at one input. -/
def netFullWrong : ChangeSpec := { name := "netFull", fn := fun _ => fun
  | [d1, d2] => { results := [.lit (.bool false)], args := [d1, d2] }
  | _ => none }
def NetFullWrongFalsely : Prop := netFullRow.holds Try.pinned (OpenSpec.ofChange netFullWrong)

/-- 'epitaphlaw37.ActWrites': WHATEVER THE INPUT: true; the input reads as it did. -/
def actWritesSpec : ChangeSpec := { name := "actWrites", fn := fun _ => fun
  | [d] => { results := [.lit (.bool true)], args := [d] }
  | _ => none }
def actWritesRow : OpenClaim := { program := "ytmfclekjojninaa", sum := "c73fe0c820b24de64f4ba85517d9e9ec9fb5096c09d0809adc2e04e56bd90d4e", func := "epitaph/epitaphlaw37.ActWrites", spec := "actWrites", apart := false }
def ActWritesSaid : Prop := actWritesRow.holds Try.pinned (OpenSpec.ofChange actWritesSpec)

/-- ITS FALSE NEIGHBOUR: 'it returns false'. Refute it at one input. -/
def actWritesWrong : ChangeSpec := { name := "actWrites", fn := fun _ => fun
  | [d] => { results := [.lit (.bool false)], args := [d] }
  | _ => none }
def ActWritesWrongFalsely : Prop := actWritesRow.holds Try.pinned (OpenSpec.ofChange actWritesWrong)

/-- 'epitaphlaw37.ActReads': WHATEVER THE INPUT: true; the input reads as it did. -/
def actReadsSpec : ChangeSpec := { name := "actReads", fn := fun _ => fun
  | [d] => { results := [.lit (.bool true)], args := [d] }
  | _ => none }
def actReadsRow : OpenClaim := { program := "ytmfclekjojninaa", sum := "c73fe0c820b24de64f4ba85517d9e9ec9fb5096c09d0809adc2e04e56bd90d4e", func := "epitaph/epitaphlaw37.ActReads", spec := "actReads", apart := false }
def ActReadsSaid : Prop := actReadsRow.holds Try.pinned (OpenSpec.ofChange actReadsSpec)

/-- ITS FALSE NEIGHBOUR: 'it returns false'. Refute it at one input. -/
def actReadsWrong : ChangeSpec := { name := "actReads", fn := fun _ => fun
  | [d] => { results := [.lit (.bool false)], args := [d] }
  | _ => none }
def ActReadsWrongFalsely : Prop := actReadsRow.holds Try.pinned (OpenSpec.ofChange actReadsWrong)

/-- 'epitaphlaw37.ActBack': WHATEVER THE INPUT: true; the input reads as it did. -/
def actBackSpec : ChangeSpec := { name := "actBack", fn := fun _ => fun
  | [d1, d2] => { results := [.lit (.bool true)], args := [d1, d2] }
  | _ => none }
def actBackRow : OpenClaim := { program := "ytmfclekjojninaa", sum := "c73fe0c820b24de64f4ba85517d9e9ec9fb5096c09d0809adc2e04e56bd90d4e", func := "epitaph/epitaphlaw37.ActBack", spec := "actBack", apart := false }
def ActBackSaid : Prop := actBackRow.holds Try.pinned (OpenSpec.ofChange actBackSpec)

/-- ITS FALSE NEIGHBOUR: 'it returns false'. Refute it at one input. -/
def actBackWrong : ChangeSpec := { name := "actBack", fn := fun _ => fun
  | [d1, d2] => { results := [.lit (.bool false)], args := [d1, d2] }
  | _ => none }
def ActBackWrongFalsely : Prop := actBackRow.holds Try.pinned (OpenSpec.ofChange actBackWrong)

/- THE SECOND FORM. 'bulk': how many values and letters a reading holds, each counted each time it is reached (what is shared counts as often as it is met; a slice's spare places count too). A statement '..UptoSaid' is the law's where the arguments, and the package variables that the reading takes, are together of bulk at most 1048576: NARROWER than '..Said'. Prove '..Said' where nothing that the law and all that it calls make is longer than what came in: it says more and counts as full. Else prove '..UptoSaid'. A law counts once. -/
mutual
def uptoBulk {H : Type} : DataW H → Nat
  | .lit (.string bytes) => bytes.length + 1
  | .lit _ => 1
  | .nil => 1
  | .ptr d => uptoBulk d + 1
  | .slice elems spare => uptoBulkAll elems + uptoBulkAll spare + 1
  | .agg parts => uptoBulkAll parts + 1
  | .iface _ d => uptoBulk d + 1
  | .map entries => uptoBulkEntries entries + 1
  | .held _ => 1
def uptoBulkAll {H : Type} : List (DataW H) → Nat
  | [] => 0
  | d :: r => uptoBulk d + uptoBulkAll r
def uptoBulkEntries {H : Type} : List (Lit × DataW H) → Nat
  | [] => 0
  | x :: r => uptoBulkEntry x + uptoBulkEntries r
def uptoBulkEntry {H : Type} : Lit × DataW H → Nat
  | (.string bytes, d) => bytes.length + uptoBulk d + 1
  | (_, d) => uptoBulk d + 1
 end
def uptoSmall : (H : Type) → List (DataW H) → Bool := fun _ ds => decide (uptoBulkAll ds ≤ 1048576)
def OpenSpec.upto (s : _root_.Go.ChangeSpec) : _root_.Go.OpenSpec := { _root_.Go.OpenSpec.ofChange s with cond := some uptoSmall }

/-- 'epitaphlaw36.NetPlays', WHERE WHAT IT READS IS OF BULK AT MOST 1048576: true; the input reads as it did. -/
def netPlaysUptoRow : OpenClaim := { program := "ytmfclekjojninaa", sum := "c73fe0c820b24de64f4ba85517d9e9ec9fb5096c09d0809adc2e04e56bd90d4e", func := "epitaph/epitaphlaw36.NetPlays", spec := "netPlays", apart := false, narrowed := true }
def NetPlaysUptoSaid : Prop := netPlaysUptoRow.holds Try.pinned (OpenSpec.upto netPlaysSpec)

/-- 'epitaphlaw36.NetSpoils', WHERE WHAT IT READS IS OF BULK AT MOST 1048576: true; the input reads as it did. -/
def netSpoilsUptoRow : OpenClaim := { program := "ytmfclekjojninaa", sum := "c73fe0c820b24de64f4ba85517d9e9ec9fb5096c09d0809adc2e04e56bd90d4e", func := "epitaph/epitaphlaw36.NetSpoils", spec := "netSpoils", apart := false, narrowed := true }
def NetSpoilsUptoSaid : Prop := netSpoilsUptoRow.holds Try.pinned (OpenSpec.upto netSpoilsSpec)

/-- 'epitaphlaw36.NetFull', WHERE WHAT IT READS IS OF BULK AT MOST 1048576: true; the input reads as it did. -/
def netFullUptoRow : OpenClaim := { program := "ytmfclekjojninaa", sum := "c73fe0c820b24de64f4ba85517d9e9ec9fb5096c09d0809adc2e04e56bd90d4e", func := "epitaph/epitaphlaw36.NetFull", spec := "netFull", apart := false, narrowed := true }
def NetFullUptoSaid : Prop := netFullUptoRow.holds Try.pinned (OpenSpec.upto netFullSpec)

/-- 'epitaphlaw37.ActWrites', WHERE WHAT IT READS IS OF BULK AT MOST 1048576: true; the input reads as it did. -/
def actWritesUptoRow : OpenClaim := { program := "ytmfclekjojninaa", sum := "c73fe0c820b24de64f4ba85517d9e9ec9fb5096c09d0809adc2e04e56bd90d4e", func := "epitaph/epitaphlaw37.ActWrites", spec := "actWrites", apart := false, narrowed := true }
def ActWritesUptoSaid : Prop := actWritesUptoRow.holds Try.pinned (OpenSpec.upto actWritesSpec)

/-- 'epitaphlaw37.ActReads', WHERE WHAT IT READS IS OF BULK AT MOST 1048576: true; the input reads as it did. -/
def actReadsUptoRow : OpenClaim := { program := "ytmfclekjojninaa", sum := "c73fe0c820b24de64f4ba85517d9e9ec9fb5096c09d0809adc2e04e56bd90d4e", func := "epitaph/epitaphlaw37.ActReads", spec := "actReads", apart := false, narrowed := true }
def ActReadsUptoSaid : Prop := actReadsUptoRow.holds Try.pinned (OpenSpec.upto actReadsSpec)

/-- 'epitaphlaw37.ActBack', WHERE WHAT IT READS IS OF BULK AT MOST 1048576: true; the input reads as it did. -/
def actBackUptoRow : OpenClaim := { program := "ytmfclekjojninaa", sum := "c73fe0c820b24de64f4ba85517d9e9ec9fb5096c09d0809adc2e04e56bd90d4e", func := "epitaph/epitaphlaw37.ActBack", spec := "actBack", apart := false, narrowed := true }
def ActBackUptoSaid : Prop := actBackUptoRow.holds Try.pinned (OpenSpec.upto actBackSpec)

end Rows
end Go.Proofs.Ytmfclekjojninaa
