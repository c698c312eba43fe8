/-
  No cell of these rows narrows 'for every input' (looked for: loops, veiled, ifaces, maps, wideKeys, modest, calm, conditions, laid).
  DERIVED. THE GIVEN ROWS OF THIS SEAT. 5 by the template 'for every input the law returns true; each argument reads behind the call as it read before'; 0 by the template 'total and deterministic' (their statements: YtnmcclkpgbdenaaTotals.lean).
  GIVEN WITH THE SEED: the statements are not yours to turn. If you find one false, say at which input.
  Laid BY PROGRAM, IN A SANDBOX (cutbox-rows.mjs): the forced cells as the released guide's own fill.sh prints them over the translation c516662b23a29c41… (all of the seat's roots in one cut). By AI agents, Wed Nov 11 2026. No macro, syntax, notation, axiom, sorry.
-/
import Derived.Test.YtnmcclkpgbdenaaChecked
import GoSem.Claim
import GoSem.ClaimJoined
import GoSem.ClaimMapViews
import Derived.JoinedTies
import Derived.KernelRfl
namespace Go.Proofs.Ytnmcclkpgbdenaa
/- THE CELL 'sum', in the pinned program and in every row, IS THE sha256 OF THE DUMP (.gsa) THAT YtnmcclkpgbdenaaProg.lean LOADS. Nothing in Lean hashes anything: it is a label: what it is worth is what the hold of that sum in a sandbox is worth. -/
noncomputable def Try.pinned : Pinned := { name := "ytnmcclkpgbdenaa", sum := "c516662b23a29c41b38549becbde289da8d9bfe92ca80b0511b7b11bd1dbf342", checked := Try.checked }
namespace Rows
def none {H : Type} : Left H := { results := [], args := [] }

/-- 'epitaphlaw50.ChangeDiffs': WHATEVER THE INPUT: true; the input reads as it did. -/
def changeDiffsSpec : ChangeSpec := { name := "changeDiffs", fn := fun _ => fun
  | [d1, d2] => { results := [.lit (.bool true)], args := [d1, d2] }
  | _ => none }
def changeDiffsRow : OpenClaim := { program := "ytnmcclkpgbdenaa", sum := "c516662b23a29c41b38549becbde289da8d9bfe92ca80b0511b7b11bd1dbf342", func := "epitaph/epitaphlaw50.ChangeDiffs", spec := "changeDiffs", inPlace := ["slices.overlaps[epitaph/api.Card]", "slices.overlaps[epitaph/api.Line]"], unfollowed := true, recurses := true, apart := false }
def ChangeDiffsSaid : Prop := changeDiffsRow.holds Try.pinned (OpenSpec.ofChange changeDiffsSpec)

/-- ITS FALSE NEIGHBOUR: 'it returns false'. Refute it at one input. -/
def changeDiffsWrong : ChangeSpec := { name := "changeDiffs", fn := fun _ => fun
  | [d1, d2] => { results := [.lit (.bool false)], args := [d1, d2] }
  | _ => none }
def ChangeDiffsWrongFalsely : Prop := changeDiffsRow.holds Try.pinned (OpenSpec.ofChange changeDiffsWrong)

/-- 'epitaphlaw50.ChangeApplies': WHATEVER THE INPUT: true; the input reads as it did. -/
def changeAppliesSpec : ChangeSpec := { name := "changeApplies", fn := fun _ => fun
  | [d1, d2] => { results := [.lit (.bool true)], args := [d1, d2] }
  | _ => none }
def changeAppliesRow : OpenClaim := { program := "ytnmcclkpgbdenaa", sum := "c516662b23a29c41b38549becbde289da8d9bfe92ca80b0511b7b11bd1dbf342", func := "epitaph/epitaphlaw50.ChangeApplies", spec := "changeApplies", inPlace := ["slices.overlaps[epitaph/api.Card]", "slices.overlaps[epitaph/api.Line]"], unfollowed := true, recurses := true, apart := false }
def ChangeAppliesSaid : Prop := changeAppliesRow.holds Try.pinned (OpenSpec.ofChange changeAppliesSpec)

/-- ITS FALSE NEIGHBOUR: 'it returns false'. Refute it at one input. -/
def changeAppliesWrong : ChangeSpec := { name := "changeApplies", fn := fun _ => fun
  | [d1, d2] => { results := [.lit (.bool false)], args := [d1, d2] }
  | _ => none }
def ChangeAppliesWrongFalsely : Prop := changeAppliesRow.holds Try.pinned (OpenSpec.ofChange changeAppliesWrong)

/-- 'epitaphlaw14.RegShows': WHATEVER THE INPUT: true; the input reads as it did. -/
def regShowsSpec : ChangeSpec := { name := "regShows", fn := fun _ => fun
  | [d1, d2] => { results := [.lit (.bool true)], args := [d1, d2] }
  | _ => none }
def regShowsRow : OpenClaim := { program := "ytnmcclkpgbdenaa", sum := "c516662b23a29c41b38549becbde289da8d9bfe92ca80b0511b7b11bd1dbf342", func := "epitaph/epitaphlaw14.RegShows", spec := "regShows", unfollowed := true, recurses := true, apart := false }
def RegShowsSaid : Prop := regShowsRow.holds Try.pinned (OpenSpec.ofChange regShowsSpec)

/-- ITS FALSE NEIGHBOUR: 'it returns false'. Refute it at one input. -/
def regShowsWrong : ChangeSpec := { name := "regShows", fn := fun _ => fun
  | [d1, d2] => { results := [.lit (.bool false)], args := [d1, d2] }
  | _ => none }
def RegShowsWrongFalsely : Prop := regShowsRow.holds Try.pinned (OpenSpec.ofChange regShowsWrong)

/-- 'epitaphlaw14.RegOrder': WHATEVER THE INPUT: true; the input reads as it did. -/
def regOrderSpec : ChangeSpec := { name := "regOrder", fn := fun _ => fun
  | [d1, d2, d3] => { results := [.lit (.bool true)], args := [d1, d2, d3] }
  | _ => none }
def regOrderRow : OpenClaim := { program := "ytnmcclkpgbdenaa", sum := "c516662b23a29c41b38549becbde289da8d9bfe92ca80b0511b7b11bd1dbf342", func := "epitaph/epitaphlaw14.RegOrder", spec := "regOrder", unfollowed := true, recurses := true, apart := false }
def RegOrderSaid : Prop := regOrderRow.holds Try.pinned (OpenSpec.ofChange regOrderSpec)

/-- ITS FALSE NEIGHBOUR: 'it returns false'. Refute it at one input. -/
def regOrderWrong : ChangeSpec := { name := "regOrder", fn := fun _ => fun
  | [d1, d2, d3] => { results := [.lit (.bool false)], args := [d1, d2, d3] }
  | _ => none }
def RegOrderWrongFalsely : Prop := regOrderRow.holds Try.pinned (OpenSpec.ofChange regOrderWrong)

/-- 'epitaphlaw41.PastNil': WHATEVER THE INPUT: true; the input reads as it did. -/
def pastNilSpec : ChangeSpec := { name := "pastNil", fn := fun _ => fun
  | [d1, d2] => { results := [.lit (.bool true)], args := [d1, d2] }
  | _ => none }
def pastNilRow : OpenClaim := { program := "ytnmcclkpgbdenaa", sum := "c516662b23a29c41b38549becbde289da8d9bfe92ca80b0511b7b11bd1dbf342", func := "epitaph/epitaphlaw41.PastNil", spec := "pastNil", unfollowed := true, recurses := true, apart := false }
def PastNilSaid : Prop := pastNilRow.holds Try.pinned (OpenSpec.ofChange pastNilSpec)

/-- ITS FALSE NEIGHBOUR: 'it returns false'. Refute it at one input. -/
def pastNilWrong : ChangeSpec := { name := "pastNil", fn := fun _ => fun
  | [d1, d2] => { results := [.lit (.bool false)], args := [d1, d2] }
  | _ => none }
def PastNilWrongFalsely : Prop := pastNilRow.holds Try.pinned (OpenSpec.ofChange pastNilWrong)

/- THE SECOND FORM. 'bulk': how many values and letters a reading holds, each counted each time it is reached (what is shared counts as often as it is met; a slice's spare places count too). A statement '..UptoSaid' is the law's where the arguments, and the package variables that the reading takes, are together of bulk at most 1048576: NARROWER than '..Said'. Prove '..Said' where nothing that the law and all that it calls make is longer than what came in: it says more and counts as full. Else prove '..UptoSaid'. A law counts once. -/
mutual
def uptoBulk {H : Type} : DataW H → Nat
  | .lit (.string bytes) => bytes.length + 1
  | .lit _ => 1
  | .nil => 1
  | .ptr d => uptoBulk d + 1
  | .slice elems spare => uptoBulkAll elems + uptoBulkAll spare + 1
  | .agg parts => uptoBulkAll parts + 1
  | .iface _ d => uptoBulk d + 1
  | .map entries => uptoBulkEntries entries + 1
  | .held _ => 1
def uptoBulkAll {H : Type} : List (DataW H) → Nat
  | [] => 0
  | d :: r => uptoBulk d + uptoBulkAll r
def uptoBulkEntries {H : Type} : List (Lit × DataW H) → Nat
  | [] => 0
  | x :: r => uptoBulkEntry x + uptoBulkEntries r
def uptoBulkEntry {H : Type} : Lit × DataW H → Nat
  | (.string bytes, d) => bytes.length + uptoBulk d + 1
  | (_, d) => uptoBulk d + 1
 end
def uptoSmall : (H : Type) → List (DataW H) → Bool := fun _ ds => decide (uptoBulkAll ds ≤ 1048576)
def OpenSpec.upto (s : _root_.Go.ChangeSpec) : _root_.Go.OpenSpec := { _root_.Go.OpenSpec.ofChange s with cond := some uptoSmall }

/-- 'epitaphlaw50.ChangeDiffs', WHERE WHAT IT READS IS OF BULK AT MOST 1048576: true; the input reads as it did. -/
def changeDiffsUptoRow : OpenClaim := { program := "ytnmcclkpgbdenaa", sum := "c516662b23a29c41b38549becbde289da8d9bfe92ca80b0511b7b11bd1dbf342", func := "epitaph/epitaphlaw50.ChangeDiffs", spec := "changeDiffs", inPlace := ["slices.overlaps[epitaph/api.Card]", "slices.overlaps[epitaph/api.Line]"], unfollowed := true, recurses := true, apart := false, narrowed := true }
def ChangeDiffsUptoSaid : Prop := changeDiffsUptoRow.holds Try.pinned (OpenSpec.upto changeDiffsSpec)

/-- 'epitaphlaw50.ChangeApplies', WHERE WHAT IT READS IS OF BULK AT MOST 1048576: true; the input reads as it did. -/
def changeAppliesUptoRow : OpenClaim := { program := "ytnmcclkpgbdenaa", sum := "c516662b23a29c41b38549becbde289da8d9bfe92ca80b0511b7b11bd1dbf342", func := "epitaph/epitaphlaw50.ChangeApplies", spec := "changeApplies", inPlace := ["slices.overlaps[epitaph/api.Card]", "slices.overlaps[epitaph/api.Line]"], unfollowed := true, recurses := true, apart := false, narrowed := true }
def ChangeAppliesUptoSaid : Prop := changeAppliesUptoRow.holds Try.pinned (OpenSpec.upto changeAppliesSpec)

/-- 'epitaphlaw14.RegShows', WHERE WHAT IT READS IS OF BULK AT MOST 1048576: true; the input reads as it did. -/
def regShowsUptoRow : OpenClaim := { program := "ytnmcclkpgbdenaa", sum := "c516662b23a29c41b38549becbde289da8d9bfe92ca80b0511b7b11bd1dbf342", func := "epitaph/epitaphlaw14.RegShows", spec := "regShows", unfollowed := true, recurses := true, apart := false, narrowed := true }
def RegShowsUptoSaid : Prop := regShowsUptoRow.holds Try.pinned (OpenSpec.upto regShowsSpec)

/-- 'epitaphlaw14.RegOrder', WHERE WHAT IT READS IS OF BULK AT MOST 1048576: true; the input reads as it did. -/
def regOrderUptoRow : OpenClaim := { program := "ytnmcclkpgbdenaa", sum := "c516662b23a29c41b38549becbde289da8d9bfe92ca80b0511b7b11bd1dbf342", func := "epitaph/epitaphlaw14.RegOrder", spec := "regOrder", unfollowed := true, recurses := true, apart := false, narrowed := true }
def RegOrderUptoSaid : Prop := regOrderUptoRow.holds Try.pinned (OpenSpec.upto regOrderSpec)

/-- 'epitaphlaw41.PastNil', WHERE WHAT IT READS IS OF BULK AT MOST 1048576: true; the input reads as it did. -/
def pastNilUptoRow : OpenClaim := { program := "ytnmcclkpgbdenaa", sum := "c516662b23a29c41b38549becbde289da8d9bfe92ca80b0511b7b11bd1dbf342", func := "epitaph/epitaphlaw41.PastNil", spec := "pastNil", unfollowed := true, recurses := true, apart := false, narrowed := true }
def PastNilUptoSaid : Prop := pastNilUptoRow.holds Try.pinned (OpenSpec.upto pastNilSpec)

end Rows
end Go.Proofs.Ytnmcclkpgbdenaa
