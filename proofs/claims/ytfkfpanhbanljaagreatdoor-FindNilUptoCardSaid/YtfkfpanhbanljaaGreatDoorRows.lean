/-
  NARROWER THAN 'FOR EVERY INPUT', by the rows' own cells (each row's printed sentence says how): FindSays: laid · FindNil: laid · TwinSays: laid · TwinGroups: laid.
  DERIVED. THE GIVEN ROWS OF THIS SEAT. 4 by the template 'for every input the law returns true; each argument reads behind the call as it read before'; 0 by the template 'total and deterministic' (their statements: YtfkfpanhbanljaaGreatDoorTotals.lean).
  GIVEN WITH THE SEED: the statements are not yours to turn. If you find one false, say at which input.
  Laid BY PROGRAM, IN A SANDBOX (cutbox-rows.mjs): the forced cells as the released guide's own fill.sh prints them over the translation 946b258158095e2e… (all of the seat's roots in one cut). By AI agents, Wed Nov 11 2026. No macro, syntax, notation, axiom, sorry.
-/
import Derived.Test.YtfkfpanhbanljaaGreatDoorChecked
import GoSem.PinnedTables
import GoSem.Claim
import GoSem.ClaimJoined
import GoSem.ClaimMapViews
import Derived.JoinedTies
import Derived.KernelRfl
namespace Go.Proofs.YtfkfpanhbanljaaGreatDoor
/- THE CELL 'sum', in the pinned program and in every row, IS THE sha256 OF THE DUMP (.gsa) THAT YtfkfpanhbanljaaGreatDoorProg.lean LOADS. Nothing in Lean hashes anything: it is a label: what it is worth is what the hold of that sum in a sandbox is worth. -/
noncomputable def Tryz.pinned : Pinned := { name := "ytfkfpanhbanljaagreatdoor", sum := "946b258158095e2e99e243a4dbf5d6dbe177b0011d9abadba49f1c8abe99dd91", checked := Tryz.checked }
namespace Rows
def none {H : Type} : Left H := { results := [], args := [] }

/- WHAT THE LISTED PACKAGE-LEVEL VARIABLES READ AS WHEN THE CALL BEGINS. Each datum BY PROGRAM (the guide's laid-datum.mjs) off the statement by which the dump's own 'gosem.cut.vars' lays the variable. In a bare row this is a premise. The card (YtfkfpanhbanljaaGreatDoorCards.lean) ties it to the program's text. -/
def laid_unicode_utf8_acceptRanges {H : Type} : DataW H := .agg [.agg [.lit (.int .u8 128), .lit (.int .u8 191)], .agg [.lit (.int .u8 160), .lit (.int .u8 191)], .agg [.lit (.int .u8 128), .lit (.int .u8 159)], .agg [.lit (.int .u8 144), .lit (.int .u8 191)], .agg [.lit (.int .u8 128), .lit (.int .u8 143)], .agg [.lit (.int .u8 0), .lit (.int .u8 0)], .agg [.lit (.int .u8 0), .lit (.int .u8 0)], .agg [.lit (.int .u8 0), .lit (.int .u8 0)], .agg [.lit (.int .u8 0), .lit (.int .u8 0)], .agg [.lit (.int .u8 0), .lit (.int .u8 0)], .agg [.lit (.int .u8 0), .lit (.int .u8 0)], .agg [.lit (.int .u8 0), .lit (.int .u8 0)], .agg [.lit (.int .u8 0), .lit (.int .u8 0)], .agg [.lit (.int .u8 0), .lit (.int .u8 0)], .agg [.lit (.int .u8 0), .lit (.int .u8 0)], .agg [.lit (.int .u8 0), .lit (.int .u8 0)]]
/-- One of Go's own tables, pinned by name: the form's constant. -/
def laid_unicode_utf8_first : DataW Unit := Go.Pinned.utf8First

/-- 'epitaphlaw45.FindSays': WHATEVER THE INPUT: true; the input reads as it did. -/
def findSaysSpec : ChangeSpec := { name := "findSays", fn := fun _ => fun
  | [d1, d2] => { results := [.lit (.bool true)], args := [d1, d2] }
  | _ => none }
def findSaysRow : OpenClaim := { program := "ytfkfpanhbanljaagreatdoor", sum := "946b258158095e2e99e243a4dbf5d6dbe177b0011d9abadba49f1c8abe99dd91", func := "epitaph/epitaphlaw45.FindSays", spec := "findSays", inPlace := ["internal/bytealg.CountString", "internal/bytealg.IndexByteString", "internal/bytealg.IndexString", "internal/abi.NoEscape", "internal/bytealg.MakeNoZero"], unfollowed := true, recurses := true, named := ["unicode/utf8.first", "unicode/utf8.acceptRanges", "internal/bytealg.MaxLen"], apart := false, laid := [("unicode/utf8.acceptRanges", laid_unicode_utf8_acceptRanges), ("unicode/utf8.first", laid_unicode_utf8_first)] }
def FindSaysSaid : Prop := findSaysRow.holds Tryz.pinned (OpenSpec.ofChange findSaysSpec)

/-- ITS FALSE NEIGHBOUR: 'it returns false'. Refute it at one input. -/
def findSaysWrong : ChangeSpec := { name := "findSays", fn := fun _ => fun
  | [d1, d2] => { results := [.lit (.bool false)], args := [d1, d2] }
  | _ => none }
def FindSaysWrongFalsely : Prop := findSaysRow.holds Tryz.pinned (OpenSpec.ofChange findSaysWrong)

/-- 'epitaphlaw45.FindNil': WHATEVER THE INPUT: true; the input reads as it did. -/
def findNilSpec : ChangeSpec := { name := "findNil", fn := fun _ => fun
  | [d1, d2] => { results := [.lit (.bool true)], args := [d1, d2] }
  | _ => none }
def findNilRow : OpenClaim := { program := "ytfkfpanhbanljaagreatdoor", sum := "946b258158095e2e99e243a4dbf5d6dbe177b0011d9abadba49f1c8abe99dd91", func := "epitaph/epitaphlaw45.FindNil", spec := "findNil", inPlace := ["internal/bytealg.CountString", "internal/bytealg.IndexByteString", "internal/bytealg.IndexString", "internal/abi.NoEscape", "internal/bytealg.MakeNoZero"], unfollowed := true, recurses := true, named := ["unicode/utf8.first", "unicode/utf8.acceptRanges", "internal/bytealg.MaxLen"], apart := false, laid := [("unicode/utf8.acceptRanges", laid_unicode_utf8_acceptRanges), ("unicode/utf8.first", laid_unicode_utf8_first)] }
def FindNilSaid : Prop := findNilRow.holds Tryz.pinned (OpenSpec.ofChange findNilSpec)

/-- ITS FALSE NEIGHBOUR: 'it returns false'. Refute it at one input. -/
def findNilWrong : ChangeSpec := { name := "findNil", fn := fun _ => fun
  | [d1, d2] => { results := [.lit (.bool false)], args := [d1, d2] }
  | _ => none }
def FindNilWrongFalsely : Prop := findNilRow.holds Tryz.pinned (OpenSpec.ofChange findNilWrong)

/-- 'epitaphlaw47.TwinSays': WHATEVER THE INPUT: true; the input reads as it did. -/
def twinSaysSpec : ChangeSpec := { name := "twinSays", fn := fun _ => fun
  | [d] => { results := [.lit (.bool true)], args := [d] }
  | _ => none }
def twinSaysRow : OpenClaim := { program := "ytfkfpanhbanljaagreatdoor", sum := "946b258158095e2e99e243a4dbf5d6dbe177b0011d9abadba49f1c8abe99dd91", func := "epitaph/epitaphlaw47.TwinSays", spec := "twinSays", inPlace := ["internal/bytealg.IndexByteString", "internal/bytealg.IndexString", "internal/bytealg.CountString", "internal/abi.NoEscape", "internal/bytealg.MakeNoZero"], unfollowed := true, recurses := true, named := ["unicode/utf8.first", "unicode/utf8.acceptRanges", "internal/bytealg.MaxLen"], apart := false, laid := [("unicode/utf8.acceptRanges", laid_unicode_utf8_acceptRanges), ("unicode/utf8.first", laid_unicode_utf8_first)] }
def TwinSaysSaid : Prop := twinSaysRow.holds Tryz.pinned (OpenSpec.ofChange twinSaysSpec)

/-- ITS FALSE NEIGHBOUR: 'it returns false'. Refute it at one input. -/
def twinSaysWrong : ChangeSpec := { name := "twinSays", fn := fun _ => fun
  | [d] => { results := [.lit (.bool false)], args := [d] }
  | _ => none }
def TwinSaysWrongFalsely : Prop := twinSaysRow.holds Tryz.pinned (OpenSpec.ofChange twinSaysWrong)

/-- 'epitaphlaw47.TwinGroups': WHATEVER THE INPUT: true; the input reads as it did. -/
def twinGroupsSpec : ChangeSpec := { name := "twinGroups", fn := fun _ => fun
  | [d] => { results := [.lit (.bool true)], args := [d] }
  | _ => none }
def twinGroupsRow : OpenClaim := { program := "ytfkfpanhbanljaagreatdoor", sum := "946b258158095e2e99e243a4dbf5d6dbe177b0011d9abadba49f1c8abe99dd91", func := "epitaph/epitaphlaw47.TwinGroups", spec := "twinGroups", inPlace := ["internal/bytealg.IndexByteString", "internal/bytealg.IndexString", "internal/bytealg.CountString", "internal/abi.NoEscape", "internal/bytealg.MakeNoZero"], unfollowed := true, recurses := true, named := ["unicode/utf8.first", "unicode/utf8.acceptRanges", "internal/bytealg.MaxLen"], apart := false, laid := [("unicode/utf8.acceptRanges", laid_unicode_utf8_acceptRanges), ("unicode/utf8.first", laid_unicode_utf8_first)] }
def TwinGroupsSaid : Prop := twinGroupsRow.holds Tryz.pinned (OpenSpec.ofChange twinGroupsSpec)

/-- ITS FALSE NEIGHBOUR: 'it returns false'. Refute it at one input. -/
def twinGroupsWrong : ChangeSpec := { name := "twinGroups", fn := fun _ => fun
  | [d] => { results := [.lit (.bool false)], args := [d] }
  | _ => none }
def TwinGroupsWrongFalsely : Prop := twinGroupsRow.holds Tryz.pinned (OpenSpec.ofChange twinGroupsWrong)

/- THE SECOND FORM. 'bulk': how many values and letters a reading holds, each counted each time it is reached (what is shared counts as often as it is met; a slice's spare places count too). A statement '..UptoSaid' is the law's where the arguments, and the package variables that the reading takes, are together of bulk at most 1048576: NARROWER than '..Said'. Prove '..Said' where nothing that the law and all that it calls make is longer than what came in: it says more and counts as full. Else prove '..UptoSaid'. A law counts once. -/
mutual
def uptoBulk {H : Type} : DataW H → Nat
  | .lit (.string bytes) => bytes.length + 1
  | .lit _ => 1
  | .nil => 1
  | .ptr d => uptoBulk d + 1
  | .slice elems spare => uptoBulkAll elems + uptoBulkAll spare + 1
  | .agg parts => uptoBulkAll parts + 1
  | .iface _ d => uptoBulk d + 1
  | .map entries => uptoBulkEntries entries + 1
  | .held _ => 1
def uptoBulkAll {H : Type} : List (DataW H) → Nat
  | [] => 0
  | d :: r => uptoBulk d + uptoBulkAll r
def uptoBulkEntries {H : Type} : List (Lit × DataW H) → Nat
  | [] => 0
  | x :: r => uptoBulkEntry x + uptoBulkEntries r
def uptoBulkEntry {H : Type} : Lit × DataW H → Nat
  | (.string bytes, d) => bytes.length + uptoBulk d + 1
  | (_, d) => uptoBulk d + 1
 end
def uptoSmall : (H : Type) → List (DataW H) → Bool := fun _ ds => decide (uptoBulkAll ds ≤ 1048576)
def OpenSpec.upto (s : _root_.Go.ChangeSpec) : _root_.Go.OpenSpec := { _root_.Go.OpenSpec.ofChange s with cond := some uptoSmall }

/-- 'epitaphlaw45.FindSays', WHERE WHAT IT READS IS OF BULK AT MOST 1048576: true; the input reads as it did. -/
def findSaysUptoRow : OpenClaim := { program := "ytfkfpanhbanljaagreatdoor", sum := "946b258158095e2e99e243a4dbf5d6dbe177b0011d9abadba49f1c8abe99dd91", func := "epitaph/epitaphlaw45.FindSays", spec := "findSays", inPlace := ["internal/bytealg.CountString", "internal/bytealg.IndexByteString", "internal/bytealg.IndexString", "internal/abi.NoEscape", "internal/bytealg.MakeNoZero"], unfollowed := true, recurses := true, named := ["unicode/utf8.first", "unicode/utf8.acceptRanges", "internal/bytealg.MaxLen"], apart := false, laid := [("unicode/utf8.acceptRanges", laid_unicode_utf8_acceptRanges), ("unicode/utf8.first", laid_unicode_utf8_first)], narrowed := true }
def FindSaysUptoSaid : Prop := findSaysUptoRow.holds Tryz.pinned (OpenSpec.upto findSaysSpec)

/-- 'epitaphlaw45.FindNil', WHERE WHAT IT READS IS OF BULK AT MOST 1048576: true; the input reads as it did. -/
def findNilUptoRow : OpenClaim := { program := "ytfkfpanhbanljaagreatdoor", sum := "946b258158095e2e99e243a4dbf5d6dbe177b0011d9abadba49f1c8abe99dd91", func := "epitaph/epitaphlaw45.FindNil", spec := "findNil", inPlace := ["internal/bytealg.CountString", "internal/bytealg.IndexByteString", "internal/bytealg.IndexString", "internal/abi.NoEscape", "internal/bytealg.MakeNoZero"], unfollowed := true, recurses := true, named := ["unicode/utf8.first", "unicode/utf8.acceptRanges", "internal/bytealg.MaxLen"], apart := false, laid := [("unicode/utf8.acceptRanges", laid_unicode_utf8_acceptRanges), ("unicode/utf8.first", laid_unicode_utf8_first)], narrowed := true }
def FindNilUptoSaid : Prop := findNilUptoRow.holds Tryz.pinned (OpenSpec.upto findNilSpec)

/-- 'epitaphlaw47.TwinSays', WHERE WHAT IT READS IS OF BULK AT MOST 1048576: true; the input reads as it did. -/
def twinSaysUptoRow : OpenClaim := { program := "ytfkfpanhbanljaagreatdoor", sum := "946b258158095e2e99e243a4dbf5d6dbe177b0011d9abadba49f1c8abe99dd91", func := "epitaph/epitaphlaw47.TwinSays", spec := "twinSays", inPlace := ["internal/bytealg.IndexByteString", "internal/bytealg.IndexString", "internal/bytealg.CountString", "internal/abi.NoEscape", "internal/bytealg.MakeNoZero"], unfollowed := true, recurses := true, named := ["unicode/utf8.first", "unicode/utf8.acceptRanges", "internal/bytealg.MaxLen"], apart := false, laid := [("unicode/utf8.acceptRanges", laid_unicode_utf8_acceptRanges), ("unicode/utf8.first", laid_unicode_utf8_first)], narrowed := true }
def TwinSaysUptoSaid : Prop := twinSaysUptoRow.holds Tryz.pinned (OpenSpec.upto twinSaysSpec)

/-- 'epitaphlaw47.TwinGroups', WHERE WHAT IT READS IS OF BULK AT MOST 1048576: true; the input reads as it did. -/
def twinGroupsUptoRow : OpenClaim := { program := "ytfkfpanhbanljaagreatdoor", sum := "946b258158095e2e99e243a4dbf5d6dbe177b0011d9abadba49f1c8abe99dd91", func := "epitaph/epitaphlaw47.TwinGroups", spec := "twinGroups", inPlace := ["internal/bytealg.IndexByteString", "internal/bytealg.IndexString", "internal/bytealg.CountString", "internal/abi.NoEscape", "internal/bytealg.MakeNoZero"], unfollowed := true, recurses := true, named := ["unicode/utf8.first", "unicode/utf8.acceptRanges", "internal/bytealg.MaxLen"], apart := false, laid := [("unicode/utf8.acceptRanges", laid_unicode_utf8_acceptRanges), ("unicode/utf8.first", laid_unicode_utf8_first)], narrowed := true }
def TwinGroupsUptoSaid : Prop := twinGroupsUptoRow.holds Tryz.pinned (OpenSpec.upto twinGroupsSpec)

end Rows
end Go.Proofs.YtfkfpanhbanljaaGreatDoor
