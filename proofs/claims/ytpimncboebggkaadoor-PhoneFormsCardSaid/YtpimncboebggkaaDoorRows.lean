/-
  NARROWER THAN 'FOR EVERY INPUT', by the rows' own cells (each row's printed sentence says how): FoldBegins: laid · PhoneSays: laid · PhoneForms: laid · FoldSays: laid · FoldOrders: laid.
  DERIVED. THE GIVEN ROWS OF THIS SEAT. 5 by the template 'for every input the law returns true; each argument reads behind the call as it read before'; 0 by the template 'total and deterministic' (their statements: YtpimncboebggkaaDoorTotals.lean).
  GIVEN WITH THE SEED: the statements are not yours to turn. If you find one false, say at which input.
  Laid BY PROGRAM, IN A SANDBOX (cutbox-rows.mjs): the forced cells as the released guide's own fill.sh prints them over the translation 443c13e53d372473… (all of the seat's roots in one cut). By AI agents, Wed Nov 11 2026. No macro, syntax, notation, axiom, sorry.
-/
import Derived.Test.YtpimncboebggkaaDoorChecked
import GoSem.PinnedTables
import GoSem.Claim
import GoSem.ClaimJoined
import GoSem.ClaimMapViews
import Derived.JoinedTies
import Derived.KernelRfl
namespace Go.Proofs.YtpimncboebggkaaDoor
/- THE CELL 'sum', in the pinned program and in every row, IS THE sha256 OF THE DUMP (.gsa) THAT YtpimncboebggkaaDoorProg.lean LOADS. Nothing in Lean hashes anything: it is a label: what it is worth is what the hold of that sum in a sandbox is worth. -/
noncomputable def Tryd.pinned : Pinned := { name := "ytpimncboebggkaadoor", sum := "443c13e53d372473c7f14721fd010c7ea340661862c0fc594fe32a93cc889306", checked := Tryd.checked }
namespace Rows
def none {H : Type} : Left H := { results := [], args := [] }

/- WHAT THE LISTED PACKAGE-LEVEL VARIABLES READ AS WHEN THE CALL BEGINS. Each datum BY PROGRAM (the guide's laid-datum.mjs) off the statement by which the dump's own 'gosem.cut.vars' lays the variable. In a bare row this is a premise. The card (YtpimncboebggkaaDoorCards.lean) ties it to the program's text. -/
def laid_unicode_utf8_acceptRanges {H : Type} : DataW H := .agg [.agg [.lit (.int .u8 128), .lit (.int .u8 191)], .agg [.lit (.int .u8 160), .lit (.int .u8 191)], .agg [.lit (.int .u8 128), .lit (.int .u8 159)], .agg [.lit (.int .u8 144), .lit (.int .u8 191)], .agg [.lit (.int .u8 128), .lit (.int .u8 143)], .agg [.lit (.int .u8 0), .lit (.int .u8 0)], .agg [.lit (.int .u8 0), .lit (.int .u8 0)], .agg [.lit (.int .u8 0), .lit (.int .u8 0)], .agg [.lit (.int .u8 0), .lit (.int .u8 0)], .agg [.lit (.int .u8 0), .lit (.int .u8 0)], .agg [.lit (.int .u8 0), .lit (.int .u8 0)], .agg [.lit (.int .u8 0), .lit (.int .u8 0)], .agg [.lit (.int .u8 0), .lit (.int .u8 0)], .agg [.lit (.int .u8 0), .lit (.int .u8 0)], .agg [.lit (.int .u8 0), .lit (.int .u8 0)], .agg [.lit (.int .u8 0), .lit (.int .u8 0)]]
/-- One of Go's own tables, pinned by name: the form's constant. -/
def laid_unicode_utf8_first : DataW Unit := Go.Pinned.utf8First

/-- 'epitaphlaw43.FoldBegins': WHATEVER THE INPUT: true; the input reads as it did. -/
def foldBeginsSpec : ChangeSpec := { name := "foldBegins", fn := fun _ => fun
  | [d1, d2, d3] => { results := [.lit (.bool true)], args := [d1, d2, d3] }
  | _ => none }
def foldBeginsRow : OpenClaim := { program := "ytpimncboebggkaadoor", sum := "443c13e53d372473c7f14721fd010c7ea340661862c0fc594fe32a93cc889306", func := "epitaph/epitaphlaw43.FoldBegins", spec := "foldBegins", inPlace := ["internal/bytealg.CountString", "internal/bytealg.IndexByteString", "internal/bytealg.IndexString", "internal/abi.NoEscape", "internal/bytealg.MakeNoZero"], unfollowed := true, recurses := true, named := ["unicode/utf8.first", "unicode/utf8.acceptRanges", "internal/bytealg.MaxLen"], apart := false, laid := [("unicode/utf8.acceptRanges", laid_unicode_utf8_acceptRanges), ("unicode/utf8.first", laid_unicode_utf8_first)] }
def FoldBeginsSaid : Prop := foldBeginsRow.holds Tryd.pinned (OpenSpec.ofChange foldBeginsSpec)

/-- ITS FALSE NEIGHBOUR: 'it returns false'. Refute it at one input. -/
def foldBeginsWrong : ChangeSpec := { name := "foldBegins", fn := fun _ => fun
  | [d1, d2, d3] => { results := [.lit (.bool false)], args := [d1, d2, d3] }
  | _ => none }
def FoldBeginsWrongFalsely : Prop := foldBeginsRow.holds Tryd.pinned (OpenSpec.ofChange foldBeginsWrong)

/-- 'epitaphlaw46.PhoneSays': WHATEVER THE INPUT: true; the input reads as it did. -/
def phoneSaysSpec : ChangeSpec := { name := "phoneSays", fn := fun _ => fun
  | [d1, d2] => { results := [.lit (.bool true)], args := [d1, d2] }
  | _ => none }
def phoneSaysRow : OpenClaim := { program := "ytpimncboebggkaadoor", sum := "443c13e53d372473c7f14721fd010c7ea340661862c0fc594fe32a93cc889306", func := "epitaph/epitaphlaw46.PhoneSays", spec := "phoneSays", inPlace := ["internal/bytealg.IndexByteString", "internal/bytealg.IndexString"], named := ["unicode/utf8.first", "unicode/utf8.acceptRanges", "internal/bytealg.MaxLen"], apart := false, laid := [("unicode/utf8.acceptRanges", laid_unicode_utf8_acceptRanges), ("unicode/utf8.first", laid_unicode_utf8_first)] }
def PhoneSaysSaid : Prop := phoneSaysRow.holds Tryd.pinned (OpenSpec.ofChange phoneSaysSpec)

/-- ITS FALSE NEIGHBOUR: 'it returns false'. Refute it at one input. -/
def phoneSaysWrong : ChangeSpec := { name := "phoneSays", fn := fun _ => fun
  | [d1, d2] => { results := [.lit (.bool false)], args := [d1, d2] }
  | _ => none }
def PhoneSaysWrongFalsely : Prop := phoneSaysRow.holds Tryd.pinned (OpenSpec.ofChange phoneSaysWrong)

/-- 'epitaphlaw46.PhoneForms': WHATEVER THE INPUT: true; the input reads as it did. -/
def phoneFormsSpec : ChangeSpec := { name := "phoneForms", fn := fun _ => fun
  | [d1, d2, d3] => { results := [.lit (.bool true)], args := [d1, d2, d3] }
  | _ => none }
def phoneFormsRow : OpenClaim := { program := "ytpimncboebggkaadoor", sum := "443c13e53d372473c7f14721fd010c7ea340661862c0fc594fe32a93cc889306", func := "epitaph/epitaphlaw46.PhoneForms", spec := "phoneForms", inPlace := ["internal/bytealg.IndexByteString", "internal/bytealg.IndexString"], named := ["unicode/utf8.first", "unicode/utf8.acceptRanges", "internal/bytealg.MaxLen"], apart := false, laid := [("unicode/utf8.acceptRanges", laid_unicode_utf8_acceptRanges), ("unicode/utf8.first", laid_unicode_utf8_first)] }
def PhoneFormsSaid : Prop := phoneFormsRow.holds Tryd.pinned (OpenSpec.ofChange phoneFormsSpec)

/-- ITS FALSE NEIGHBOUR: 'it returns false'. Refute it at one input. -/
def phoneFormsWrong : ChangeSpec := { name := "phoneForms", fn := fun _ => fun
  | [d1, d2, d3] => { results := [.lit (.bool false)], args := [d1, d2, d3] }
  | _ => none }
def PhoneFormsWrongFalsely : Prop := phoneFormsRow.holds Tryd.pinned (OpenSpec.ofChange phoneFormsWrong)

/-- 'epitaphlaw43.FoldSays': WHATEVER THE INPUT: true; the input reads as it did. -/
def foldSaysSpec : ChangeSpec := { name := "foldSays", fn := fun _ => fun
  | [d1, d2] => { results := [.lit (.bool true)], args := [d1, d2] }
  | _ => none }
def foldSaysRow : OpenClaim := { program := "ytpimncboebggkaadoor", sum := "443c13e53d372473c7f14721fd010c7ea340661862c0fc594fe32a93cc889306", func := "epitaph/epitaphlaw43.FoldSays", spec := "foldSays", inPlace := ["internal/bytealg.CountString", "internal/bytealg.IndexByteString", "internal/bytealg.IndexString", "internal/abi.NoEscape", "internal/bytealg.MakeNoZero"], unfollowed := true, recurses := true, named := ["unicode/utf8.first", "unicode/utf8.acceptRanges", "internal/bytealg.MaxLen"], apart := false, laid := [("unicode/utf8.acceptRanges", laid_unicode_utf8_acceptRanges), ("unicode/utf8.first", laid_unicode_utf8_first)] }
def FoldSaysSaid : Prop := foldSaysRow.holds Tryd.pinned (OpenSpec.ofChange foldSaysSpec)

/-- ITS FALSE NEIGHBOUR: 'it returns false'. Refute it at one input. -/
def foldSaysWrong : ChangeSpec := { name := "foldSays", fn := fun _ => fun
  | [d1, d2] => { results := [.lit (.bool false)], args := [d1, d2] }
  | _ => none }
def FoldSaysWrongFalsely : Prop := foldSaysRow.holds Tryd.pinned (OpenSpec.ofChange foldSaysWrong)

/-- 'epitaphlaw43.FoldOrders': WHATEVER THE INPUT: true; the input reads as it did. -/
def foldOrdersSpec : ChangeSpec := { name := "foldOrders", fn := fun _ => fun
  | [d1, d2, d3] => { results := [.lit (.bool true)], args := [d1, d2, d3] }
  | _ => none }
def foldOrdersRow : OpenClaim := { program := "ytpimncboebggkaadoor", sum := "443c13e53d372473c7f14721fd010c7ea340661862c0fc594fe32a93cc889306", func := "epitaph/epitaphlaw43.FoldOrders", spec := "foldOrders", inPlace := ["internal/bytealg.CountString", "internal/bytealg.IndexByteString", "internal/bytealg.IndexString", "internal/abi.NoEscape", "internal/bytealg.MakeNoZero"], unfollowed := true, recurses := true, named := ["unicode/utf8.first", "unicode/utf8.acceptRanges", "internal/bytealg.MaxLen"], apart := false, laid := [("unicode/utf8.acceptRanges", laid_unicode_utf8_acceptRanges), ("unicode/utf8.first", laid_unicode_utf8_first)] }
def FoldOrdersSaid : Prop := foldOrdersRow.holds Tryd.pinned (OpenSpec.ofChange foldOrdersSpec)

/-- ITS FALSE NEIGHBOUR: 'it returns false'. Refute it at one input. -/
def foldOrdersWrong : ChangeSpec := { name := "foldOrders", fn := fun _ => fun
  | [d1, d2, d3] => { results := [.lit (.bool false)], args := [d1, d2, d3] }
  | _ => none }
def FoldOrdersWrongFalsely : Prop := foldOrdersRow.holds Tryd.pinned (OpenSpec.ofChange foldOrdersWrong)

/- THE SECOND FORM. 'bulk': how many values and letters a reading holds, each counted each time it is reached (what is shared counts as often as it is met; a slice's spare places count too). A statement '..UptoSaid' is the law's where the arguments, and the package variables that the reading takes, are together of bulk at most 1048576: NARROWER than '..Said'. Prove '..Said' where nothing that the law and all that it calls make is longer than what came in: it says more and counts as full. Else prove '..UptoSaid'. A law counts once. -/
mutual
def uptoBulk {H : Type} : DataW H → Nat
  | .lit (.string bytes) => bytes.length + 1
  | .lit _ => 1
  | .nil => 1
  | .ptr d => uptoBulk d + 1
  | .slice elems spare => uptoBulkAll elems + uptoBulkAll spare + 1
  | .agg parts => uptoBulkAll parts + 1
  | .iface _ d => uptoBulk d + 1
  | .map entries => uptoBulkEntries entries + 1
  | .held _ => 1
def uptoBulkAll {H : Type} : List (DataW H) → Nat
  | [] => 0
  | d :: r => uptoBulk d + uptoBulkAll r
def uptoBulkEntries {H : Type} : List (Lit × DataW H) → Nat
  | [] => 0
  | x :: r => uptoBulkEntry x + uptoBulkEntries r
def uptoBulkEntry {H : Type} : Lit × DataW H → Nat
  | (.string bytes, d) => bytes.length + uptoBulk d + 1
  | (_, d) => uptoBulk d + 1
 end
def uptoSmall : (H : Type) → List (DataW H) → Bool := fun _ ds => decide (uptoBulkAll ds ≤ 1048576)
def OpenSpec.upto (s : _root_.Go.ChangeSpec) : _root_.Go.OpenSpec := { _root_.Go.OpenSpec.ofChange s with cond := some uptoSmall }

/-- 'epitaphlaw43.FoldBegins', WHERE WHAT IT READS IS OF BULK AT MOST 1048576: true; the input reads as it did. -/
def foldBeginsUptoRow : OpenClaim := { program := "ytpimncboebggkaadoor", sum := "443c13e53d372473c7f14721fd010c7ea340661862c0fc594fe32a93cc889306", func := "epitaph/epitaphlaw43.FoldBegins", spec := "foldBegins", inPlace := ["internal/bytealg.CountString", "internal/bytealg.IndexByteString", "internal/bytealg.IndexString", "internal/abi.NoEscape", "internal/bytealg.MakeNoZero"], unfollowed := true, recurses := true, named := ["unicode/utf8.first", "unicode/utf8.acceptRanges", "internal/bytealg.MaxLen"], apart := false, laid := [("unicode/utf8.acceptRanges", laid_unicode_utf8_acceptRanges), ("unicode/utf8.first", laid_unicode_utf8_first)], narrowed := true }
def FoldBeginsUptoSaid : Prop := foldBeginsUptoRow.holds Tryd.pinned (OpenSpec.upto foldBeginsSpec)

/-- 'epitaphlaw46.PhoneSays', WHERE WHAT IT READS IS OF BULK AT MOST 1048576: true; the input reads as it did. -/
def phoneSaysUptoRow : OpenClaim := { program := "ytpimncboebggkaadoor", sum := "443c13e53d372473c7f14721fd010c7ea340661862c0fc594fe32a93cc889306", func := "epitaph/epitaphlaw46.PhoneSays", spec := "phoneSays", inPlace := ["internal/bytealg.IndexByteString", "internal/bytealg.IndexString"], named := ["unicode/utf8.first", "unicode/utf8.acceptRanges", "internal/bytealg.MaxLen"], apart := false, laid := [("unicode/utf8.acceptRanges", laid_unicode_utf8_acceptRanges), ("unicode/utf8.first", laid_unicode_utf8_first)], narrowed := true }
def PhoneSaysUptoSaid : Prop := phoneSaysUptoRow.holds Tryd.pinned (OpenSpec.upto phoneSaysSpec)

/-- 'epitaphlaw46.PhoneForms', WHERE WHAT IT READS IS OF BULK AT MOST 1048576: true; the input reads as it did. -/
def phoneFormsUptoRow : OpenClaim := { program := "ytpimncboebggkaadoor", sum := "443c13e53d372473c7f14721fd010c7ea340661862c0fc594fe32a93cc889306", func := "epitaph/epitaphlaw46.PhoneForms", spec := "phoneForms", inPlace := ["internal/bytealg.IndexByteString", "internal/bytealg.IndexString"], named := ["unicode/utf8.first", "unicode/utf8.acceptRanges", "internal/bytealg.MaxLen"], apart := false, laid := [("unicode/utf8.acceptRanges", laid_unicode_utf8_acceptRanges), ("unicode/utf8.first", laid_unicode_utf8_first)], narrowed := true }
def PhoneFormsUptoSaid : Prop := phoneFormsUptoRow.holds Tryd.pinned (OpenSpec.upto phoneFormsSpec)

/-- 'epitaphlaw43.FoldSays', WHERE WHAT IT READS IS OF BULK AT MOST 1048576: true; the input reads as it did. -/
def foldSaysUptoRow : OpenClaim := { program := "ytpimncboebggkaadoor", sum := "443c13e53d372473c7f14721fd010c7ea340661862c0fc594fe32a93cc889306", func := "epitaph/epitaphlaw43.FoldSays", spec := "foldSays", inPlace := ["internal/bytealg.CountString", "internal/bytealg.IndexByteString", "internal/bytealg.IndexString", "internal/abi.NoEscape", "internal/bytealg.MakeNoZero"], unfollowed := true, recurses := true, named := ["unicode/utf8.first", "unicode/utf8.acceptRanges", "internal/bytealg.MaxLen"], apart := false, laid := [("unicode/utf8.acceptRanges", laid_unicode_utf8_acceptRanges), ("unicode/utf8.first", laid_unicode_utf8_first)], narrowed := true }
def FoldSaysUptoSaid : Prop := foldSaysUptoRow.holds Tryd.pinned (OpenSpec.upto foldSaysSpec)

/-- 'epitaphlaw43.FoldOrders', WHERE WHAT IT READS IS OF BULK AT MOST 1048576: true; the input reads as it did. -/
def foldOrdersUptoRow : OpenClaim := { program := "ytpimncboebggkaadoor", sum := "443c13e53d372473c7f14721fd010c7ea340661862c0fc594fe32a93cc889306", func := "epitaph/epitaphlaw43.FoldOrders", spec := "foldOrders", inPlace := ["internal/bytealg.CountString", "internal/bytealg.IndexByteString", "internal/bytealg.IndexString", "internal/abi.NoEscape", "internal/bytealg.MakeNoZero"], unfollowed := true, recurses := true, named := ["unicode/utf8.first", "unicode/utf8.acceptRanges", "internal/bytealg.MaxLen"], apart := false, laid := [("unicode/utf8.acceptRanges", laid_unicode_utf8_acceptRanges), ("unicode/utf8.first", laid_unicode_utf8_first)], narrowed := true }
def FoldOrdersUptoSaid : Prop := foldOrdersUptoRow.holds Tryd.pinned (OpenSpec.upto foldOrdersSpec)

end Rows
end Go.Proofs.YtpimncboebggkaaDoor
