/-
  NARROWER THAN 'FOR EVERY INPUT', by the rows' own cells (each row's printed sentence says how): CrcParts: laid · JournalNil: laid · JournalKeeps: laid · JournalPlays: laid · JournalAgain: laid.
  DERIVED. THE GIVEN ROWS OF THIS SEAT. 5 by the template 'for every input the law returns true; each argument reads behind the call as it read before'; 0 by the template 'total and deterministic' (their statements: YtdlghabpnpbebaaDoorTotals.lean).
  GIVEN WITH THE SEED: the statements are not yours to turn. If you find one false, say at which input.
  Laid BY PROGRAM, IN A SANDBOX (cutbox-rows.mjs): the forced cells as the released guide's own fill.sh prints them over the translation d1fe50fb2f4c1456… (all of the seat's roots in one cut). By AI agents, Wed Nov 11 2026. No macro, syntax, notation, axiom, sorry.
-/
import Derived.Test.YtdlghabpnpbebaaDoorChecked
import GoSem.Claim
import GoSem.ClaimJoined
import GoSem.ClaimMapViews
import Derived.JoinedTies
import Derived.KernelRfl
namespace Go.Proofs.YtdlghabpnpbebaaDoor
/- THE CELL 'sum', in the pinned program and in every row, IS THE sha256 OF THE DUMP (.gsa) THAT YtdlghabpnpbebaaDoorProg.lean LOADS. Nothing in Lean hashes anything: it is a label: what it is worth is what the hold of that sum in a sandbox is worth. -/
noncomputable def Tryd.pinned : Pinned := { name := "ytdlghabpnpbebaadoor", sum := "d1fe50fb2f4c1456c36d8f1b8491a4f6a6ded67351d9a29349333921e5a81ed1", checked := Tryd.checked }
namespace Rows
def none {H : Type} : Left H := { results := [], args := [] }

/- WHAT THE LISTED PACKAGE-LEVEL VARIABLES READ AS WHEN THE CALL BEGINS. Each datum BY PROGRAM (the guide's laid-datum.mjs) off the statement by which the dump's own 'gosem.cut.vars' lays the variable. In a bare row this is a premise. The card (YtdlghabpnpbebaaDoorCards.lean) ties it to the program's text. -/
def laid_epitaph_crc_four {H : Type} : DataW H := .agg [.lit (.int .u32 0), .lit (.int .u32 498536548), .lit (.int .u32 997073096), .lit (.int .u32 651767980), .lit (.int .u32 1994146192), .lit (.int .u32 1802195444), .lit (.int .u32 1303535960), .lit (.int .u32 1342533948), .lit (.int .u32 3988292384), .lit (.int .u32 4027552580), .lit (.int .u32 3604390888), .lit (.int .u32 3412177804), .lit (.int .u32 2607071920), .lit (.int .u32 2262029012), .lit (.int .u32 2685067896), .lit (.int .u32 3183342108)]

/-- 'epitaphlaw02.CrcParts': WHATEVER THE INPUT: true; the input reads as it did. -/
def crcPartsSpec : ChangeSpec := { name := "crcParts", fn := fun _ => fun
  | [d1, d2] => { results := [.lit (.bool true)], args := [d1, d2] }
  | _ => none }
def crcPartsRow : OpenClaim := { program := "ytdlghabpnpbebaadoor", sum := "d1fe50fb2f4c1456c36d8f1b8491a4f6a6ded67351d9a29349333921e5a81ed1", func := "epitaph/epitaphlaw02.CrcParts", spec := "crcParts", named := ["epitaph/crc.four"], apart := false, laid := [("epitaph/crc.four", laid_epitaph_crc_four)] }
def CrcPartsSaid : Prop := crcPartsRow.holds Tryd.pinned (OpenSpec.ofChange crcPartsSpec)

/-- ITS FALSE NEIGHBOUR: 'it returns false'. Refute it at one input. -/
def crcPartsWrong : ChangeSpec := { name := "crcParts", fn := fun _ => fun
  | [d1, d2] => { results := [.lit (.bool false)], args := [d1, d2] }
  | _ => none }
def CrcPartsWrongFalsely : Prop := crcPartsRow.holds Tryd.pinned (OpenSpec.ofChange crcPartsWrong)

/-- 'epitaphlaw24.JournalNil': WHATEVER THE INPUT: true; the input reads as it did. -/
def journalNilSpec : ChangeSpec := { name := "journalNil", fn := fun _ => fun
  | [d] => { results := [.lit (.bool true)], args := [d] }
  | _ => none }
def journalNilRow : OpenClaim := { program := "ytdlghabpnpbebaadoor", sum := "d1fe50fb2f4c1456c36d8f1b8491a4f6a6ded67351d9a29349333921e5a81ed1", func := "epitaph/epitaphlaw24.JournalNil", spec := "journalNil", named := ["epitaph/crc.four"], apart := false, laid := [("epitaph/crc.four", laid_epitaph_crc_four)] }
def JournalNilSaid : Prop := journalNilRow.holds Tryd.pinned (OpenSpec.ofChange journalNilSpec)

/-- ITS FALSE NEIGHBOUR: 'it returns false'. Refute it at one input. -/
def journalNilWrong : ChangeSpec := { name := "journalNil", fn := fun _ => fun
  | [d] => { results := [.lit (.bool false)], args := [d] }
  | _ => none }
def JournalNilWrongFalsely : Prop := journalNilRow.holds Tryd.pinned (OpenSpec.ofChange journalNilWrong)

/-- 'epitaphlaw24.JournalKeeps': WHATEVER THE INPUT: true; the input reads as it did. -/
def journalKeepsSpec : ChangeSpec := { name := "journalKeeps", fn := fun _ => fun
  | [d1, d2, d3] => { results := [.lit (.bool true)], args := [d1, d2, d3] }
  | _ => none }
def journalKeepsRow : OpenClaim := { program := "ytdlghabpnpbebaadoor", sum := "d1fe50fb2f4c1456c36d8f1b8491a4f6a6ded67351d9a29349333921e5a81ed1", func := "epitaph/epitaphlaw24.JournalKeeps", spec := "journalKeeps", named := ["epitaph/crc.four"], apart := false, laid := [("epitaph/crc.four", laid_epitaph_crc_four)] }
def JournalKeepsSaid : Prop := journalKeepsRow.holds Tryd.pinned (OpenSpec.ofChange journalKeepsSpec)

/-- ITS FALSE NEIGHBOUR: 'it returns false'. Refute it at one input. -/
def journalKeepsWrong : ChangeSpec := { name := "journalKeeps", fn := fun _ => fun
  | [d1, d2, d3] => { results := [.lit (.bool false)], args := [d1, d2, d3] }
  | _ => none }
def JournalKeepsWrongFalsely : Prop := journalKeepsRow.holds Tryd.pinned (OpenSpec.ofChange journalKeepsWrong)

/-- 'epitaphlaw24.JournalPlays': WHATEVER THE INPUT: true; the input reads as it did. -/
def journalPlaysSpec : ChangeSpec := { name := "journalPlays", fn := fun _ => fun
  | [d1, d2] => { results := [.lit (.bool true)], args := [d1, d2] }
  | _ => none }
def journalPlaysRow : OpenClaim := { program := "ytdlghabpnpbebaadoor", sum := "d1fe50fb2f4c1456c36d8f1b8491a4f6a6ded67351d9a29349333921e5a81ed1", func := "epitaph/epitaphlaw24.JournalPlays", spec := "journalPlays", named := ["epitaph/crc.four"], apart := false, laid := [("epitaph/crc.four", laid_epitaph_crc_four)] }
def JournalPlaysSaid : Prop := journalPlaysRow.holds Tryd.pinned (OpenSpec.ofChange journalPlaysSpec)

/-- ITS FALSE NEIGHBOUR: 'it returns false'. Refute it at one input. -/
def journalPlaysWrong : ChangeSpec := { name := "journalPlays", fn := fun _ => fun
  | [d1, d2] => { results := [.lit (.bool false)], args := [d1, d2] }
  | _ => none }
def JournalPlaysWrongFalsely : Prop := journalPlaysRow.holds Tryd.pinned (OpenSpec.ofChange journalPlaysWrong)

/-- 'epitaphlaw24.JournalAgain': WHATEVER THE INPUT: true; the input reads as it did. -/
def journalAgainSpec : ChangeSpec := { name := "journalAgain", fn := fun _ => fun
  | [d1, d2] => { results := [.lit (.bool true)], args := [d1, d2] }
  | _ => none }
def journalAgainRow : OpenClaim := { program := "ytdlghabpnpbebaadoor", sum := "d1fe50fb2f4c1456c36d8f1b8491a4f6a6ded67351d9a29349333921e5a81ed1", func := "epitaph/epitaphlaw24.JournalAgain", spec := "journalAgain", named := ["epitaph/crc.four"], apart := false, laid := [("epitaph/crc.four", laid_epitaph_crc_four)] }
def JournalAgainSaid : Prop := journalAgainRow.holds Tryd.pinned (OpenSpec.ofChange journalAgainSpec)

/-- ITS FALSE NEIGHBOUR: 'it returns false'. Refute it at one input. -/
def journalAgainWrong : ChangeSpec := { name := "journalAgain", fn := fun _ => fun
  | [d1, d2] => { results := [.lit (.bool false)], args := [d1, d2] }
  | _ => none }
def JournalAgainWrongFalsely : Prop := journalAgainRow.holds Tryd.pinned (OpenSpec.ofChange journalAgainWrong)

/- THE SECOND FORM. 'bulk': how many values and letters a reading holds, each counted each time it is reached (what is shared counts as often as it is met; a slice's spare places count too). A statement '..UptoSaid' is the law's where the arguments, and the package variables that the reading takes, are together of bulk at most 1048576: NARROWER than '..Said'. Prove '..Said' where nothing that the law and all that it calls make is longer than what came in: it says more and counts as full. Else prove '..UptoSaid'. A law counts once. -/
mutual
def uptoBulk {H : Type} : DataW H → Nat
  | .lit (.string bytes) => bytes.length + 1
  | .lit _ => 1
  | .nil => 1
  | .ptr d => uptoBulk d + 1
  | .slice elems spare => uptoBulkAll elems + uptoBulkAll spare + 1
  | .agg parts => uptoBulkAll parts + 1
  | .iface _ d => uptoBulk d + 1
  | .map entries => uptoBulkEntries entries + 1
  | .held _ => 1
def uptoBulkAll {H : Type} : List (DataW H) → Nat
  | [] => 0
  | d :: r => uptoBulk d + uptoBulkAll r
def uptoBulkEntries {H : Type} : List (Lit × DataW H) → Nat
  | [] => 0
  | x :: r => uptoBulkEntry x + uptoBulkEntries r
def uptoBulkEntry {H : Type} : Lit × DataW H → Nat
  | (.string bytes, d) => bytes.length + uptoBulk d + 1
  | (_, d) => uptoBulk d + 1
 end
def uptoSmall : (H : Type) → List (DataW H) → Bool := fun _ ds => decide (uptoBulkAll ds ≤ 1048576)
def OpenSpec.upto (s : _root_.Go.ChangeSpec) : _root_.Go.OpenSpec := { _root_.Go.OpenSpec.ofChange s with cond := some uptoSmall }

/-- 'epitaphlaw02.CrcParts', WHERE WHAT IT READS IS OF BULK AT MOST 1048576: true; the input reads as it did. -/
def crcPartsUptoRow : OpenClaim := { program := "ytdlghabpnpbebaadoor", sum := "d1fe50fb2f4c1456c36d8f1b8491a4f6a6ded67351d9a29349333921e5a81ed1", func := "epitaph/epitaphlaw02.CrcParts", spec := "crcParts", named := ["epitaph/crc.four"], apart := false, laid := [("epitaph/crc.four", laid_epitaph_crc_four)], narrowed := true }
def CrcPartsUptoSaid : Prop := crcPartsUptoRow.holds Tryd.pinned (OpenSpec.upto crcPartsSpec)

/-- 'epitaphlaw24.JournalNil', WHERE WHAT IT READS IS OF BULK AT MOST 1048576: true; the input reads as it did. -/
def journalNilUptoRow : OpenClaim := { program := "ytdlghabpnpbebaadoor", sum := "d1fe50fb2f4c1456c36d8f1b8491a4f6a6ded67351d9a29349333921e5a81ed1", func := "epitaph/epitaphlaw24.JournalNil", spec := "journalNil", named := ["epitaph/crc.four"], apart := false, laid := [("epitaph/crc.four", laid_epitaph_crc_four)], narrowed := true }
def JournalNilUptoSaid : Prop := journalNilUptoRow.holds Tryd.pinned (OpenSpec.upto journalNilSpec)

/-- 'epitaphlaw24.JournalKeeps', WHERE WHAT IT READS IS OF BULK AT MOST 1048576: true; the input reads as it did. -/
def journalKeepsUptoRow : OpenClaim := { program := "ytdlghabpnpbebaadoor", sum := "d1fe50fb2f4c1456c36d8f1b8491a4f6a6ded67351d9a29349333921e5a81ed1", func := "epitaph/epitaphlaw24.JournalKeeps", spec := "journalKeeps", named := ["epitaph/crc.four"], apart := false, laid := [("epitaph/crc.four", laid_epitaph_crc_four)], narrowed := true }
def JournalKeepsUptoSaid : Prop := journalKeepsUptoRow.holds Tryd.pinned (OpenSpec.upto journalKeepsSpec)

/-- 'epitaphlaw24.JournalPlays', WHERE WHAT IT READS IS OF BULK AT MOST 1048576: true; the input reads as it did. -/
def journalPlaysUptoRow : OpenClaim := { program := "ytdlghabpnpbebaadoor", sum := "d1fe50fb2f4c1456c36d8f1b8491a4f6a6ded67351d9a29349333921e5a81ed1", func := "epitaph/epitaphlaw24.JournalPlays", spec := "journalPlays", named := ["epitaph/crc.four"], apart := false, laid := [("epitaph/crc.four", laid_epitaph_crc_four)], narrowed := true }
def JournalPlaysUptoSaid : Prop := journalPlaysUptoRow.holds Tryd.pinned (OpenSpec.upto journalPlaysSpec)

/-- 'epitaphlaw24.JournalAgain', WHERE WHAT IT READS IS OF BULK AT MOST 1048576: true; the input reads as it did. -/
def journalAgainUptoRow : OpenClaim := { program := "ytdlghabpnpbebaadoor", sum := "d1fe50fb2f4c1456c36d8f1b8491a4f6a6ded67351d9a29349333921e5a81ed1", func := "epitaph/epitaphlaw24.JournalAgain", spec := "journalAgain", named := ["epitaph/crc.four"], apart := false, laid := [("epitaph/crc.four", laid_epitaph_crc_four)], narrowed := true }
def JournalAgainUptoSaid : Prop := journalAgainUptoRow.holds Tryd.pinned (OpenSpec.upto journalAgainSpec)

end Rows
end Go.Proofs.YtdlghabpnpbebaaDoor
