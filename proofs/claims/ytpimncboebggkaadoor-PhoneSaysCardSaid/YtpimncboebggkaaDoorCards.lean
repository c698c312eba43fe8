/-
  DERIVED. GIVEN WITH THE SEED: THE CARDS: each row of YtpimncboebggkaaDoorRows.lean that lists a variable, with what it lists TIED to the program's text (the seventh form; the later family's looks); each row that meets fmt, with fmt's text TOLD by the authors' own Lean function (tested against real Go, not proved from fmt's source: count such statements apart). THE CARD IS WHAT COUNTS. Prove the row's statement (the work); the ties are given (YtpimncboebggkaaDoorTie.lean); close each card by the builder's one call (the guide's Derived/Test/ToyasCard.lean, 'card_holds'). Laid BY PROGRAM, IN A SANDBOX (cutbox-door.mjs). By AI agents, Wed Nov 11 2026. No macro, syntax, notation, axiom, sorry.
-/
import Derived.Test.YtpimncboebggkaaDoorRows
import GoSem.ClaimSeven
namespace Go.Proofs.YtpimncboebggkaaDoor
namespace Rows

/-- THE TIED CARD OF 'epitaphlaw43.FoldBegins'. -/
def foldBeginsCard : Claim7 := { stood := { row := foldBeginsRow, standIns := [], harness := (true, "da63221e8aa4441f6c416895b9285f6954d90b3658c3a59945685537e15acdfa"), looks := false }, kinds := [], alts := [], laidByText := true, laidKinds := [.data, .pinned], laidTests := true, laidLooks := .later }
def FoldBeginsCardSaid : Prop := Claim7.holds Tryd.pinned (.plain (OpenSpec.ofChange foldBeginsSpec)) foldBeginsCard

/-- THE TIED CARD OF 'epitaphlaw46.PhoneSays'. -/
def phoneSaysCard : Claim7 := { stood := { row := phoneSaysRow, standIns := [], harness := (true, "da63221e8aa4441f6c416895b9285f6954d90b3658c3a59945685537e15acdfa"), looks := false }, kinds := [], alts := [], laidByText := true, laidKinds := [.data, .pinned], laidTests := true, laidLooks := .later }
def PhoneSaysCardSaid : Prop := Claim7.holds Tryd.pinned (.plain (OpenSpec.ofChange phoneSaysSpec)) phoneSaysCard

/-- THE TIED CARD OF 'epitaphlaw46.PhoneForms'. -/
def phoneFormsCard : Claim7 := { stood := { row := phoneFormsRow, standIns := [], harness := (true, "da63221e8aa4441f6c416895b9285f6954d90b3658c3a59945685537e15acdfa"), looks := false }, kinds := [], alts := [], laidByText := true, laidKinds := [.data, .pinned], laidTests := true, laidLooks := .later }
def PhoneFormsCardSaid : Prop := Claim7.holds Tryd.pinned (.plain (OpenSpec.ofChange phoneFormsSpec)) phoneFormsCard

/-- THE TIED CARD OF 'epitaphlaw43.FoldSays'. -/
def foldSaysCard : Claim7 := { stood := { row := foldSaysRow, standIns := [], harness := (true, "da63221e8aa4441f6c416895b9285f6954d90b3658c3a59945685537e15acdfa"), looks := false }, kinds := [], alts := [], laidByText := true, laidKinds := [.data, .pinned], laidTests := true, laidLooks := .later }
def FoldSaysCardSaid : Prop := Claim7.holds Tryd.pinned (.plain (OpenSpec.ofChange foldSaysSpec)) foldSaysCard

/-- THE TIED CARD OF 'epitaphlaw43.FoldOrders'. -/
def foldOrdersCard : Claim7 := { stood := { row := foldOrdersRow, standIns := [], harness := (true, "da63221e8aa4441f6c416895b9285f6954d90b3658c3a59945685537e15acdfa"), looks := false }, kinds := [], alts := [], laidByText := true, laidKinds := [.data, .pinned], laidTests := true, laidLooks := .later }
def FoldOrdersCardSaid : Prop := Claim7.holds Tryd.pinned (.plain (OpenSpec.ofChange foldOrdersSpec)) foldOrdersCard

/-- THE SECOND FORM's CARD OF 'epitaphlaw43.FoldBegins'. -/
def foldBeginsUptoCard : Claim7 := { stood := { row := foldBeginsUptoRow, standIns := [], harness := (true, "da63221e8aa4441f6c416895b9285f6954d90b3658c3a59945685537e15acdfa"), looks := false }, kinds := [], alts := [], laidByText := true, laidKinds := [.data, .pinned], laidTests := true, laidLooks := .later }
def FoldBeginsUptoCardSaid : Prop := Claim7.holds Tryd.pinned (.plain (OpenSpec.upto foldBeginsSpec)) foldBeginsUptoCard

/-- THE SECOND FORM's CARD OF 'epitaphlaw46.PhoneSays'. -/
def phoneSaysUptoCard : Claim7 := { stood := { row := phoneSaysUptoRow, standIns := [], harness := (true, "da63221e8aa4441f6c416895b9285f6954d90b3658c3a59945685537e15acdfa"), looks := false }, kinds := [], alts := [], laidByText := true, laidKinds := [.data, .pinned], laidTests := true, laidLooks := .later }
def PhoneSaysUptoCardSaid : Prop := Claim7.holds Tryd.pinned (.plain (OpenSpec.upto phoneSaysSpec)) phoneSaysUptoCard

/-- THE SECOND FORM's CARD OF 'epitaphlaw46.PhoneForms'. -/
def phoneFormsUptoCard : Claim7 := { stood := { row := phoneFormsUptoRow, standIns := [], harness := (true, "da63221e8aa4441f6c416895b9285f6954d90b3658c3a59945685537e15acdfa"), looks := false }, kinds := [], alts := [], laidByText := true, laidKinds := [.data, .pinned], laidTests := true, laidLooks := .later }
def PhoneFormsUptoCardSaid : Prop := Claim7.holds Tryd.pinned (.plain (OpenSpec.upto phoneFormsSpec)) phoneFormsUptoCard

/-- THE SECOND FORM's CARD OF 'epitaphlaw43.FoldSays'. -/
def foldSaysUptoCard : Claim7 := { stood := { row := foldSaysUptoRow, standIns := [], harness := (true, "da63221e8aa4441f6c416895b9285f6954d90b3658c3a59945685537e15acdfa"), looks := false }, kinds := [], alts := [], laidByText := true, laidKinds := [.data, .pinned], laidTests := true, laidLooks := .later }
def FoldSaysUptoCardSaid : Prop := Claim7.holds Tryd.pinned (.plain (OpenSpec.upto foldSaysSpec)) foldSaysUptoCard

/-- THE SECOND FORM's CARD OF 'epitaphlaw43.FoldOrders'. -/
def foldOrdersUptoCard : Claim7 := { stood := { row := foldOrdersUptoRow, standIns := [], harness := (true, "da63221e8aa4441f6c416895b9285f6954d90b3658c3a59945685537e15acdfa"), looks := false }, kinds := [], alts := [], laidByText := true, laidKinds := [.data, .pinned], laidTests := true, laidLooks := .later }
def FoldOrdersUptoCardSaid : Prop := Claim7.holds Tryd.pinned (.plain (OpenSpec.upto foldOrdersSpec)) foldOrdersUptoCard
end Rows
end Go.Proofs.YtpimncboebggkaaDoor
