/-
  DERIVED. GIVEN WITH THE SEED: THE CARDS: each row of YtfbchegfkilhpaaDoorRows.lean that lists a variable, with what it lists TIED to the program's text (the seventh form; the later family's looks); each row that meets fmt, with fmt's text TOLD by the authors' own Lean function (tested against real Go, not proved from fmt's source: count such statements apart). THE CARD IS WHAT COUNTS. Prove the row's statement (the work); the ties are given (YtfbchegfkilhpaaDoorTie.lean); close each card by the builder's one call (the guide's Derived/Test/ToyasCard.lean, 'card_holds'). Laid BY PROGRAM, IN A SANDBOX (cutbox-door.mjs). By AI agents, Wed Nov 11 2026. No macro, syntax, notation, axiom, sorry.
-/
import Derived.Test.YtfbchegfkilhpaaDoorRows
import GoSem.ClaimSeven
namespace Go.Proofs.YtfbchegfkilhpaaDoor
namespace Rows

/-- THE TIED CARD OF 'epitaphlaw02.CrcSays'. -/
def crcSaysCard : Claim7 := { stood := { row := crcSaysRow, standIns := [], harness := (true, "5e0beca401e49fe28f743cac24532bce74da974fd3b7d44fb55d65623e2a1c1c"), looks := false }, kinds := [], alts := [], laidByText := true, laidKinds := [.data], laidTests := true, laidLooks := .later }
def CrcSaysCardSaid : Prop := Claim7.holds Tryd.pinned (.plain (OpenSpec.ofChange crcSaysSpec)) crcSaysCard

/-- THE TIED CARD OF 'epitaphlaw02.CrcParts'. -/
def crcPartsCard : Claim7 := { stood := { row := crcPartsRow, standIns := [], harness := (true, "5e0beca401e49fe28f743cac24532bce74da974fd3b7d44fb55d65623e2a1c1c"), looks := false }, kinds := [], alts := [], laidByText := true, laidKinds := [.data], laidTests := true, laidLooks := .later }
def CrcPartsCardSaid : Prop := Claim7.holds Tryd.pinned (.plain (OpenSpec.ofChange crcPartsSpec)) crcPartsCard

/-- THE TIED CARD OF 'epitaphlaw02.CrcBursts'. -/
def crcBurstsCard : Claim7 := { stood := { row := crcBurstsRow, standIns := [], harness := (true, "5e0beca401e49fe28f743cac24532bce74da974fd3b7d44fb55d65623e2a1c1c"), looks := false }, kinds := [], alts := [], laidByText := true, laidKinds := [.data], laidTests := true, laidLooks := .later }
def CrcBurstsCardSaid : Prop := Claim7.holds Tryd.pinned (.plain (OpenSpec.ofChange crcBurstsSpec)) crcBurstsCard

/-- THE TIED CARD OF 'epitaphlaw02.CrcOne'. -/
def crcOneCard : Claim7 := { stood := { row := crcOneRow, standIns := [], harness := (true, "5e0beca401e49fe28f743cac24532bce74da974fd3b7d44fb55d65623e2a1c1c"), looks := false }, kinds := [], alts := [], laidByText := true, laidKinds := [.data], laidTests := true, laidLooks := .later }
def CrcOneCardSaid : Prop := Claim7.holds Tryd.pinned (.plain (OpenSpec.ofChange crcOneSpec)) crcOneCard

/-- THE TIED CARD OF 'epitaphlaw05.SealSays'. -/
def sealSaysCard : Claim7 := { stood := { row := sealSaysRow, standIns := [], harness := (true, "5e0beca401e49fe28f743cac24532bce74da974fd3b7d44fb55d65623e2a1c1c"), looks := false }, kinds := [], alts := [], laidByText := true, laidKinds := [.data], laidTests := true, laidLooks := .later }
def SealSaysCardSaid : Prop := Claim7.holds Tryd.pinned (.plain (OpenSpec.ofChange sealSaysSpec)) sealSaysCard

/-- THE TIED CARD OF 'epitaphlaw05.SealOpens'. -/
def sealOpensCard : Claim7 := { stood := { row := sealOpensRow, standIns := [], harness := (true, "5e0beca401e49fe28f743cac24532bce74da974fd3b7d44fb55d65623e2a1c1c"), looks := false }, kinds := [], alts := [], laidByText := true, laidKinds := [.data], laidTests := true, laidLooks := .later }
def SealOpensCardSaid : Prop := Claim7.holds Tryd.pinned (.plain (OpenSpec.ofChange sealOpensSpec)) sealOpensCard

/-- THE TIED CARD OF 'epitaphlaw05.SealBack'. -/
def sealBackCard : Claim7 := { stood := { row := sealBackRow, standIns := [], harness := (true, "5e0beca401e49fe28f743cac24532bce74da974fd3b7d44fb55d65623e2a1c1c"), looks := false }, kinds := [], alts := [], laidByText := true, laidKinds := [.data], laidTests := true, laidLooks := .later }
def SealBackCardSaid : Prop := Claim7.holds Tryd.pinned (.plain (OpenSpec.ofChange sealBackSpec)) sealBackCard

/-- THE TIED CARD OF 'epitaphlaw05.SealBursts'. -/
def sealBurstsCard : Claim7 := { stood := { row := sealBurstsRow, standIns := [], harness := (true, "5e0beca401e49fe28f743cac24532bce74da974fd3b7d44fb55d65623e2a1c1c"), looks := false }, kinds := [], alts := [], laidByText := true, laidKinds := [.data], laidTests := true, laidLooks := .later }
def SealBurstsCardSaid : Prop := Claim7.holds Tryd.pinned (.plain (OpenSpec.ofChange sealBurstsSpec)) sealBurstsCard

/-- THE SECOND FORM's CARD OF 'epitaphlaw02.CrcSays'. -/
def crcSaysUptoCard : Claim7 := { stood := { row := crcSaysUptoRow, standIns := [], harness := (true, "5e0beca401e49fe28f743cac24532bce74da974fd3b7d44fb55d65623e2a1c1c"), looks := false }, kinds := [], alts := [], laidByText := true, laidKinds := [.data], laidTests := true, laidLooks := .later }
def CrcSaysUptoCardSaid : Prop := Claim7.holds Tryd.pinned (.plain (OpenSpec.upto crcSaysSpec)) crcSaysUptoCard

/-- THE SECOND FORM's CARD OF 'epitaphlaw02.CrcParts'. -/
def crcPartsUptoCard : Claim7 := { stood := { row := crcPartsUptoRow, standIns := [], harness := (true, "5e0beca401e49fe28f743cac24532bce74da974fd3b7d44fb55d65623e2a1c1c"), looks := false }, kinds := [], alts := [], laidByText := true, laidKinds := [.data], laidTests := true, laidLooks := .later }
def CrcPartsUptoCardSaid : Prop := Claim7.holds Tryd.pinned (.plain (OpenSpec.upto crcPartsSpec)) crcPartsUptoCard

/-- THE SECOND FORM's CARD OF 'epitaphlaw02.CrcBursts'. -/
def crcBurstsUptoCard : Claim7 := { stood := { row := crcBurstsUptoRow, standIns := [], harness := (true, "5e0beca401e49fe28f743cac24532bce74da974fd3b7d44fb55d65623e2a1c1c"), looks := false }, kinds := [], alts := [], laidByText := true, laidKinds := [.data], laidTests := true, laidLooks := .later }
def CrcBurstsUptoCardSaid : Prop := Claim7.holds Tryd.pinned (.plain (OpenSpec.upto crcBurstsSpec)) crcBurstsUptoCard

/-- THE SECOND FORM's CARD OF 'epitaphlaw02.CrcOne'. -/
def crcOneUptoCard : Claim7 := { stood := { row := crcOneUptoRow, standIns := [], harness := (true, "5e0beca401e49fe28f743cac24532bce74da974fd3b7d44fb55d65623e2a1c1c"), looks := false }, kinds := [], alts := [], laidByText := true, laidKinds := [.data], laidTests := true, laidLooks := .later }
def CrcOneUptoCardSaid : Prop := Claim7.holds Tryd.pinned (.plain (OpenSpec.upto crcOneSpec)) crcOneUptoCard

/-- THE SECOND FORM's CARD OF 'epitaphlaw05.SealSays'. -/
def sealSaysUptoCard : Claim7 := { stood := { row := sealSaysUptoRow, standIns := [], harness := (true, "5e0beca401e49fe28f743cac24532bce74da974fd3b7d44fb55d65623e2a1c1c"), looks := false }, kinds := [], alts := [], laidByText := true, laidKinds := [.data], laidTests := true, laidLooks := .later }
def SealSaysUptoCardSaid : Prop := Claim7.holds Tryd.pinned (.plain (OpenSpec.upto sealSaysSpec)) sealSaysUptoCard

/-- THE SECOND FORM's CARD OF 'epitaphlaw05.SealOpens'. -/
def sealOpensUptoCard : Claim7 := { stood := { row := sealOpensUptoRow, standIns := [], harness := (true, "5e0beca401e49fe28f743cac24532bce74da974fd3b7d44fb55d65623e2a1c1c"), looks := false }, kinds := [], alts := [], laidByText := true, laidKinds := [.data], laidTests := true, laidLooks := .later }
def SealOpensUptoCardSaid : Prop := Claim7.holds Tryd.pinned (.plain (OpenSpec.upto sealOpensSpec)) sealOpensUptoCard

/-- THE SECOND FORM's CARD OF 'epitaphlaw05.SealBack'. -/
def sealBackUptoCard : Claim7 := { stood := { row := sealBackUptoRow, standIns := [], harness := (true, "5e0beca401e49fe28f743cac24532bce74da974fd3b7d44fb55d65623e2a1c1c"), looks := false }, kinds := [], alts := [], laidByText := true, laidKinds := [.data], laidTests := true, laidLooks := .later }
def SealBackUptoCardSaid : Prop := Claim7.holds Tryd.pinned (.plain (OpenSpec.upto sealBackSpec)) sealBackUptoCard

/-- THE SECOND FORM's CARD OF 'epitaphlaw05.SealBursts'. -/
def sealBurstsUptoCard : Claim7 := { stood := { row := sealBurstsUptoRow, standIns := [], harness := (true, "5e0beca401e49fe28f743cac24532bce74da974fd3b7d44fb55d65623e2a1c1c"), looks := false }, kinds := [], alts := [], laidByText := true, laidKinds := [.data], laidTests := true, laidLooks := .later }
def SealBurstsUptoCardSaid : Prop := Claim7.holds Tryd.pinned (.plain (OpenSpec.upto sealBurstsSpec)) sealBurstsUptoCard
end Rows
end Go.Proofs.YtfbchegfkilhpaaDoor
