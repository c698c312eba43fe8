/-
  DERIVED. GIVEN WITH THE SEED: THE CARDS: each row of YtfkfpanhbanljaaGreatDoorRows.lean that lists a variable, with what it lists TIED to the program's text (the seventh form; the later family's looks); each row that meets fmt, with fmt's text TOLD by the authors' own Lean function (tested against real Go, not proved from fmt's source: count such statements apart). THE CARD IS WHAT COUNTS. Prove the row's statement (the work); the ties are given (YtfkfpanhbanljaaGreatDoorTie.lean); close each card by the builder's one call (the guide's Derived/Test/ToyasCard.lean, 'card_holds'). Laid BY PROGRAM, IN A SANDBOX (cutbox-door.mjs). By AI agents, Wed Nov 11 2026. No macro, syntax, notation, axiom, sorry.
-/
import Derived.Test.YtfkfpanhbanljaaGreatDoorRows
import GoSem.ClaimSeven
namespace Go.Proofs.YtfkfpanhbanljaaGreatDoor
namespace Rows

/-- THE TIED CARD OF 'epitaphlaw45.FindSays'. -/
def findSaysCard : Claim7 := { stood := { row := findSaysRow, standIns := [], harness := (true, "6569292fd9bfd54bc1ee53de161cfb4658fb6b98ea0d616400d4b9883406971d"), looks := false }, kinds := [], alts := [], laidByText := true, laidKinds := [.data, .pinned], laidTests := true, laidLooks := .later }
def FindSaysCardSaid : Prop := Claim7.holds Tryz.pinned (.plain (OpenSpec.ofChange findSaysSpec)) findSaysCard

/-- THE TIED CARD OF 'epitaphlaw45.FindNil'. -/
def findNilCard : Claim7 := { stood := { row := findNilRow, standIns := [], harness := (true, "6569292fd9bfd54bc1ee53de161cfb4658fb6b98ea0d616400d4b9883406971d"), looks := false }, kinds := [], alts := [], laidByText := true, laidKinds := [.data, .pinned], laidTests := true, laidLooks := .later }
def FindNilCardSaid : Prop := Claim7.holds Tryz.pinned (.plain (OpenSpec.ofChange findNilSpec)) findNilCard

/-- THE TIED CARD OF 'epitaphlaw47.TwinSays'. -/
def twinSaysCard : Claim7 := { stood := { row := twinSaysRow, standIns := [], harness := (true, "6569292fd9bfd54bc1ee53de161cfb4658fb6b98ea0d616400d4b9883406971d"), looks := false }, kinds := [], alts := [], laidByText := true, laidKinds := [.data, .pinned], laidTests := true, laidLooks := .later }
def TwinSaysCardSaid : Prop := Claim7.holds Tryz.pinned (.plain (OpenSpec.ofChange twinSaysSpec)) twinSaysCard

/-- THE TIED CARD OF 'epitaphlaw47.TwinGroups'. -/
def twinGroupsCard : Claim7 := { stood := { row := twinGroupsRow, standIns := [], harness := (true, "6569292fd9bfd54bc1ee53de161cfb4658fb6b98ea0d616400d4b9883406971d"), looks := false }, kinds := [], alts := [], laidByText := true, laidKinds := [.data, .pinned], laidTests := true, laidLooks := .later }
def TwinGroupsCardSaid : Prop := Claim7.holds Tryz.pinned (.plain (OpenSpec.ofChange twinGroupsSpec)) twinGroupsCard

/-- THE SECOND FORM's CARD OF 'epitaphlaw45.FindSays'. -/
def findSaysUptoCard : Claim7 := { stood := { row := findSaysUptoRow, standIns := [], harness := (true, "6569292fd9bfd54bc1ee53de161cfb4658fb6b98ea0d616400d4b9883406971d"), looks := false }, kinds := [], alts := [], laidByText := true, laidKinds := [.data, .pinned], laidTests := true, laidLooks := .later }
def FindSaysUptoCardSaid : Prop := Claim7.holds Tryz.pinned (.plain (OpenSpec.upto findSaysSpec)) findSaysUptoCard

/-- THE SECOND FORM's CARD OF 'epitaphlaw45.FindNil'. -/
def findNilUptoCard : Claim7 := { stood := { row := findNilUptoRow, standIns := [], harness := (true, "6569292fd9bfd54bc1ee53de161cfb4658fb6b98ea0d616400d4b9883406971d"), looks := false }, kinds := [], alts := [], laidByText := true, laidKinds := [.data, .pinned], laidTests := true, laidLooks := .later }
def FindNilUptoCardSaid : Prop := Claim7.holds Tryz.pinned (.plain (OpenSpec.upto findNilSpec)) findNilUptoCard

/-- THE SECOND FORM's CARD OF 'epitaphlaw47.TwinSays'. -/
def twinSaysUptoCard : Claim7 := { stood := { row := twinSaysUptoRow, standIns := [], harness := (true, "6569292fd9bfd54bc1ee53de161cfb4658fb6b98ea0d616400d4b9883406971d"), looks := false }, kinds := [], alts := [], laidByText := true, laidKinds := [.data, .pinned], laidTests := true, laidLooks := .later }
def TwinSaysUptoCardSaid : Prop := Claim7.holds Tryz.pinned (.plain (OpenSpec.upto twinSaysSpec)) twinSaysUptoCard

/-- THE SECOND FORM's CARD OF 'epitaphlaw47.TwinGroups'. -/
def twinGroupsUptoCard : Claim7 := { stood := { row := twinGroupsUptoRow, standIns := [], harness := (true, "6569292fd9bfd54bc1ee53de161cfb4658fb6b98ea0d616400d4b9883406971d"), looks := false }, kinds := [], alts := [], laidByText := true, laidKinds := [.data, .pinned], laidTests := true, laidLooks := .later }
def TwinGroupsUptoCardSaid : Prop := Claim7.holds Tryz.pinned (.plain (OpenSpec.upto twinGroupsSpec)) twinGroupsUptoCard
end Rows
end Go.Proofs.YtfkfpanhbanljaaGreatDoor
