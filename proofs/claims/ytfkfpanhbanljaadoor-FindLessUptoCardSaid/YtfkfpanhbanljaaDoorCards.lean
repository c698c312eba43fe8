/-
  DERIVED. GIVEN WITH THE SEED: THE CARDS: each row of YtfkfpanhbanljaaDoorRows.lean that lists a variable, with what it lists TIED to the program's text (the seventh form; the later family's looks); each row that meets fmt, with fmt's text TOLD by the authors' own Lean function (tested against real Go, not proved from fmt's source: count such statements apart). THE CARD IS WHAT COUNTS. Prove the row's statement (the work); the ties are given (YtfkfpanhbanljaaDoorTie.lean); close each card by the builder's one call (the guide's Derived/Test/ToyasCard.lean, 'card_holds'). Laid BY PROGRAM, IN A SANDBOX (cutbox-door.mjs). By AI agents, Wed Nov 11 2026. No macro, syntax, notation, axiom, sorry.
-/
import Derived.Test.YtfkfpanhbanljaaDoorRows
import GoSem.ClaimSeven
namespace Go.Proofs.YtfkfpanhbanljaaDoor
namespace Rows

/-- THE TIED CARD OF 'epitaphlaw44.ListOrders'. -/
def listOrdersCard : Claim7 := { stood := { row := listOrdersRow, standIns := [], harness := (true, "c2de71ba60780ad1dfff8d0447006b8de81c3745e4ea2bb8451d3b90e94f6d48"), looks := false }, kinds := [], alts := [], laidByText := true, laidKinds := [.data, .pinned], laidTests := true, laidLooks := .later }
def ListOrdersCardSaid : Prop := Claim7.holds Tryd.pinned (.plain (OpenSpec.ofChange listOrdersSpec)) listOrdersCard

/-- THE TIED CARD OF 'epitaphlaw44.ListSays'. -/
def listSaysCard : Claim7 := { stood := { row := listSaysRow, standIns := [], harness := (true, "c2de71ba60780ad1dfff8d0447006b8de81c3745e4ea2bb8451d3b90e94f6d48"), looks := false }, kinds := [], alts := [], laidByText := true, laidKinds := [.data, .pinned], laidTests := true, laidLooks := .later }
def ListSaysCardSaid : Prop := Claim7.holds Tryd.pinned (.plain (OpenSpec.ofChange listSaysSpec)) listSaysCard

/-- THE TIED CARD OF 'epitaphlaw44.ListPages'. -/
def listPagesCard : Claim7 := { stood := { row := listPagesRow, standIns := [], harness := (true, "c2de71ba60780ad1dfff8d0447006b8de81c3745e4ea2bb8451d3b90e94f6d48"), looks := false }, kinds := [], alts := [], laidByText := true, laidKinds := [.data, .pinned], laidTests := true, laidLooks := .later }
def ListPagesCardSaid : Prop := Claim7.holds Tryd.pinned (.plain (OpenSpec.ofChange listPagesSpec)) listPagesCard

/-- THE TIED CARD OF 'epitaphlaw45.FindLess'. -/
def findLessCard : Claim7 := { stood := { row := findLessRow, standIns := [], harness := (true, "c2de71ba60780ad1dfff8d0447006b8de81c3745e4ea2bb8451d3b90e94f6d48"), looks := false }, kinds := [], alts := [], laidByText := true, laidKinds := [.data, .pinned], laidTests := true, laidLooks := .later }
def FindLessCardSaid : Prop := Claim7.holds Tryd.pinned (.plain (OpenSpec.ofChange findLessSpec)) findLessCard

/-- THE TIED CARD OF 'epitaphlaw47.TwinOrder'. -/
def twinOrderCard : Claim7 := { stood := { row := twinOrderRow, standIns := [], harness := (true, "c2de71ba60780ad1dfff8d0447006b8de81c3745e4ea2bb8451d3b90e94f6d48"), looks := false }, kinds := [], alts := [], laidByText := true, laidKinds := [.data, .pinned], laidTests := true, laidLooks := .later }
def TwinOrderCardSaid : Prop := Claim7.holds Tryd.pinned (.plain (OpenSpec.ofChange twinOrderSpec)) twinOrderCard

/-- THE SECOND FORM's CARD OF 'epitaphlaw44.ListOrders'. -/
def listOrdersUptoCard : Claim7 := { stood := { row := listOrdersUptoRow, standIns := [], harness := (true, "c2de71ba60780ad1dfff8d0447006b8de81c3745e4ea2bb8451d3b90e94f6d48"), looks := false }, kinds := [], alts := [], laidByText := true, laidKinds := [.data, .pinned], laidTests := true, laidLooks := .later }
def ListOrdersUptoCardSaid : Prop := Claim7.holds Tryd.pinned (.plain (OpenSpec.upto listOrdersSpec)) listOrdersUptoCard

/-- THE SECOND FORM's CARD OF 'epitaphlaw44.ListSays'. -/
def listSaysUptoCard : Claim7 := { stood := { row := listSaysUptoRow, standIns := [], harness := (true, "c2de71ba60780ad1dfff8d0447006b8de81c3745e4ea2bb8451d3b90e94f6d48"), looks := false }, kinds := [], alts := [], laidByText := true, laidKinds := [.data, .pinned], laidTests := true, laidLooks := .later }
def ListSaysUptoCardSaid : Prop := Claim7.holds Tryd.pinned (.plain (OpenSpec.upto listSaysSpec)) listSaysUptoCard

/-- THE SECOND FORM's CARD OF 'epitaphlaw44.ListPages'. -/
def listPagesUptoCard : Claim7 := { stood := { row := listPagesUptoRow, standIns := [], harness := (true, "c2de71ba60780ad1dfff8d0447006b8de81c3745e4ea2bb8451d3b90e94f6d48"), looks := false }, kinds := [], alts := [], laidByText := true, laidKinds := [.data, .pinned], laidTests := true, laidLooks := .later }
def ListPagesUptoCardSaid : Prop := Claim7.holds Tryd.pinned (.plain (OpenSpec.upto listPagesSpec)) listPagesUptoCard

/-- THE SECOND FORM's CARD OF 'epitaphlaw45.FindLess'. -/
def findLessUptoCard : Claim7 := { stood := { row := findLessUptoRow, standIns := [], harness := (true, "c2de71ba60780ad1dfff8d0447006b8de81c3745e4ea2bb8451d3b90e94f6d48"), looks := false }, kinds := [], alts := [], laidByText := true, laidKinds := [.data, .pinned], laidTests := true, laidLooks := .later }
def FindLessUptoCardSaid : Prop := Claim7.holds Tryd.pinned (.plain (OpenSpec.upto findLessSpec)) findLessUptoCard

/-- THE SECOND FORM's CARD OF 'epitaphlaw47.TwinOrder'. -/
def twinOrderUptoCard : Claim7 := { stood := { row := twinOrderUptoRow, standIns := [], harness := (true, "c2de71ba60780ad1dfff8d0447006b8de81c3745e4ea2bb8451d3b90e94f6d48"), looks := false }, kinds := [], alts := [], laidByText := true, laidKinds := [.data, .pinned], laidTests := true, laidLooks := .later }
def TwinOrderUptoCardSaid : Prop := Claim7.holds Tryd.pinned (.plain (OpenSpec.upto twinOrderSpec)) twinOrderUptoCard
end Rows
end Go.Proofs.YtfkfpanhbanljaaDoor
