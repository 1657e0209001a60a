/-
  DERIVED. GIVEN WITH THE SEED: THE CARDS: each row of YtgjlgpaoilaikaaGreatDoorRows.lean that lists a variable, with what it lists TIED to the program's text (the seventh form; the later family's looks); each row that meets fmt, with fmt's text TOLD by the authors' own Lean function (tested against real Go, not proved from fmt's source: count such statements apart). THE CARD IS WHAT COUNTS. Prove the row's statement (the work); the ties are given (YtgjlgpaoilaikaaGreatDoorTie.lean); close each card by the builder's one call (the guide's Derived/Test/ToyasCard.lean, 'card_holds'). Laid BY PROGRAM, IN A SANDBOX (cutbox-door.mjs). By AI agents, Wed Nov 11 2026. No macro, syntax, notation, axiom, sorry.
-/
import Derived.Test.YtgjlgpaoilaikaaGreatDoorRows
import GoSem.ClaimSeven
namespace Go.Proofs.YtgjlgpaoilaikaaGreatDoor
namespace Rows

/-- THE TIED CARD OF 'scutagelaw04.VectorMakes'. -/
def vectorMakesCard : Claim7 := { stood := { row := vectorMakesRow, standIns := [], harness := (true, "917d18482cc16e2fde71523e4abc57bb80b4aba5efaab9c56a654b145ee9b236"), looks := true }, kinds := [], alts := [], laidByText := true, laidKinds := [.data, .data, .data, .data, .sentinel, .sentinel, .data, .pinned], laidTests := true, laidLooks := .later }
def VectorMakesCardSaid : Prop := Claim7.holds Tryz.pinned (.plain (OpenSpec.ofChange vectorMakesSpec)) vectorMakesCard

/-- THE TIED CARD OF 'scutagelaw04.VectorSums'. -/
def vectorSumsCard : Claim7 := { stood := { row := vectorSumsRow, standIns := [], harness := (true, "917d18482cc16e2fde71523e4abc57bb80b4aba5efaab9c56a654b145ee9b236"), looks := true }, kinds := [], alts := [], laidByText := true, laidKinds := [.data, .data, .data, .data, .sentinel, .sentinel, .data, .pinned], laidTests := true, laidLooks := .later }
def VectorSumsCardSaid : Prop := Claim7.holds Tryz.pinned (.plain (OpenSpec.ofChange vectorSumsSpec)) vectorSumsCard

/-- THE TIED CARD OF 'scutagelaw04.VectorWithin'. -/
def vectorWithinCard : Claim7 := { stood := { row := vectorWithinRow, standIns := [], harness := (true, "917d18482cc16e2fde71523e4abc57bb80b4aba5efaab9c56a654b145ee9b236"), looks := true }, kinds := [], alts := [], laidByText := true, laidKinds := [.data, .data, .data, .data, .sentinel, .sentinel, .data, .pinned], laidTests := true, laidLooks := .later }
def VectorWithinCardSaid : Prop := Claim7.holds Tryz.pinned (.plain (OpenSpec.ofChange vectorWithinSpec)) vectorWithinCard

/-- THE SECOND FORM's CARD OF 'scutagelaw04.VectorMakes'. -/
def vectorMakesUptoCard : Claim7 := { stood := { row := vectorMakesUptoRow, standIns := [], harness := (true, "917d18482cc16e2fde71523e4abc57bb80b4aba5efaab9c56a654b145ee9b236"), looks := true }, kinds := [], alts := [], laidByText := true, laidKinds := [.data, .data, .data, .data, .sentinel, .sentinel, .data, .pinned], laidTests := true, laidLooks := .later }
def VectorMakesUptoCardSaid : Prop := Claim7.holds Tryz.pinned (.plain (OpenSpec.upto vectorMakesSpec)) vectorMakesUptoCard

/-- THE SECOND FORM's CARD OF 'scutagelaw04.VectorSums'. -/
def vectorSumsUptoCard : Claim7 := { stood := { row := vectorSumsUptoRow, standIns := [], harness := (true, "917d18482cc16e2fde71523e4abc57bb80b4aba5efaab9c56a654b145ee9b236"), looks := true }, kinds := [], alts := [], laidByText := true, laidKinds := [.data, .data, .data, .data, .sentinel, .sentinel, .data, .pinned], laidTests := true, laidLooks := .later }
def VectorSumsUptoCardSaid : Prop := Claim7.holds Tryz.pinned (.plain (OpenSpec.upto vectorSumsSpec)) vectorSumsUptoCard

/-- THE SECOND FORM's CARD OF 'scutagelaw04.VectorWithin'. -/
def vectorWithinUptoCard : Claim7 := { stood := { row := vectorWithinUptoRow, standIns := [], harness := (true, "917d18482cc16e2fde71523e4abc57bb80b4aba5efaab9c56a654b145ee9b236"), looks := true }, kinds := [], alts := [], laidByText := true, laidKinds := [.data, .data, .data, .data, .sentinel, .sentinel, .data, .pinned], laidTests := true, laidLooks := .later }
def VectorWithinUptoCardSaid : Prop := Claim7.holds Tryz.pinned (.plain (OpenSpec.upto vectorWithinSpec)) vectorWithinUptoCard
end Rows
end Go.Proofs.YtgjlgpaoilaikaaGreatDoor
