/-
  DERIVED. GIVEN WITH THE SEED: THE CARDS: each row of YtflbicbcphmgoaaGreatDoorRows.lean that lists a variable, with what it lists TIED to the program's text (the seventh form; the later family's looks); each row that meets fmt, with fmt's text TOLD by the authors' own Lean function (tested against real Go, not proved from fmt's source: count such statements apart). THE CARD IS WHAT COUNTS. Prove the row's statement (the work); the ties are given (YtflbicbcphmgoaaGreatDoorTie.lean); close each card by the builder's one call (the guide's Derived/Test/ToyasCard.lean, 'card_holds'). Laid BY PROGRAM, IN A SANDBOX (cutbox-door.mjs). By AI agents, Wed Nov 11 2026. No macro, syntax, notation, axiom, sorry.
-/
import Derived.Test.YtflbicbcphmgoaaGreatDoorRows
import GoSem.ClaimSeven
namespace Go.Proofs.YtflbicbcphmgoaaGreatDoor
namespace Rows

/-- THE TIED CARD OF 'tallowlaw24.GenKnown'. -/
def genKnownCard : Claim7 := { stood := { row := genKnownRow, standIns := [], harness := (true, "a4d8b7bfe95d5923215ddfe40fbecf6498dad5a298967eac8e85305cd4304502"), looks := true }, kinds := [], alts := [], laidByText := true, laidKinds := [.data, .data, .data, .handle, .sentinel, .sentinel, .listed, .data], laidTests := true, laidLooks := .later }
def GenKnownCardSaid : Prop := Claim7.holds Tryz.pinned (.plain (OpenSpec.ofChange genKnownSpec)) genKnownCard

/-- THE SECOND FORM's CARD OF 'tallowlaw24.GenKnown'. -/
def genKnownUptoCard : Claim7 := { stood := { row := genKnownUptoRow, standIns := [], harness := (true, "a4d8b7bfe95d5923215ddfe40fbecf6498dad5a298967eac8e85305cd4304502"), looks := true }, kinds := [], alts := [], laidByText := true, laidKinds := [.data, .data, .data, .handle, .sentinel, .sentinel, .listed, .data], laidTests := true, laidLooks := .later }
def GenKnownUptoCardSaid : Prop := Claim7.holds Tryz.pinned (.plain (OpenSpec.upto genKnownSpec)) genKnownUptoCard
end Rows
end Go.Proofs.YtflbicbcphmgoaaGreatDoor
