/-
  DERIVED. GIVEN WITH THE SEED: THE CARDS: each row of YtflbicbcphmgoacGreatDoorRows.lean that lists a variable, with what it lists TIED to the program's text (the seventh form; the later family's looks); each row that meets fmt, with fmt's text TOLD by the authors' own Lean function (tested against real Go, not proved from fmt's source: count such statements apart). THE CARD IS WHAT COUNTS. Prove the row's statement (the work); the ties are given (YtflbicbcphmgoacGreatDoorTie.lean); close each card by the builder's one call (the guide's Derived/Test/ToyasCard.lean, 'card_holds'). Laid BY PROGRAM, IN A SANDBOX (cutbox-door.mjs). By AI agents, Wed Nov 11 2026. No macro, syntax, notation, axiom, sorry.
-/
import Derived.Test.YtflbicbcphmgoacGreatDoorRows
import GoSem.ClaimSeven
namespace Go.Proofs.YtflbicbcphmgoacGreatDoor
namespace Rows

/-- THE TIED CARD OF 'tallowlaw31.PlainKnown'. -/
def plainKnownCard : Claim7 := { stood := { row := plainKnownRow, standIns := [], harness := (true, "8c99480e5d7de5bf4c69ac1c622a2d70317a167a7c6cae4e38525b6e458cf89b"), looks := true }, kinds := [], alts := [], laidByText := true, laidKinds := [.data, .data, .data, .handle, .sentinel, .sentinel, .listed, .data], laidTests := true, laidLooks := .later }
def PlainKnownCardSaid : Prop := Claim7.holds Tryz.pinned (.plain (OpenSpec.ofChange plainKnownSpec)) plainKnownCard

/-- THE SECOND FORM's CARD OF 'tallowlaw31.PlainKnown'. -/
def plainKnownUptoCard : Claim7 := { stood := { row := plainKnownUptoRow, standIns := [], harness := (true, "8c99480e5d7de5bf4c69ac1c622a2d70317a167a7c6cae4e38525b6e458cf89b"), looks := true }, kinds := [], alts := [], laidByText := true, laidKinds := [.data, .data, .data, .handle, .sentinel, .sentinel, .listed, .data], laidTests := true, laidLooks := .later }
def PlainKnownUptoCardSaid : Prop := Claim7.holds Tryz.pinned (.plain (OpenSpec.upto plainKnownSpec)) plainKnownUptoCard
end Rows
end Go.Proofs.YtflbicbcphmgoacGreatDoor
