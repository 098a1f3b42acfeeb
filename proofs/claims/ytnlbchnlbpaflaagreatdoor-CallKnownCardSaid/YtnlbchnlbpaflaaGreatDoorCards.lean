/-
  DERIVED. GIVEN WITH THE SEED: THE CARDS: each row of YtnlbchnlbpaflaaGreatDoorRows.lean that lists a variable, with what it lists TIED to the program's text (the seventh form; the later family's looks); each row that meets fmt, with fmt's text TOLD by the authors' own Lean function (tested against real Go, not proved from fmt's source: count such statements apart). THE CARD IS WHAT COUNTS. Prove the row's statement (the work); the ties are given (YtnlbchnlbpaflaaGreatDoorTie.lean); close each card by the builder's one call (the guide's Derived/Test/ToyasCard.lean, 'card_holds'). Laid BY PROGRAM, IN A SANDBOX (cutbox-door.mjs). By AI agents, Wed Nov 11 2026. No macro, syntax, notation, axiom, sorry.
-/
import Derived.Test.YtnlbchnlbpaflaaGreatDoorRows
import GoSem.ClaimSeven
namespace Go.Proofs.YtnlbchnlbpaflaaGreatDoor
namespace Rows

/-- THE TIED CARD OF 'tallowlaw28.CallKnown'. -/
def callKnownCard : Claim7 := { stood := { row := callKnownRow, standIns := [], harness := (true, "c2faeb24925be1950d7456bff411347c7a4d1af70325930498476fb2a1929b0a"), looks := false }, kinds := [], alts := [], laidByText := true, laidKinds := [.data, .data, .data], laidTests := true, laidLooks := .later }
def CallKnownCardSaid : Prop := Claim7.holds Tryz.pinned (.plain (OpenSpec.ofChange callKnownSpec)) callKnownCard

/-- THE SECOND FORM's CARD OF 'tallowlaw28.CallKnown'. -/
def callKnownUptoCard : Claim7 := { stood := { row := callKnownUptoRow, standIns := [], harness := (true, "c2faeb24925be1950d7456bff411347c7a4d1af70325930498476fb2a1929b0a"), looks := false }, kinds := [], alts := [], laidByText := true, laidKinds := [.data, .data, .data], laidTests := true, laidLooks := .later }
def CallKnownUptoCardSaid : Prop := Claim7.holds Tryz.pinned (.plain (OpenSpec.upto callKnownSpec)) callKnownUptoCard
end Rows
end Go.Proofs.YtnlbchnlbpaflaaGreatDoor
