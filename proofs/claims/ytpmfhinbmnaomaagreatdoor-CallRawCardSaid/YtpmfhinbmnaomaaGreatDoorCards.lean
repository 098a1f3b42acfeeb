/-
  DERIVED. GIVEN WITH THE SEED: THE CARDS: each row of YtpmfhinbmnaomaaGreatDoorRows.lean that lists a variable, with what it lists TIED to the program's text (the seventh form; the later family's looks); each row that meets fmt, with fmt's text TOLD by the authors' own Lean function (tested against real Go, not proved from fmt's source: count such statements apart). THE CARD IS WHAT COUNTS. Prove the row's statement (the work); the ties are given (YtpmfhinbmnaomaaGreatDoorTie.lean); close each card by the builder's one call (the guide's Derived/Test/ToyasCard.lean, 'card_holds'). Laid BY PROGRAM, IN A SANDBOX (cutbox-door.mjs). By AI agents, Wed Nov 11 2026. No macro, syntax, notation, axiom, sorry.
-/
import Derived.Test.YtpmfhinbmnaomaaGreatDoorRows
import GoSem.ClaimSeven
namespace Go.Proofs.YtpmfhinbmnaomaaGreatDoor
namespace Rows

/-- THE TIED CARD OF 'tallowlaw28.CallRaw'. -/
def callRawCard : Claim7 := { stood := { row := callRawRow, standIns := [], harness := (true, "b944a20721b0df76f9813af207ed4e5ef3f26ce2a474d8fdf9b7f754bc596a3f"), looks := false }, kinds := [], alts := [], laidByText := true, laidKinds := [.data, .data, .data], laidTests := true, laidLooks := .later }
def CallRawCardSaid : Prop := Claim7.holds Tryz.pinned (.plain (OpenSpec.ofChange callRawSpec)) callRawCard

/-- THE SECOND FORM's CARD OF 'tallowlaw28.CallRaw'. -/
def callRawUptoCard : Claim7 := { stood := { row := callRawUptoRow, standIns := [], harness := (true, "b944a20721b0df76f9813af207ed4e5ef3f26ce2a474d8fdf9b7f754bc596a3f"), looks := false }, kinds := [], alts := [], laidByText := true, laidKinds := [.data, .data, .data], laidTests := true, laidLooks := .later }
def CallRawUptoCardSaid : Prop := Claim7.holds Tryz.pinned (.plain (OpenSpec.upto callRawSpec)) callRawUptoCard
end Rows
end Go.Proofs.YtpmfhinbmnaomaaGreatDoor
