/-
  DERIVED. GIVEN WITH THE SEED: THE CARDS: each row of YtlfpjndbpclnnaaGreatDoorRows.lean that lists a variable, with what it lists TIED to the program's text (the seventh form; the later family's looks); each row that meets fmt, with fmt's text TOLD by the authors' own Lean function (tested against real Go, not proved from fmt's source: count such statements apart). THE CARD IS WHAT COUNTS. Prove the row's statement (the work); the ties are given (YtlfpjndbpclnnaaGreatDoorTie.lean); close each card by the builder's one call (the guide's Derived/Test/ToyasCard.lean, 'card_holds'). Laid BY PROGRAM, IN A SANDBOX (cutbox-door.mjs). By AI agents, Wed Nov 11 2026. No macro, syntax, notation, axiom, sorry.
-/
import Derived.Test.YtlfpjndbpclnnaaGreatDoorRows
import GoSem.ClaimSeven
namespace Go.Proofs.YtlfpjndbpclnnaaGreatDoor
namespace Rows

/-- THE TIED CARD OF 'ticketlinelaw47.IdsPlays'. -/
def idsPlaysCard : Claim7 := { stood := { row := idsPlaysRow, standIns := [], harness := (true, "7189cbff6e198d90aaeae41de4925a36b2ba1ef32f48d8edb43747fb33ca07fb"), looks := true }, kinds := [], alts := [], laidByText := true, laidKinds := [.data, .data, .data, .sentinel, .sentinel], laidTests := true, laidLooks := .later }
def IdsPlaysCardSaid : Prop := Claim7.holds Tryz.pinned (.plain (OpenSpec.ofChange idsPlaysSpec)) idsPlaysCard

/-- THE SECOND FORM's CARD OF 'ticketlinelaw47.IdsPlays'. -/
def idsPlaysUptoCard : Claim7 := { stood := { row := idsPlaysUptoRow, standIns := [], harness := (true, "7189cbff6e198d90aaeae41de4925a36b2ba1ef32f48d8edb43747fb33ca07fb"), looks := true }, kinds := [], alts := [], laidByText := true, laidKinds := [.data, .data, .data, .sentinel, .sentinel], laidTests := true, laidLooks := .later }
def IdsPlaysUptoCardSaid : Prop := Claim7.holds Tryz.pinned (.plain (OpenSpec.upto idsPlaysSpec)) idsPlaysUptoCard
end Rows
end Go.Proofs.YtlfpjndbpclnnaaGreatDoor
