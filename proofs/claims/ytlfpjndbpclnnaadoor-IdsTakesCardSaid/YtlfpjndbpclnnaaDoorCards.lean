/-
  DERIVED. GIVEN WITH THE SEED: THE CARDS: each row of YtlfpjndbpclnnaaDoorRows.lean that lists a variable, with what it lists TIED to the program's text (the seventh form; the later family's looks); each row that meets fmt, with fmt's text TOLD by the authors' own Lean function (tested against real Go, not proved from fmt's source: count such statements apart). THE CARD IS WHAT COUNTS. Prove the row's statement (the work); the ties are given (YtlfpjndbpclnnaaDoorTie.lean); close each card by the builder's one call (the guide's Derived/Test/ToyasCard.lean, 'card_holds'). Laid BY PROGRAM, IN A SANDBOX (cutbox-door.mjs). By AI agents, Wed Nov 11 2026. No macro, syntax, notation, axiom, sorry.
-/
import Derived.Test.YtlfpjndbpclnnaaDoorRows
import GoSem.ClaimSeven
namespace Go.Proofs.YtlfpjndbpclnnaaDoor
namespace Rows

/-- THE TIED CARD OF 'ticketlinelaw47.IdsTakes'. -/
def idsTakesCard : Claim7 := { stood := { row := idsTakesRow, standIns := [], harness := (true, "5d92769dfac6fcdb3889fef9c89a0676a9231a201aef102cd363bbd35384899b"), looks := true }, kinds := [], alts := [], laidByText := true, laidKinds := [.data, .data, .data, .sentinel, .sentinel], laidTests := true, laidLooks := .later }
def IdsTakesCardSaid : Prop := Claim7.holds Tryd.pinned (.plain (OpenSpec.ofChange idsTakesSpec)) idsTakesCard

/-- THE TIED CARD OF 'ticketlinelaw47.IdsHolds'. -/
def idsHoldsCard : Claim7 := { stood := { row := idsHoldsRow, standIns := [], harness := (true, "5d92769dfac6fcdb3889fef9c89a0676a9231a201aef102cd363bbd35384899b"), looks := true }, kinds := [], alts := [], laidByText := true, laidKinds := [.data, .data, .data, .sentinel, .sentinel], laidTests := true, laidLooks := .later }
def IdsHoldsCardSaid : Prop := Claim7.holds Tryd.pinned (.plain (OpenSpec.ofChange idsHoldsSpec)) idsHoldsCard

/-- THE TIED CARD OF 'ticketlinelaw47.IdsNone'. -/
def idsNoneCard : Claim7 := { stood := { row := idsNoneRow, standIns := [], harness := (true, "5d92769dfac6fcdb3889fef9c89a0676a9231a201aef102cd363bbd35384899b"), looks := true }, kinds := [], alts := [], laidByText := true, laidKinds := [.data, .data, .data, .sentinel, .sentinel], laidTests := true, laidLooks := .later }
def IdsNoneCardSaid : Prop := Claim7.holds Tryd.pinned (.plain (OpenSpec.ofChange idsNoneSpec)) idsNoneCard

/-- THE SECOND FORM's CARD OF 'ticketlinelaw47.IdsTakes'. -/
def idsTakesUptoCard : Claim7 := { stood := { row := idsTakesUptoRow, standIns := [], harness := (true, "5d92769dfac6fcdb3889fef9c89a0676a9231a201aef102cd363bbd35384899b"), looks := true }, kinds := [], alts := [], laidByText := true, laidKinds := [.data, .data, .data, .sentinel, .sentinel], laidTests := true, laidLooks := .later }
def IdsTakesUptoCardSaid : Prop := Claim7.holds Tryd.pinned (.plain (OpenSpec.upto idsTakesSpec)) idsTakesUptoCard

/-- THE SECOND FORM's CARD OF 'ticketlinelaw47.IdsHolds'. -/
def idsHoldsUptoCard : Claim7 := { stood := { row := idsHoldsUptoRow, standIns := [], harness := (true, "5d92769dfac6fcdb3889fef9c89a0676a9231a201aef102cd363bbd35384899b"), looks := true }, kinds := [], alts := [], laidByText := true, laidKinds := [.data, .data, .data, .sentinel, .sentinel], laidTests := true, laidLooks := .later }
def IdsHoldsUptoCardSaid : Prop := Claim7.holds Tryd.pinned (.plain (OpenSpec.upto idsHoldsSpec)) idsHoldsUptoCard

/-- THE SECOND FORM's CARD OF 'ticketlinelaw47.IdsNone'. -/
def idsNoneUptoCard : Claim7 := { stood := { row := idsNoneUptoRow, standIns := [], harness := (true, "5d92769dfac6fcdb3889fef9c89a0676a9231a201aef102cd363bbd35384899b"), looks := true }, kinds := [], alts := [], laidByText := true, laidKinds := [.data, .data, .data, .sentinel, .sentinel], laidTests := true, laidLooks := .later }
def IdsNoneUptoCardSaid : Prop := Claim7.holds Tryd.pinned (.plain (OpenSpec.upto idsNoneSpec)) idsNoneUptoCard
end Rows
end Go.Proofs.YtlfpjndbpclnnaaDoor
