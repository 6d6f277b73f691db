/-
  DERIVED. GIVEN WITH THE SEED: THE CARDS: each row of YtmiinbhnfojnbaaDoorRows.lean that lists a variable, with what it lists TIED to the program's text (the seventh form; the later family's looks); each row that meets fmt, with fmt's text TOLD by the authors' own Lean function (tested against real Go, not proved from fmt's source: count such statements apart). THE CARD IS WHAT COUNTS. Prove the row's statement (the work); the ties are given (YtmiinbhnfojnbaaDoorTie.lean); close each card by the builder's one call (the guide's Derived/Test/ToyasCard.lean, 'card_holds'). Laid BY PROGRAM, IN A SANDBOX (cutbox-door.mjs). By AI agents, Wed Nov 11 2026. No macro, syntax, notation, axiom, sorry.
-/
import Derived.Test.YtmiinbhnfojnbaaDoorRows
import GoSem.ClaimSeven
namespace Go.Proofs.YtmiinbhnfojnbaaDoor
namespace Rows

/-- THE TIED CARD OF 'ticketlinelaw46.JobsBodies'. -/
def jobsBodiesCard : Claim7 := { stood := { row := jobsBodiesRow, standIns := [], harness := (true, "bd39f77b9b94eb43ac845b1c392a0cb432a3a9eb164094a21eb9e07866ad1c13"), looks := true }, kinds := [], alts := [], laidByText := true, laidKinds := [.data, .pinned], laidTests := true, laidLooks := .later }
def JobsBodiesCardSaid : Prop := Claim7.holds Tryd.pinned (.plain (OpenSpec.ofChange jobsBodiesSpec)) jobsBodiesCard

/-- THE TIED CARD OF 'ticketlinelaw46.JobsHolds'. -/
def jobsHoldsCard : Claim7 := { stood := { row := jobsHoldsRow, standIns := [], harness := (true, "bd39f77b9b94eb43ac845b1c392a0cb432a3a9eb164094a21eb9e07866ad1c13"), looks := true }, kinds := [], alts := [], laidByText := true, laidKinds := [.data, .pinned], laidTests := true, laidLooks := .later }
def JobsHoldsCardSaid : Prop := Claim7.holds Tryd.pinned (.plain (OpenSpec.ofChange jobsHoldsSpec)) jobsHoldsCard

/-- THE TIED CARD OF 'ticketlinelaw46.JobsNone'. -/
def jobsNoneCard : Claim7 := { stood := { row := jobsNoneRow, standIns := [], harness := (true, "bd39f77b9b94eb43ac845b1c392a0cb432a3a9eb164094a21eb9e07866ad1c13"), looks := true }, kinds := [], alts := [], laidByText := true, laidKinds := [.data, .pinned], laidTests := true, laidLooks := .later }
def JobsNoneCardSaid : Prop := Claim7.holds Tryd.pinned (.plain (OpenSpec.ofChange jobsNoneSpec)) jobsNoneCard

/-- THE SECOND FORM's CARD OF 'ticketlinelaw46.JobsBodies'. -/
def jobsBodiesUptoCard : Claim7 := { stood := { row := jobsBodiesUptoRow, standIns := [], harness := (true, "bd39f77b9b94eb43ac845b1c392a0cb432a3a9eb164094a21eb9e07866ad1c13"), looks := true }, kinds := [], alts := [], laidByText := true, laidKinds := [.data, .pinned], laidTests := true, laidLooks := .later }
def JobsBodiesUptoCardSaid : Prop := Claim7.holds Tryd.pinned (.plain (OpenSpec.upto jobsBodiesSpec)) jobsBodiesUptoCard

/-- THE SECOND FORM's CARD OF 'ticketlinelaw46.JobsHolds'. -/
def jobsHoldsUptoCard : Claim7 := { stood := { row := jobsHoldsUptoRow, standIns := [], harness := (true, "bd39f77b9b94eb43ac845b1c392a0cb432a3a9eb164094a21eb9e07866ad1c13"), looks := true }, kinds := [], alts := [], laidByText := true, laidKinds := [.data, .pinned], laidTests := true, laidLooks := .later }
def JobsHoldsUptoCardSaid : Prop := Claim7.holds Tryd.pinned (.plain (OpenSpec.upto jobsHoldsSpec)) jobsHoldsUptoCard

/-- THE SECOND FORM's CARD OF 'ticketlinelaw46.JobsNone'. -/
def jobsNoneUptoCard : Claim7 := { stood := { row := jobsNoneUptoRow, standIns := [], harness := (true, "bd39f77b9b94eb43ac845b1c392a0cb432a3a9eb164094a21eb9e07866ad1c13"), looks := true }, kinds := [], alts := [], laidByText := true, laidKinds := [.data, .pinned], laidTests := true, laidLooks := .later }
def JobsNoneUptoCardSaid : Prop := Claim7.holds Tryd.pinned (.plain (OpenSpec.upto jobsNoneSpec)) jobsNoneUptoCard
end Rows
end Go.Proofs.YtmiinbhnfojnbaaDoor
