/-
  DERIVED. GIVEN WITH THE SEED: THE CARDS: each row of YtlmhioanjmhaiaaDoorRows.lean that lists a variable, with what it lists TIED to the program's text (the seventh form; the later family's looks); each row that meets fmt, with fmt's text TOLD by the authors' own Lean function (tested against real Go, not proved from fmt's source: count such statements apart). THE CARD IS WHAT COUNTS. Prove the row's statement (the work); the ties are given (YtlmhioanjmhaiaaDoorTie.lean); close each card by the builder's one call (the guide's Derived/Test/ToyasCard.lean, 'card_holds'). Laid BY PROGRAM, IN A SANDBOX (cutbox-door.mjs). By AI agents, Wed Nov 11 2026. No macro, syntax, notation, axiom, sorry.
-/
import Derived.Test.YtlmhioanjmhaiaaDoorRows
import GoSem.ClaimSeven
namespace Go.Proofs.YtlmhioanjmhaiaaDoor
namespace Rows

/-- THE TIED CARD OF 'ticketlinelaw40.RowsReads'. -/
def rowsReadsCard : Claim7 := { stood := { row := rowsReadsRow, standIns := [], harness := (true, "aaed328d676b259d80c0dea683c8657178ef62b17664fbaf17bcdc3b4d96b0a3"), looks := false }, kinds := [], alts := [], laidByText := true, laidKinds := [.data, .pinned], laidTests := true, laidLooks := .later }
def RowsReadsCardSaid : Prop := Claim7.holds Tryd.pinned (.plain (OpenSpec.ofChange rowsReadsSpec)) rowsReadsCard

/-- THE TIED CARD OF 'ticketlinelaw40.RowsSpans'. -/
def rowsSpansCard : Claim7 := { stood := { row := rowsSpansRow, standIns := [], harness := (true, "aaed328d676b259d80c0dea683c8657178ef62b17664fbaf17bcdc3b4d96b0a3"), looks := false }, kinds := [], alts := [], laidByText := true, laidKinds := [.data, .pinned], laidTests := true, laidLooks := .later }
def RowsSpansCardSaid : Prop := Claim7.holds Tryd.pinned (.plain (OpenSpec.ofChange rowsSpansSpec)) rowsSpansCard

/-- THE TIED CARD OF 'ticketlinelaw40.RowsHolds'. -/
def rowsHoldsCard : Claim7 := { stood := { row := rowsHoldsRow, standIns := [], harness := (true, "aaed328d676b259d80c0dea683c8657178ef62b17664fbaf17bcdc3b4d96b0a3"), looks := false }, kinds := [], alts := [], laidByText := true, laidKinds := [.data, .pinned], laidTests := true, laidLooks := .later }
def RowsHoldsCardSaid : Prop := Claim7.holds Tryd.pinned (.plain (OpenSpec.ofChange rowsHoldsSpec)) rowsHoldsCard

/-- THE TIED CARD OF 'ticketlinelaw40.RowsWrites'. -/
def rowsWritesCard : Claim7 := { stood := { row := rowsWritesRow, standIns := [], harness := (true, "aaed328d676b259d80c0dea683c8657178ef62b17664fbaf17bcdc3b4d96b0a3"), looks := false }, kinds := [], alts := [], laidByText := true, laidKinds := [.data, .pinned], laidTests := true, laidLooks := .later }
def RowsWritesCardSaid : Prop := Claim7.holds Tryd.pinned (.plain (OpenSpec.ofChange rowsWritesSpec)) rowsWritesCard

/-- THE TIED CARD OF 'ticketlinelaw40.RowsCompares'. -/
def rowsComparesCard : Claim7 := { stood := { row := rowsComparesRow, standIns := [], harness := (true, "aaed328d676b259d80c0dea683c8657178ef62b17664fbaf17bcdc3b4d96b0a3"), looks := false }, kinds := [], alts := [], laidByText := true, laidKinds := [.data, .pinned], laidTests := true, laidLooks := .later }
def RowsComparesCardSaid : Prop := Claim7.holds Tryd.pinned (.plain (OpenSpec.ofChange rowsComparesSpec)) rowsComparesCard

/-- THE SECOND FORM's CARD OF 'ticketlinelaw40.RowsReads'. -/
def rowsReadsUptoCard : Claim7 := { stood := { row := rowsReadsUptoRow, standIns := [], harness := (true, "aaed328d676b259d80c0dea683c8657178ef62b17664fbaf17bcdc3b4d96b0a3"), looks := false }, kinds := [], alts := [], laidByText := true, laidKinds := [.data, .pinned], laidTests := true, laidLooks := .later }
def RowsReadsUptoCardSaid : Prop := Claim7.holds Tryd.pinned (.plain (OpenSpec.upto rowsReadsSpec)) rowsReadsUptoCard

/-- THE SECOND FORM's CARD OF 'ticketlinelaw40.RowsSpans'. -/
def rowsSpansUptoCard : Claim7 := { stood := { row := rowsSpansUptoRow, standIns := [], harness := (true, "aaed328d676b259d80c0dea683c8657178ef62b17664fbaf17bcdc3b4d96b0a3"), looks := false }, kinds := [], alts := [], laidByText := true, laidKinds := [.data, .pinned], laidTests := true, laidLooks := .later }
def RowsSpansUptoCardSaid : Prop := Claim7.holds Tryd.pinned (.plain (OpenSpec.upto rowsSpansSpec)) rowsSpansUptoCard

/-- THE SECOND FORM's CARD OF 'ticketlinelaw40.RowsHolds'. -/
def rowsHoldsUptoCard : Claim7 := { stood := { row := rowsHoldsUptoRow, standIns := [], harness := (true, "aaed328d676b259d80c0dea683c8657178ef62b17664fbaf17bcdc3b4d96b0a3"), looks := false }, kinds := [], alts := [], laidByText := true, laidKinds := [.data, .pinned], laidTests := true, laidLooks := .later }
def RowsHoldsUptoCardSaid : Prop := Claim7.holds Tryd.pinned (.plain (OpenSpec.upto rowsHoldsSpec)) rowsHoldsUptoCard

/-- THE SECOND FORM's CARD OF 'ticketlinelaw40.RowsWrites'. -/
def rowsWritesUptoCard : Claim7 := { stood := { row := rowsWritesUptoRow, standIns := [], harness := (true, "aaed328d676b259d80c0dea683c8657178ef62b17664fbaf17bcdc3b4d96b0a3"), looks := false }, kinds := [], alts := [], laidByText := true, laidKinds := [.data, .pinned], laidTests := true, laidLooks := .later }
def RowsWritesUptoCardSaid : Prop := Claim7.holds Tryd.pinned (.plain (OpenSpec.upto rowsWritesSpec)) rowsWritesUptoCard

/-- THE SECOND FORM's CARD OF 'ticketlinelaw40.RowsCompares'. -/
def rowsComparesUptoCard : Claim7 := { stood := { row := rowsComparesUptoRow, standIns := [], harness := (true, "aaed328d676b259d80c0dea683c8657178ef62b17664fbaf17bcdc3b4d96b0a3"), looks := false }, kinds := [], alts := [], laidByText := true, laidKinds := [.data, .pinned], laidTests := true, laidLooks := .later }
def RowsComparesUptoCardSaid : Prop := Claim7.holds Tryd.pinned (.plain (OpenSpec.upto rowsComparesSpec)) rowsComparesUptoCard
end Rows
end Go.Proofs.YtlmhioanjmhaiaaDoor
