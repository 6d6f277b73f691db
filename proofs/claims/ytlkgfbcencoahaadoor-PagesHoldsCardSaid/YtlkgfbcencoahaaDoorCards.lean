/-
  DERIVED. GIVEN WITH THE SEED: THE CARDS: each row of YtlkgfbcencoahaaDoorRows.lean that lists a variable, with what it lists TIED to the program's text (the seventh form; the later family's looks); each row that meets fmt, with fmt's text TOLD by the authors' own Lean function (tested against real Go, not proved from fmt's source: count such statements apart). THE CARD IS WHAT COUNTS. Prove the row's statement (the work); the ties are given (YtlkgfbcencoahaaDoorTie.lean); close each card by the builder's one call (the guide's Derived/Test/ToyasCard.lean, 'card_holds'). Laid BY PROGRAM, IN A SANDBOX (cutbox-door.mjs). By AI agents, Wed Nov 11 2026. No macro, syntax, notation, axiom, sorry.
-/
import Derived.Test.YtlkgfbcencoahaaDoorRows
import GoSem.ClaimSeven
namespace Go.Proofs.YtlkgfbcencoahaaDoor
namespace Rows

/-- THE TIED CARD OF 'ticketlinelaw44.PagesFirst'. -/
def pagesFirstCard : Claim7 := { stood := { row := pagesFirstRow, standIns := [], harness := (true, "ef81491be147621d194e189f5f29381fb4c44cbb92e9647d629af1b4d4384497"), looks := true }, kinds := [], alts := [], laidByText := true, laidKinds := [.data, .data, .data, .data, .sentinel, .sentinel, .pinned], laidTests := true, laidLooks := .later }
def PagesFirstCardSaid : Prop := Claim7.holds Tryd.pinned (.plain (OpenSpec.ofChange pagesFirstSpec)) pagesFirstCard

/-- THE TIED CARD OF 'ticketlinelaw44.PagesNext'. -/
def pagesNextCard : Claim7 := { stood := { row := pagesNextRow, standIns := [], harness := (true, "ef81491be147621d194e189f5f29381fb4c44cbb92e9647d629af1b4d4384497"), looks := true }, kinds := [], alts := [], laidByText := true, laidKinds := [.data, .data, .data, .data, .sentinel, .sentinel, .pinned], laidTests := true, laidLooks := .later }
def PagesNextCardSaid : Prop := Claim7.holds Tryd.pinned (.plain (OpenSpec.ofChange pagesNextSpec)) pagesNextCard

/-- THE TIED CARD OF 'ticketlinelaw44.PagesMarks'. -/
def pagesMarksCard : Claim7 := { stood := { row := pagesMarksRow, standIns := [], harness := (true, "ef81491be147621d194e189f5f29381fb4c44cbb92e9647d629af1b4d4384497"), looks := true }, kinds := [], alts := [], laidByText := true, laidKinds := [.data, .data, .data, .data, .sentinel, .sentinel, .pinned], laidTests := true, laidLooks := .later }
def PagesMarksCardSaid : Prop := Claim7.holds Tryd.pinned (.plain (OpenSpec.ofChange pagesMarksSpec)) pagesMarksCard

/-- THE TIED CARD OF 'ticketlinelaw44.PagesHolds'. -/
def pagesHoldsCard : Claim7 := { stood := { row := pagesHoldsRow, standIns := [], harness := (true, "ef81491be147621d194e189f5f29381fb4c44cbb92e9647d629af1b4d4384497"), looks := true }, kinds := [], alts := [], laidByText := true, laidKinds := [.data, .data, .data, .data, .sentinel, .sentinel, .pinned], laidTests := true, laidLooks := .later }
def PagesHoldsCardSaid : Prop := Claim7.holds Tryd.pinned (.plain (OpenSpec.ofChange pagesHoldsSpec)) pagesHoldsCard

/-- THE SECOND FORM's CARD OF 'ticketlinelaw44.PagesFirst'. -/
def pagesFirstUptoCard : Claim7 := { stood := { row := pagesFirstUptoRow, standIns := [], harness := (true, "ef81491be147621d194e189f5f29381fb4c44cbb92e9647d629af1b4d4384497"), looks := true }, kinds := [], alts := [], laidByText := true, laidKinds := [.data, .data, .data, .data, .sentinel, .sentinel, .pinned], laidTests := true, laidLooks := .later }
def PagesFirstUptoCardSaid : Prop := Claim7.holds Tryd.pinned (.plain (OpenSpec.upto pagesFirstSpec)) pagesFirstUptoCard

/-- THE SECOND FORM's CARD OF 'ticketlinelaw44.PagesNext'. -/
def pagesNextUptoCard : Claim7 := { stood := { row := pagesNextUptoRow, standIns := [], harness := (true, "ef81491be147621d194e189f5f29381fb4c44cbb92e9647d629af1b4d4384497"), looks := true }, kinds := [], alts := [], laidByText := true, laidKinds := [.data, .data, .data, .data, .sentinel, .sentinel, .pinned], laidTests := true, laidLooks := .later }
def PagesNextUptoCardSaid : Prop := Claim7.holds Tryd.pinned (.plain (OpenSpec.upto pagesNextSpec)) pagesNextUptoCard

/-- THE SECOND FORM's CARD OF 'ticketlinelaw44.PagesMarks'. -/
def pagesMarksUptoCard : Claim7 := { stood := { row := pagesMarksUptoRow, standIns := [], harness := (true, "ef81491be147621d194e189f5f29381fb4c44cbb92e9647d629af1b4d4384497"), looks := true }, kinds := [], alts := [], laidByText := true, laidKinds := [.data, .data, .data, .data, .sentinel, .sentinel, .pinned], laidTests := true, laidLooks := .later }
def PagesMarksUptoCardSaid : Prop := Claim7.holds Tryd.pinned (.plain (OpenSpec.upto pagesMarksSpec)) pagesMarksUptoCard

/-- THE SECOND FORM's CARD OF 'ticketlinelaw44.PagesHolds'. -/
def pagesHoldsUptoCard : Claim7 := { stood := { row := pagesHoldsUptoRow, standIns := [], harness := (true, "ef81491be147621d194e189f5f29381fb4c44cbb92e9647d629af1b4d4384497"), looks := true }, kinds := [], alts := [], laidByText := true, laidKinds := [.data, .data, .data, .data, .sentinel, .sentinel, .pinned], laidTests := true, laidLooks := .later }
def PagesHoldsUptoCardSaid : Prop := Claim7.holds Tryd.pinned (.plain (OpenSpec.upto pagesHoldsSpec)) pagesHoldsUptoCard
end Rows
end Go.Proofs.YtlkgfbcencoahaaDoor
