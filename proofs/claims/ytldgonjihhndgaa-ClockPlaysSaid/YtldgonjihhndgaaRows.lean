/-
  No cell of these rows narrows 'for every input' (looked for: loops, veiled, ifaces, maps, wideKeys, modest, calm, conditions, laid).
  DERIVED. THE GIVEN ROWS OF THIS SEAT. 5 by the template 'for every input the law returns true; each argument reads behind the call as it read before'; 0 by the template 'total and deterministic' (their statements: YtldgonjihhndgaaTotals.lean).
  GIVEN WITH THE SEED: the statements are not yours to turn. If you find one false, say at which input.
  Laid BY PROGRAM, IN A SANDBOX (cutbox-rows.mjs): the forced cells as the released guide's own fill.sh prints them over the translation 6897494cad9329cf… (all of the seat's roots in one cut). By AI agents, Wed Nov 11 2026. No macro, syntax, notation, axiom, sorry.
-/
import Derived.Test.YtldgonjihhndgaaChecked
import GoSem.Claim
import GoSem.ClaimJoined
import GoSem.ClaimMapViews
import Derived.JoinedTies
import Derived.KernelRfl
namespace Go.Proofs.Ytldgonjihhndgaa
/- THE CELL 'sum', in the pinned program and in every row, IS THE sha256 OF THE DUMP (.gsa) THAT YtldgonjihhndgaaProg.lean LOADS. Nothing in Lean hashes anything: it is a label: what it is worth is what the hold of that sum in a sandbox is worth. -/
noncomputable def Try.pinned : Pinned := { name := "ytldgonjihhndgaa", sum := "6897494cad9329cfd9551a51de743e8e9a1a82e75d9dd6d9e56903fdb25fcdb5", checked := Try.checked }
namespace Rows
def none {H : Type} : Left H := { results := [], args := [] }

/-- 'ticketlinelaw02.ClockDues': WHATEVER THE INPUT: true; the input reads as it did. -/
def clockDuesSpec : ChangeSpec := { name := "clockDues", fn := fun _ => fun
  | [d1, d2, d3] => { results := [.lit (.bool true)], args := [d1, d2, d3] }
  | _ => none }
def clockDuesRow : OpenClaim := { program := "ytldgonjihhndgaa", sum := "6897494cad9329cfd9551a51de743e8e9a1a82e75d9dd6d9e56903fdb25fcdb5", func := "ticketline/ticketlinelaw02.ClockDues", spec := "clockDues", inPlace := ["slices.overlaps[ticketline/clock.alarm]"], unfollowed := true, recurses := true, apart := false }
def ClockDuesSaid : Prop := clockDuesRow.holds Try.pinned (OpenSpec.ofChange clockDuesSpec)

/-- ITS FALSE NEIGHBOUR: 'it returns false'. Refute it at one input. -/
def clockDuesWrong : ChangeSpec := { name := "clockDues", fn := fun _ => fun
  | [d1, d2, d3] => { results := [.lit (.bool false)], args := [d1, d2, d3] }
  | _ => none }
def ClockDuesWrongFalsely : Prop := clockDuesRow.holds Try.pinned (OpenSpec.ofChange clockDuesWrong)

/-- 'ticketlinelaw02.ClockFulls': WHATEVER THE INPUT: true; the input reads as it did. -/
def clockFullsSpec : ChangeSpec := { name := "clockFulls", fn := fun _ => fun
  | [d1, d2] => { results := [.lit (.bool true)], args := [d1, d2] }
  | _ => none }
def clockFullsRow : OpenClaim := { program := "ytldgonjihhndgaa", sum := "6897494cad9329cfd9551a51de743e8e9a1a82e75d9dd6d9e56903fdb25fcdb5", func := "ticketline/ticketlinelaw02.ClockFulls", spec := "clockFulls", inPlace := ["slices.overlaps[ticketline/clock.alarm]"], unfollowed := true, recurses := true, apart := false }
def ClockFullsSaid : Prop := clockFullsRow.holds Try.pinned (OpenSpec.ofChange clockFullsSpec)

/-- ITS FALSE NEIGHBOUR: 'it returns false'. Refute it at one input. -/
def clockFullsWrong : ChangeSpec := { name := "clockFulls", fn := fun _ => fun
  | [d1, d2] => { results := [.lit (.bool false)], args := [d1, d2] }
  | _ => none }
def ClockFullsWrongFalsely : Prop := clockFullsRow.holds Try.pinned (OpenSpec.ofChange clockFullsWrong)

/-- 'ticketlinelaw02.ClockPlays': WHATEVER THE INPUT: true; the input reads as it did. -/
def clockPlaysSpec : ChangeSpec := { name := "clockPlays", fn := fun _ => fun
  | [d1, d2] => { results := [.lit (.bool true)], args := [d1, d2] }
  | _ => none }
def clockPlaysRow : OpenClaim := { program := "ytldgonjihhndgaa", sum := "6897494cad9329cfd9551a51de743e8e9a1a82e75d9dd6d9e56903fdb25fcdb5", func := "ticketline/ticketlinelaw02.ClockPlays", spec := "clockPlays", inPlace := ["slices.overlaps[ticketline/clock.alarm]"], unfollowed := true, recurses := true, apart := false }
def ClockPlaysSaid : Prop := clockPlaysRow.holds Try.pinned (OpenSpec.ofChange clockPlaysSpec)

/-- ITS FALSE NEIGHBOUR: 'it returns false'. Refute it at one input. -/
def clockPlaysWrong : ChangeSpec := { name := "clockPlays", fn := fun _ => fun
  | [d1, d2] => { results := [.lit (.bool false)], args := [d1, d2] }
  | _ => none }
def ClockPlaysWrongFalsely : Prop := clockPlaysRow.holds Try.pinned (OpenSpec.ofChange clockPlaysWrong)

/-- 'ticketlinelaw02.ClockNil': WHATEVER THE INPUT: true; the input reads as it did. -/
def clockNilSpec : ChangeSpec := { name := "clockNil", fn := fun _ => fun
  | [d1, d2] => { results := [.lit (.bool true)], args := [d1, d2] }
  | _ => none }
def clockNilRow : OpenClaim := { program := "ytldgonjihhndgaa", sum := "6897494cad9329cfd9551a51de743e8e9a1a82e75d9dd6d9e56903fdb25fcdb5", func := "ticketline/ticketlinelaw02.ClockNil", spec := "clockNil", inPlace := ["slices.overlaps[ticketline/clock.alarm]"], unfollowed := true, recurses := true, apart := false }
def ClockNilSaid : Prop := clockNilRow.holds Try.pinned (OpenSpec.ofChange clockNilSpec)

/-- ITS FALSE NEIGHBOUR: 'it returns false'. Refute it at one input. -/
def clockNilWrong : ChangeSpec := { name := "clockNil", fn := fun _ => fun
  | [d1, d2] => { results := [.lit (.bool false)], args := [d1, d2] }
  | _ => none }
def ClockNilWrongFalsely : Prop := clockNilRow.holds Try.pinned (OpenSpec.ofChange clockNilWrong)

/-- 'ticketlinelaw02.ClockHolds': WHATEVER THE INPUT: true; the input reads as it did. -/
def clockHoldsSpec : ChangeSpec := { name := "clockHolds", fn := fun _ => fun
  | [d1, d2, d3] => { results := [.lit (.bool true)], args := [d1, d2, d3] }
  | _ => none }
def clockHoldsRow : OpenClaim := { program := "ytldgonjihhndgaa", sum := "6897494cad9329cfd9551a51de743e8e9a1a82e75d9dd6d9e56903fdb25fcdb5", func := "ticketline/ticketlinelaw02.ClockHolds", spec := "clockHolds", inPlace := ["slices.overlaps[ticketline/clock.alarm]"], unfollowed := true, recurses := true, apart := false }
def ClockHoldsSaid : Prop := clockHoldsRow.holds Try.pinned (OpenSpec.ofChange clockHoldsSpec)

/-- ITS FALSE NEIGHBOUR: 'it returns false'. Refute it at one input. -/
def clockHoldsWrong : ChangeSpec := { name := "clockHolds", fn := fun _ => fun
  | [d1, d2, d3] => { results := [.lit (.bool false)], args := [d1, d2, d3] }
  | _ => none }
def ClockHoldsWrongFalsely : Prop := clockHoldsRow.holds Try.pinned (OpenSpec.ofChange clockHoldsWrong)

/- THE SECOND FORM. 'bulk': how many values and letters a reading holds, each counted each time it is reached (what is shared counts as often as it is met; a slice's spare places count too). A statement '..UptoSaid' is the law's where the arguments, and the package variables that the reading takes, are together of bulk at most 1048576: NARROWER than '..Said'. Prove '..Said' where nothing that the law and all that it calls make is longer than what came in: it says more and counts as full. Else prove '..UptoSaid'. A law counts once. -/
mutual
def uptoBulk {H : Type} : DataW H → Nat
  | .lit (.string bytes) => bytes.length + 1
  | .lit _ => 1
  | .nil => 1
  | .ptr d => uptoBulk d + 1
  | .slice elems spare => uptoBulkAll elems + uptoBulkAll spare + 1
  | .agg parts => uptoBulkAll parts + 1
  | .iface _ d => uptoBulk d + 1
  | .map entries => uptoBulkEntries entries + 1
  | .held _ => 1
def uptoBulkAll {H : Type} : List (DataW H) → Nat
  | [] => 0
  | d :: r => uptoBulk d + uptoBulkAll r
def uptoBulkEntries {H : Type} : List (Lit × DataW H) → Nat
  | [] => 0
  | x :: r => uptoBulkEntry x + uptoBulkEntries r
def uptoBulkEntry {H : Type} : Lit × DataW H → Nat
  | (.string bytes, d) => bytes.length + uptoBulk d + 1
  | (_, d) => uptoBulk d + 1
 end
def uptoSmall : (H : Type) → List (DataW H) → Bool := fun _ ds => decide (uptoBulkAll ds ≤ 1048576)
def OpenSpec.upto (s : _root_.Go.ChangeSpec) : _root_.Go.OpenSpec := { _root_.Go.OpenSpec.ofChange s with cond := some uptoSmall }

/-- 'ticketlinelaw02.ClockDues', WHERE WHAT IT READS IS OF BULK AT MOST 1048576: true; the input reads as it did. -/
def clockDuesUptoRow : OpenClaim := { program := "ytldgonjihhndgaa", sum := "6897494cad9329cfd9551a51de743e8e9a1a82e75d9dd6d9e56903fdb25fcdb5", func := "ticketline/ticketlinelaw02.ClockDues", spec := "clockDues", inPlace := ["slices.overlaps[ticketline/clock.alarm]"], unfollowed := true, recurses := true, apart := false, narrowed := true }
def ClockDuesUptoSaid : Prop := clockDuesUptoRow.holds Try.pinned (OpenSpec.upto clockDuesSpec)

/-- 'ticketlinelaw02.ClockFulls', WHERE WHAT IT READS IS OF BULK AT MOST 1048576: true; the input reads as it did. -/
def clockFullsUptoRow : OpenClaim := { program := "ytldgonjihhndgaa", sum := "6897494cad9329cfd9551a51de743e8e9a1a82e75d9dd6d9e56903fdb25fcdb5", func := "ticketline/ticketlinelaw02.ClockFulls", spec := "clockFulls", inPlace := ["slices.overlaps[ticketline/clock.alarm]"], unfollowed := true, recurses := true, apart := false, narrowed := true }
def ClockFullsUptoSaid : Prop := clockFullsUptoRow.holds Try.pinned (OpenSpec.upto clockFullsSpec)

/-- 'ticketlinelaw02.ClockPlays', WHERE WHAT IT READS IS OF BULK AT MOST 1048576: true; the input reads as it did. -/
def clockPlaysUptoRow : OpenClaim := { program := "ytldgonjihhndgaa", sum := "6897494cad9329cfd9551a51de743e8e9a1a82e75d9dd6d9e56903fdb25fcdb5", func := "ticketline/ticketlinelaw02.ClockPlays", spec := "clockPlays", inPlace := ["slices.overlaps[ticketline/clock.alarm]"], unfollowed := true, recurses := true, apart := false, narrowed := true }
def ClockPlaysUptoSaid : Prop := clockPlaysUptoRow.holds Try.pinned (OpenSpec.upto clockPlaysSpec)

/-- 'ticketlinelaw02.ClockNil', WHERE WHAT IT READS IS OF BULK AT MOST 1048576: true; the input reads as it did. -/
def clockNilUptoRow : OpenClaim := { program := "ytldgonjihhndgaa", sum := "6897494cad9329cfd9551a51de743e8e9a1a82e75d9dd6d9e56903fdb25fcdb5", func := "ticketline/ticketlinelaw02.ClockNil", spec := "clockNil", inPlace := ["slices.overlaps[ticketline/clock.alarm]"], unfollowed := true, recurses := true, apart := false, narrowed := true }
def ClockNilUptoSaid : Prop := clockNilUptoRow.holds Try.pinned (OpenSpec.upto clockNilSpec)

/-- 'ticketlinelaw02.ClockHolds', WHERE WHAT IT READS IS OF BULK AT MOST 1048576: true; the input reads as it did. -/
def clockHoldsUptoRow : OpenClaim := { program := "ytldgonjihhndgaa", sum := "6897494cad9329cfd9551a51de743e8e9a1a82e75d9dd6d9e56903fdb25fcdb5", func := "ticketline/ticketlinelaw02.ClockHolds", spec := "clockHolds", inPlace := ["slices.overlaps[ticketline/clock.alarm]"], unfollowed := true, recurses := true, apart := false, narrowed := true }
def ClockHoldsUptoSaid : Prop := clockHoldsUptoRow.holds Try.pinned (OpenSpec.upto clockHoldsSpec)

end Rows
end Go.Proofs.Ytldgonjihhndgaa
