/-
  No cell of these rows narrows 'for every input' (looked for: loops, veiled, ifaces, maps, wideKeys, modest, calm, conditions, laid).
  DERIVED. THE GIVEN ROWS OF THIS SEAT. 4 by the template 'for every input the law returns true; each argument reads behind the call as it read before'; 0 by the template 'total and deterministic' (their statements: YtmbppjilnnjdaaaTotals.lean).
  GIVEN WITH THE SEED: the statements are not yours to turn. If you find one false, say at which input.
  Laid BY PROGRAM, IN A SANDBOX (cutbox-rows.mjs): the forced cells as the released guide's own fill.sh prints them over the translation 966c7d483a23d30a… (all of the seat's roots in one cut). By AI agents, Wed Nov 11 2026. No macro, syntax, notation, axiom, sorry.
-/
import Derived.Test.YtmbppjilnnjdaaaChecked
import GoSem.Claim
import GoSem.ClaimJoined
import GoSem.ClaimMapViews
import Derived.JoinedTies
import Derived.KernelRfl
namespace Go.Proofs.Ytmbppjilnnjdaaa
/- THE CELL 'sum', in the pinned program and in every row, IS THE sha256 OF THE DUMP (.gsa) THAT YtmbppjilnnjdaaaProg.lean LOADS. Nothing in Lean hashes anything: it is a label: what it is worth is what the hold of that sum in a sandbox is worth. -/
noncomputable def Try.pinned : Pinned := { name := "ytmbppjilnnjdaaa", sum := "966c7d483a23d30a5ea60eb1c21a724a71bffec6ba52dbdd90047e0e496e9bf5", checked := Try.checked }
namespace Rows
def none {H : Type} : Left H := { results := [], args := [] }

/-- 'ticketlinelaw42.CursorNew': WHATEVER THE INPUT: true; the input reads as it did. -/
def cursorNewSpec : ChangeSpec := { name := "cursorNew", fn := fun _ => fun
  | [d1, d2] => { results := [.lit (.bool true)], args := [d1, d2] }
  | _ => none }
def cursorNewRow : OpenClaim := { program := "ytmbppjilnnjdaaa", sum := "966c7d483a23d30a5ea60eb1c21a724a71bffec6ba52dbdd90047e0e496e9bf5", func := "ticketline/ticketlinelaw42.CursorNew", spec := "cursorNew", inPlace := ["internal/bytealg.abigen_runtime_cmpstring"], unfollowed := true, recurses := true, apart := false }
def CursorNewSaid : Prop := cursorNewRow.holds Try.pinned (OpenSpec.ofChange cursorNewSpec)

/-- ITS FALSE NEIGHBOUR: 'it returns false'. Refute it at one input. -/
def cursorNewWrong : ChangeSpec := { name := "cursorNew", fn := fun _ => fun
  | [d1, d2] => { results := [.lit (.bool false)], args := [d1, d2] }
  | _ => none }
def CursorNewWrongFalsely : Prop := cursorNewRow.holds Try.pinned (OpenSpec.ofChange cursorNewWrong)

/-- 'ticketlinelaw42.CursorNil': WHATEVER THE INPUT: true; the input reads as it did. -/
def cursorNilSpec : ChangeSpec := { name := "cursorNil", fn := fun _ => fun
  | [d] => { results := [.lit (.bool true)], args := [d] }
  | _ => none }
def cursorNilRow : OpenClaim := { program := "ytmbppjilnnjdaaa", sum := "966c7d483a23d30a5ea60eb1c21a724a71bffec6ba52dbdd90047e0e496e9bf5", func := "ticketline/ticketlinelaw42.CursorNil", spec := "cursorNil", inPlace := ["internal/bytealg.abigen_runtime_cmpstring"], unfollowed := true, recurses := true, apart := false }
def CursorNilSaid : Prop := cursorNilRow.holds Try.pinned (OpenSpec.ofChange cursorNilSpec)

/-- ITS FALSE NEIGHBOUR: 'it returns false'. Refute it at one input. -/
def cursorNilWrong : ChangeSpec := { name := "cursorNil", fn := fun _ => fun
  | [d] => { results := [.lit (.bool false)], args := [d] }
  | _ => none }
def CursorNilWrongFalsely : Prop := cursorNilRow.holds Try.pinned (OpenSpec.ofChange cursorNilWrong)

/-- 'ticketlinelaw42.CursorPlays': WHATEVER THE INPUT: true; the input reads as it did. -/
def cursorPlaysSpec : ChangeSpec := { name := "cursorPlays", fn := fun _ => fun
  | [d1, d2, d3] => { results := [.lit (.bool true)], args := [d1, d2, d3] }
  | _ => none }
def cursorPlaysRow : OpenClaim := { program := "ytmbppjilnnjdaaa", sum := "966c7d483a23d30a5ea60eb1c21a724a71bffec6ba52dbdd90047e0e496e9bf5", func := "ticketline/ticketlinelaw42.CursorPlays", spec := "cursorPlays", inPlace := ["internal/bytealg.abigen_runtime_cmpstring", "slices.overlaps[ticketline/api.Pair]"], unfollowed := true, recurses := true, apart := false }
def CursorPlaysSaid : Prop := cursorPlaysRow.holds Try.pinned (OpenSpec.ofChange cursorPlaysSpec)

/-- ITS FALSE NEIGHBOUR: 'it returns false'. Refute it at one input. -/
def cursorPlaysWrong : ChangeSpec := { name := "cursorPlays", fn := fun _ => fun
  | [d1, d2, d3] => { results := [.lit (.bool false)], args := [d1, d2, d3] }
  | _ => none }
def CursorPlaysWrongFalsely : Prop := cursorPlaysRow.holds Try.pinned (OpenSpec.ofChange cursorPlaysWrong)

/-- 'ticketlinelaw42.CursorHolds': WHATEVER THE INPUT: true; the input reads as it did. -/
def cursorHoldsSpec : ChangeSpec := { name := "cursorHolds", fn := fun _ => fun
  | [d1, d2, d3, d4] => { results := [.lit (.bool true)], args := [d1, d2, d3, d4] }
  | _ => none }
def cursorHoldsRow : OpenClaim := { program := "ytmbppjilnnjdaaa", sum := "966c7d483a23d30a5ea60eb1c21a724a71bffec6ba52dbdd90047e0e496e9bf5", func := "ticketline/ticketlinelaw42.CursorHolds", spec := "cursorHolds", inPlace := ["internal/bytealg.abigen_runtime_cmpstring", "slices.overlaps[ticketline/api.Pair]"], unfollowed := true, recurses := true, apart := false }
def CursorHoldsSaid : Prop := cursorHoldsRow.holds Try.pinned (OpenSpec.ofChange cursorHoldsSpec)

/-- ITS FALSE NEIGHBOUR: 'it returns false'. Refute it at one input. -/
def cursorHoldsWrong : ChangeSpec := { name := "cursorHolds", fn := fun _ => fun
  | [d1, d2, d3, d4] => { results := [.lit (.bool false)], args := [d1, d2, d3, d4] }
  | _ => none }
def CursorHoldsWrongFalsely : Prop := cursorHoldsRow.holds Try.pinned (OpenSpec.ofChange cursorHoldsWrong)

/- THE SECOND FORM. 'bulk': how many values and letters a reading holds, each counted each time it is reached (what is shared counts as often as it is met; a slice's spare places count too). A statement '..UptoSaid' is the law's where the arguments, and the package variables that the reading takes, are together of bulk at most 1048576: NARROWER than '..Said'. Prove '..Said' where nothing that the law and all that it calls make is longer than what came in: it says more and counts as full. Else prove '..UptoSaid'. A law counts once. -/
mutual
def uptoBulk {H : Type} : DataW H → Nat
  | .lit (.string bytes) => bytes.length + 1
  | .lit _ => 1
  | .nil => 1
  | .ptr d => uptoBulk d + 1
  | .slice elems spare => uptoBulkAll elems + uptoBulkAll spare + 1
  | .agg parts => uptoBulkAll parts + 1
  | .iface _ d => uptoBulk d + 1
  | .map entries => uptoBulkEntries entries + 1
  | .held _ => 1
def uptoBulkAll {H : Type} : List (DataW H) → Nat
  | [] => 0
  | d :: r => uptoBulk d + uptoBulkAll r
def uptoBulkEntries {H : Type} : List (Lit × DataW H) → Nat
  | [] => 0
  | x :: r => uptoBulkEntry x + uptoBulkEntries r
def uptoBulkEntry {H : Type} : Lit × DataW H → Nat
  | (.string bytes, d) => bytes.length + uptoBulk d + 1
  | (_, d) => uptoBulk d + 1
 end
def uptoSmall : (H : Type) → List (DataW H) → Bool := fun _ ds => decide (uptoBulkAll ds ≤ 1048576)
def OpenSpec.upto (s : _root_.Go.ChangeSpec) : _root_.Go.OpenSpec := { _root_.Go.OpenSpec.ofChange s with cond := some uptoSmall }

/-- 'ticketlinelaw42.CursorNew', WHERE WHAT IT READS IS OF BULK AT MOST 1048576: true; the input reads as it did. -/
def cursorNewUptoRow : OpenClaim := { program := "ytmbppjilnnjdaaa", sum := "966c7d483a23d30a5ea60eb1c21a724a71bffec6ba52dbdd90047e0e496e9bf5", func := "ticketline/ticketlinelaw42.CursorNew", spec := "cursorNew", inPlace := ["internal/bytealg.abigen_runtime_cmpstring"], unfollowed := true, recurses := true, apart := false, narrowed := true }
def CursorNewUptoSaid : Prop := cursorNewUptoRow.holds Try.pinned (OpenSpec.upto cursorNewSpec)

/-- 'ticketlinelaw42.CursorNil', WHERE WHAT IT READS IS OF BULK AT MOST 1048576: true; the input reads as it did. -/
def cursorNilUptoRow : OpenClaim := { program := "ytmbppjilnnjdaaa", sum := "966c7d483a23d30a5ea60eb1c21a724a71bffec6ba52dbdd90047e0e496e9bf5", func := "ticketline/ticketlinelaw42.CursorNil", spec := "cursorNil", inPlace := ["internal/bytealg.abigen_runtime_cmpstring"], unfollowed := true, recurses := true, apart := false, narrowed := true }
def CursorNilUptoSaid : Prop := cursorNilUptoRow.holds Try.pinned (OpenSpec.upto cursorNilSpec)

/-- 'ticketlinelaw42.CursorPlays', WHERE WHAT IT READS IS OF BULK AT MOST 1048576: true; the input reads as it did. -/
def cursorPlaysUptoRow : OpenClaim := { program := "ytmbppjilnnjdaaa", sum := "966c7d483a23d30a5ea60eb1c21a724a71bffec6ba52dbdd90047e0e496e9bf5", func := "ticketline/ticketlinelaw42.CursorPlays", spec := "cursorPlays", inPlace := ["internal/bytealg.abigen_runtime_cmpstring", "slices.overlaps[ticketline/api.Pair]"], unfollowed := true, recurses := true, apart := false, narrowed := true }
def CursorPlaysUptoSaid : Prop := cursorPlaysUptoRow.holds Try.pinned (OpenSpec.upto cursorPlaysSpec)

/-- 'ticketlinelaw42.CursorHolds', WHERE WHAT IT READS IS OF BULK AT MOST 1048576: true; the input reads as it did. -/
def cursorHoldsUptoRow : OpenClaim := { program := "ytmbppjilnnjdaaa", sum := "966c7d483a23d30a5ea60eb1c21a724a71bffec6ba52dbdd90047e0e496e9bf5", func := "ticketline/ticketlinelaw42.CursorHolds", spec := "cursorHolds", inPlace := ["internal/bytealg.abigen_runtime_cmpstring", "slices.overlaps[ticketline/api.Pair]"], unfollowed := true, recurses := true, apart := false, narrowed := true }
def CursorHoldsUptoSaid : Prop := cursorHoldsUptoRow.holds Try.pinned (OpenSpec.upto cursorHoldsSpec)

end Rows
end Go.Proofs.Ytmbppjilnnjdaaa
