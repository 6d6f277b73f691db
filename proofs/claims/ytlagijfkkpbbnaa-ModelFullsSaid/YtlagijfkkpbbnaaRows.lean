/-
  No cell of these rows narrows 'for every input' (looked for: loops, veiled, ifaces, maps, wideKeys, modest, calm, conditions, laid).
  DERIVED. THE GIVEN ROWS OF THIS SEAT. 6 by the template 'for every input the law returns true; each argument reads behind the call as it read before'; 0 by the template 'total and deterministic' (their statements: YtlagijfkkpbbnaaTotals.lean).
  GIVEN WITH THE SEED: the statements are not yours to turn. If you find one false, say at which input.
  Laid BY PROGRAM, IN A SANDBOX (cutbox-rows.mjs): the forced cells as the released guide's own fill.sh prints them over the translation 436df2e79da9df1e… (all of the seat's roots in one cut). By AI agents, Wed Nov 11 2026. No macro, syntax, notation, axiom, sorry.
-/
import Derived.Test.YtlagijfkkpbbnaaChecked
import GoSem.Claim
import GoSem.ClaimJoined
import GoSem.ClaimMapViews
import Derived.JoinedTies
import Derived.KernelRfl
namespace Go.Proofs.Ytlagijfkkpbbnaa
/- THE CELL 'sum', in the pinned program and in every row, IS THE sha256 OF THE DUMP (.gsa) THAT YtlagijfkkpbbnaaProg.lean LOADS. Nothing in Lean hashes anything: it is a label: what it is worth is what the hold of that sum in a sandbox is worth. -/
noncomputable def Try.pinned : Pinned := { name := "ytlagijfkkpbbnaa", sum := "436df2e79da9df1eea4b143f2b481f8ccfd59d76d2edfef5224751c0e0a2db00", checked := Try.checked }
namespace Rows
def none {H : Type} : Left H := { results := [], args := [] }

/-- 'ticketlinelaw24.ModelRanges': WHATEVER THE INPUT: true; the input reads as it did. -/
def modelRangesSpec : ChangeSpec := { name := "modelRanges", fn := fun _ => fun
  | [d1, d2, d3] => { results := [.lit (.bool true)], args := [d1, d2, d3] }
  | _ => none }
def modelRangesRow : OpenClaim := { program := "ytlagijfkkpbbnaa", sum := "436df2e79da9df1eea4b143f2b481f8ccfd59d76d2edfef5224751c0e0a2db00", func := "ticketline/ticketlinelaw24.ModelRanges", spec := "modelRanges", inPlace := ["internal/bytealg.abigen_runtime_cmpstring", "slices.overlaps[ticketline/api.Pair]"], unfollowed := true, recurses := true, apart := false }
def ModelRangesSaid : Prop := modelRangesRow.holds Try.pinned (OpenSpec.ofChange modelRangesSpec)

/-- ITS FALSE NEIGHBOUR: 'it returns false'. Refute it at one input. -/
def modelRangesWrong : ChangeSpec := { name := "modelRanges", fn := fun _ => fun
  | [d1, d2, d3] => { results := [.lit (.bool false)], args := [d1, d2, d3] }
  | _ => none }
def ModelRangesWrongFalsely : Prop := modelRangesRow.holds Try.pinned (OpenSpec.ofChange modelRangesWrong)

/-- 'ticketlinelaw24.ModelFulls': WHATEVER THE INPUT: true; the input reads as it did. -/
def modelFullsSpec : ChangeSpec := { name := "modelFulls", fn := fun _ => fun
  | [d1, d2] => { results := [.lit (.bool true)], args := [d1, d2] }
  | _ => none }
def modelFullsRow : OpenClaim := { program := "ytlagijfkkpbbnaa", sum := "436df2e79da9df1eea4b143f2b481f8ccfd59d76d2edfef5224751c0e0a2db00", func := "ticketline/ticketlinelaw24.ModelFulls", spec := "modelFulls", inPlace := ["internal/bytealg.abigen_runtime_cmpstring", "slices.overlaps[ticketline/api.Pair]"], unfollowed := true, recurses := true, apart := false }
def ModelFullsSaid : Prop := modelFullsRow.holds Try.pinned (OpenSpec.ofChange modelFullsSpec)

/-- ITS FALSE NEIGHBOUR: 'it returns false'. Refute it at one input. -/
def modelFullsWrong : ChangeSpec := { name := "modelFulls", fn := fun _ => fun
  | [d1, d2] => { results := [.lit (.bool false)], args := [d1, d2] }
  | _ => none }
def ModelFullsWrongFalsely : Prop := modelFullsRow.holds Try.pinned (OpenSpec.ofChange modelFullsWrong)

/-- 'ticketlinelaw24.ModelPlays': WHATEVER THE INPUT: true; the input reads as it did. -/
def modelPlaysSpec : ChangeSpec := { name := "modelPlays", fn := fun _ => fun
  | [d] => { results := [.lit (.bool true)], args := [d] }
  | _ => none }
def modelPlaysRow : OpenClaim := { program := "ytlagijfkkpbbnaa", sum := "436df2e79da9df1eea4b143f2b481f8ccfd59d76d2edfef5224751c0e0a2db00", func := "ticketline/ticketlinelaw24.ModelPlays", spec := "modelPlays", inPlace := ["internal/bytealg.abigen_runtime_cmpstring", "slices.overlaps[ticketline/api.Pair]"], unfollowed := true, recurses := true, apart := false }
def ModelPlaysSaid : Prop := modelPlaysRow.holds Try.pinned (OpenSpec.ofChange modelPlaysSpec)

/-- ITS FALSE NEIGHBOUR: 'it returns false'. Refute it at one input. -/
def modelPlaysWrong : ChangeSpec := { name := "modelPlays", fn := fun _ => fun
  | [d] => { results := [.lit (.bool false)], args := [d] }
  | _ => none }
def ModelPlaysWrongFalsely : Prop := modelPlaysRow.holds Try.pinned (OpenSpec.ofChange modelPlaysWrong)

/-- 'ticketlinelaw24.ModelOf': WHATEVER THE INPUT: true; the input reads as it did. -/
def modelOfSpec : ChangeSpec := { name := "modelOf", fn := fun _ => fun
  | [d1, d2] => { results := [.lit (.bool true)], args := [d1, d2] }
  | _ => none }
def modelOfRow : OpenClaim := { program := "ytlagijfkkpbbnaa", sum := "436df2e79da9df1eea4b143f2b481f8ccfd59d76d2edfef5224751c0e0a2db00", func := "ticketline/ticketlinelaw24.ModelOf", spec := "modelOf", inPlace := ["internal/bytealg.abigen_runtime_cmpstring", "slices.overlaps[ticketline/api.Pair]"], unfollowed := true, recurses := true, apart := false }
def ModelOfSaid : Prop := modelOfRow.holds Try.pinned (OpenSpec.ofChange modelOfSpec)

/-- ITS FALSE NEIGHBOUR: 'it returns false'. Refute it at one input. -/
def modelOfWrong : ChangeSpec := { name := "modelOf", fn := fun _ => fun
  | [d1, d2] => { results := [.lit (.bool false)], args := [d1, d2] }
  | _ => none }
def ModelOfWrongFalsely : Prop := modelOfRow.holds Try.pinned (OpenSpec.ofChange modelOfWrong)

/-- 'ticketlinelaw24.ModelHolds': WHATEVER THE INPUT: true; the input reads as it did. -/
def modelHoldsSpec : ChangeSpec := { name := "modelHolds", fn := fun _ => fun
  | [d1, d2, d3] => { results := [.lit (.bool true)], args := [d1, d2, d3] }
  | _ => none }
def modelHoldsRow : OpenClaim := { program := "ytlagijfkkpbbnaa", sum := "436df2e79da9df1eea4b143f2b481f8ccfd59d76d2edfef5224751c0e0a2db00", func := "ticketline/ticketlinelaw24.ModelHolds", spec := "modelHolds", inPlace := ["internal/bytealg.abigen_runtime_cmpstring", "slices.overlaps[ticketline/api.Pair]"], unfollowed := true, recurses := true, apart := false }
def ModelHoldsSaid : Prop := modelHoldsRow.holds Try.pinned (OpenSpec.ofChange modelHoldsSpec)

/-- ITS FALSE NEIGHBOUR: 'it returns false'. Refute it at one input. -/
def modelHoldsWrong : ChangeSpec := { name := "modelHolds", fn := fun _ => fun
  | [d1, d2, d3] => { results := [.lit (.bool false)], args := [d1, d2, d3] }
  | _ => none }
def ModelHoldsWrongFalsely : Prop := modelHoldsRow.holds Try.pinned (OpenSpec.ofChange modelHoldsWrong)

/-- 'ticketlinelaw24.ModelNil': WHATEVER THE INPUT: true; the input reads as it did. -/
def modelNilSpec : ChangeSpec := { name := "modelNil", fn := fun _ => fun
  | [d] => { results := [.lit (.bool true)], args := [d] }
  | _ => none }
def modelNilRow : OpenClaim := { program := "ytlagijfkkpbbnaa", sum := "436df2e79da9df1eea4b143f2b481f8ccfd59d76d2edfef5224751c0e0a2db00", func := "ticketline/ticketlinelaw24.ModelNil", spec := "modelNil", inPlace := ["internal/bytealg.abigen_runtime_cmpstring", "slices.overlaps[ticketline/api.Pair]"], unfollowed := true, recurses := true, apart := false }
def ModelNilSaid : Prop := modelNilRow.holds Try.pinned (OpenSpec.ofChange modelNilSpec)

/-- ITS FALSE NEIGHBOUR: 'it returns false'. Refute it at one input. -/
def modelNilWrong : ChangeSpec := { name := "modelNil", fn := fun _ => fun
  | [d] => { results := [.lit (.bool false)], args := [d] }
  | _ => none }
def ModelNilWrongFalsely : Prop := modelNilRow.holds Try.pinned (OpenSpec.ofChange modelNilWrong)

/- THE SECOND FORM. 'bulk': how many values and letters a reading holds, each counted each time it is reached (what is shared counts as often as it is met; a slice's spare places count too). A statement '..UptoSaid' is the law's where the arguments, and the package variables that the reading takes, are together of bulk at most 1048576: NARROWER than '..Said'. Prove '..Said' where nothing that the law and all that it calls make is longer than what came in: it says more and counts as full. Else prove '..UptoSaid'. A law counts once. -/
mutual
def uptoBulk {H : Type} : DataW H → Nat
  | .lit (.string bytes) => bytes.length + 1
  | .lit _ => 1
  | .nil => 1
  | .ptr d => uptoBulk d + 1
  | .slice elems spare => uptoBulkAll elems + uptoBulkAll spare + 1
  | .agg parts => uptoBulkAll parts + 1
  | .iface _ d => uptoBulk d + 1
  | .map entries => uptoBulkEntries entries + 1
  | .held _ => 1
def uptoBulkAll {H : Type} : List (DataW H) → Nat
  | [] => 0
  | d :: r => uptoBulk d + uptoBulkAll r
def uptoBulkEntries {H : Type} : List (Lit × DataW H) → Nat
  | [] => 0
  | x :: r => uptoBulkEntry x + uptoBulkEntries r
def uptoBulkEntry {H : Type} : Lit × DataW H → Nat
  | (.string bytes, d) => bytes.length + uptoBulk d + 1
  | (_, d) => uptoBulk d + 1
 end
def uptoSmall : (H : Type) → List (DataW H) → Bool := fun _ ds => decide (uptoBulkAll ds ≤ 1048576)
def OpenSpec.upto (s : _root_.Go.ChangeSpec) : _root_.Go.OpenSpec := { _root_.Go.OpenSpec.ofChange s with cond := some uptoSmall }

/-- 'ticketlinelaw24.ModelRanges', WHERE WHAT IT READS IS OF BULK AT MOST 1048576: true; the input reads as it did. -/
def modelRangesUptoRow : OpenClaim := { program := "ytlagijfkkpbbnaa", sum := "436df2e79da9df1eea4b143f2b481f8ccfd59d76d2edfef5224751c0e0a2db00", func := "ticketline/ticketlinelaw24.ModelRanges", spec := "modelRanges", inPlace := ["internal/bytealg.abigen_runtime_cmpstring", "slices.overlaps[ticketline/api.Pair]"], unfollowed := true, recurses := true, apart := false, narrowed := true }
def ModelRangesUptoSaid : Prop := modelRangesUptoRow.holds Try.pinned (OpenSpec.upto modelRangesSpec)

/-- 'ticketlinelaw24.ModelFulls', WHERE WHAT IT READS IS OF BULK AT MOST 1048576: true; the input reads as it did. -/
def modelFullsUptoRow : OpenClaim := { program := "ytlagijfkkpbbnaa", sum := "436df2e79da9df1eea4b143f2b481f8ccfd59d76d2edfef5224751c0e0a2db00", func := "ticketline/ticketlinelaw24.ModelFulls", spec := "modelFulls", inPlace := ["internal/bytealg.abigen_runtime_cmpstring", "slices.overlaps[ticketline/api.Pair]"], unfollowed := true, recurses := true, apart := false, narrowed := true }
def ModelFullsUptoSaid : Prop := modelFullsUptoRow.holds Try.pinned (OpenSpec.upto modelFullsSpec)

/-- 'ticketlinelaw24.ModelPlays', WHERE WHAT IT READS IS OF BULK AT MOST 1048576: true; the input reads as it did. -/
def modelPlaysUptoRow : OpenClaim := { program := "ytlagijfkkpbbnaa", sum := "436df2e79da9df1eea4b143f2b481f8ccfd59d76d2edfef5224751c0e0a2db00", func := "ticketline/ticketlinelaw24.ModelPlays", spec := "modelPlays", inPlace := ["internal/bytealg.abigen_runtime_cmpstring", "slices.overlaps[ticketline/api.Pair]"], unfollowed := true, recurses := true, apart := false, narrowed := true }
def ModelPlaysUptoSaid : Prop := modelPlaysUptoRow.holds Try.pinned (OpenSpec.upto modelPlaysSpec)

/-- 'ticketlinelaw24.ModelOf', WHERE WHAT IT READS IS OF BULK AT MOST 1048576: true; the input reads as it did. -/
def modelOfUptoRow : OpenClaim := { program := "ytlagijfkkpbbnaa", sum := "436df2e79da9df1eea4b143f2b481f8ccfd59d76d2edfef5224751c0e0a2db00", func := "ticketline/ticketlinelaw24.ModelOf", spec := "modelOf", inPlace := ["internal/bytealg.abigen_runtime_cmpstring", "slices.overlaps[ticketline/api.Pair]"], unfollowed := true, recurses := true, apart := false, narrowed := true }
def ModelOfUptoSaid : Prop := modelOfUptoRow.holds Try.pinned (OpenSpec.upto modelOfSpec)

/-- 'ticketlinelaw24.ModelHolds', WHERE WHAT IT READS IS OF BULK AT MOST 1048576: true; the input reads as it did. -/
def modelHoldsUptoRow : OpenClaim := { program := "ytlagijfkkpbbnaa", sum := "436df2e79da9df1eea4b143f2b481f8ccfd59d76d2edfef5224751c0e0a2db00", func := "ticketline/ticketlinelaw24.ModelHolds", spec := "modelHolds", inPlace := ["internal/bytealg.abigen_runtime_cmpstring", "slices.overlaps[ticketline/api.Pair]"], unfollowed := true, recurses := true, apart := false, narrowed := true }
def ModelHoldsUptoSaid : Prop := modelHoldsUptoRow.holds Try.pinned (OpenSpec.upto modelHoldsSpec)

/-- 'ticketlinelaw24.ModelNil', WHERE WHAT IT READS IS OF BULK AT MOST 1048576: true; the input reads as it did. -/
def modelNilUptoRow : OpenClaim := { program := "ytlagijfkkpbbnaa", sum := "436df2e79da9df1eea4b143f2b481f8ccfd59d76d2edfef5224751c0e0a2db00", func := "ticketline/ticketlinelaw24.ModelNil", spec := "modelNil", inPlace := ["internal/bytealg.abigen_runtime_cmpstring", "slices.overlaps[ticketline/api.Pair]"], unfollowed := true, recurses := true, apart := false, narrowed := true }
def ModelNilUptoSaid : Prop := modelNilUptoRow.holds Try.pinned (OpenSpec.upto modelNilSpec)

end Rows
end Go.Proofs.Ytlagijfkkpbbnaa
