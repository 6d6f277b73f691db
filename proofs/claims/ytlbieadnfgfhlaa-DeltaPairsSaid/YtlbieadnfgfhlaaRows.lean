/-
  No cell of these rows narrows 'for every input' (looked for: loops, veiled, ifaces, maps, wideKeys, modest, calm, conditions, laid).
  DERIVED. THE GIVEN ROWS OF THIS SEAT. 5 by the template 'for every input the law returns true; each argument reads behind the call as it read before'; 0 by the template 'total and deterministic' (their statements: YtlbieadnfgfhlaaTotals.lean).
  GIVEN WITH THE SEED: the statements are not yours to turn. If you find one false, say at which input.
  Laid BY PROGRAM, IN A SANDBOX (cutbox-rows.mjs): the forced cells as the released guide's own fill.sh prints them over the translation 4bef786d5bcb5e42… (all of the seat's roots in one cut). By AI agents, Wed Nov 11 2026. No macro, syntax, notation, axiom, sorry.
-/
import Derived.Test.YtlbieadnfgfhlaaChecked
import GoSem.Claim
import GoSem.ClaimJoined
import GoSem.ClaimMapViews
import Derived.JoinedTies
import Derived.KernelRfl
namespace Go.Proofs.Ytlbieadnfgfhlaa
/- THE CELL 'sum', in the pinned program and in every row, IS THE sha256 OF THE DUMP (.gsa) THAT YtlbieadnfgfhlaaProg.lean LOADS. Nothing in Lean hashes anything: it is a label: what it is worth is what the hold of that sum in a sandbox is worth. -/
noncomputable def Try.pinned : Pinned := { name := "ytlbieadnfgfhlaa", sum := "4bef786d5bcb5e4258a821e705bfeda44003a97c33fe293305f6d6088d37f7f8", checked := Try.checked }
namespace Rows
def none {H : Type} : Left H := { results := [], args := [] }

/-- 'ticketlinelaw49.DeltaPairs': WHATEVER THE INPUT: true; the input reads as it did. -/
def deltaPairsSpec : ChangeSpec := { name := "deltaPairs", fn := fun _ => fun
  | [d1, d2, d3] => { results := [.lit (.bool true)], args := [d1, d2, d3] }
  | _ => none }
def deltaPairsRow : OpenClaim := { program := "ytlbieadnfgfhlaa", sum := "4bef786d5bcb5e4258a821e705bfeda44003a97c33fe293305f6d6088d37f7f8", func := "ticketline/ticketlinelaw49.DeltaPairs", spec := "deltaPairs", inPlace := ["internal/bytealg.abigen_runtime_cmpstring", "slices.overlaps[ticketline/api.Pair]"], unfollowed := true, recurses := true, apart := false }
def DeltaPairsSaid : Prop := deltaPairsRow.holds Try.pinned (OpenSpec.ofChange deltaPairsSpec)

/-- ITS FALSE NEIGHBOUR: 'it returns false'. Refute it at one input. -/
def deltaPairsWrong : ChangeSpec := { name := "deltaPairs", fn := fun _ => fun
  | [d1, d2, d3] => { results := [.lit (.bool false)], args := [d1, d2, d3] }
  | _ => none }
def DeltaPairsWrongFalsely : Prop := deltaPairsRow.holds Try.pinned (OpenSpec.ofChange deltaPairsWrong)

/-- 'ticketlinelaw49.DeltaMany': WHATEVER THE INPUT: true; the input reads as it did. -/
def deltaManySpec : ChangeSpec := { name := "deltaMany", fn := fun _ => fun
  | [d] => { results := [.lit (.bool true)], args := [d] }
  | _ => none }
def deltaManyRow : OpenClaim := { program := "ytlbieadnfgfhlaa", sum := "4bef786d5bcb5e4258a821e705bfeda44003a97c33fe293305f6d6088d37f7f8", func := "ticketline/ticketlinelaw49.DeltaMany", spec := "deltaMany", inPlace := ["internal/bytealg.abigen_runtime_cmpstring", "slices.overlaps[ticketline/api.Pair]"], unfollowed := true, recurses := true, apart := false }
def DeltaManySaid : Prop := deltaManyRow.holds Try.pinned (OpenSpec.ofChange deltaManySpec)

/-- ITS FALSE NEIGHBOUR: 'it returns false'. Refute it at one input. -/
def deltaManyWrong : ChangeSpec := { name := "deltaMany", fn := fun _ => fun
  | [d] => { results := [.lit (.bool false)], args := [d] }
  | _ => none }
def DeltaManyWrongFalsely : Prop := deltaManyRow.holds Try.pinned (OpenSpec.ofChange deltaManyWrong)

/-- 'ticketlinelaw49.DeltaOf': WHATEVER THE INPUT: true; the input reads as it did. -/
def deltaOfSpec : ChangeSpec := { name := "deltaOf", fn := fun _ => fun
  | [d1, d2] => { results := [.lit (.bool true)], args := [d1, d2] }
  | _ => none }
def deltaOfRow : OpenClaim := { program := "ytlbieadnfgfhlaa", sum := "4bef786d5bcb5e4258a821e705bfeda44003a97c33fe293305f6d6088d37f7f8", func := "ticketline/ticketlinelaw49.DeltaOf", spec := "deltaOf", inPlace := ["internal/bytealg.abigen_runtime_cmpstring", "slices.overlaps[ticketline/api.Pair]"], unfollowed := true, recurses := true, apart := false }
def DeltaOfSaid : Prop := deltaOfRow.holds Try.pinned (OpenSpec.ofChange deltaOfSpec)

/-- ITS FALSE NEIGHBOUR: 'it returns false'. Refute it at one input. -/
def deltaOfWrong : ChangeSpec := { name := "deltaOf", fn := fun _ => fun
  | [d1, d2] => { results := [.lit (.bool false)], args := [d1, d2] }
  | _ => none }
def DeltaOfWrongFalsely : Prop := deltaOfRow.holds Try.pinned (OpenSpec.ofChange deltaOfWrong)

/-- 'ticketlinelaw49.DeltaApplies': WHATEVER THE INPUT: true; the input reads as it did. -/
def deltaAppliesSpec : ChangeSpec := { name := "deltaApplies", fn := fun _ => fun
  | [d1, d2, d3] => { results := [.lit (.bool true)], args := [d1, d2, d3] }
  | _ => none }
def deltaAppliesRow : OpenClaim := { program := "ytlbieadnfgfhlaa", sum := "4bef786d5bcb5e4258a821e705bfeda44003a97c33fe293305f6d6088d37f7f8", func := "ticketline/ticketlinelaw49.DeltaApplies", spec := "deltaApplies", inPlace := ["internal/bytealg.abigen_runtime_cmpstring", "slices.overlaps[ticketline/api.Pair]"], unfollowed := true, recurses := true, apart := false }
def DeltaAppliesSaid : Prop := deltaAppliesRow.holds Try.pinned (OpenSpec.ofChange deltaAppliesSpec)

/-- ITS FALSE NEIGHBOUR: 'it returns false'. Refute it at one input. -/
def deltaAppliesWrong : ChangeSpec := { name := "deltaApplies", fn := fun _ => fun
  | [d1, d2, d3] => { results := [.lit (.bool false)], args := [d1, d2, d3] }
  | _ => none }
def DeltaAppliesWrongFalsely : Prop := deltaAppliesRow.holds Try.pinned (OpenSpec.ofChange deltaAppliesWrong)

/-- 'ticketlinelaw49.DeltaHolds': WHATEVER THE INPUT: true; the input reads as it did. -/
def deltaHoldsSpec : ChangeSpec := { name := "deltaHolds", fn := fun _ => fun
  | [d1, d2, d3] => { results := [.lit (.bool true)], args := [d1, d2, d3] }
  | _ => none }
def deltaHoldsRow : OpenClaim := { program := "ytlbieadnfgfhlaa", sum := "4bef786d5bcb5e4258a821e705bfeda44003a97c33fe293305f6d6088d37f7f8", func := "ticketline/ticketlinelaw49.DeltaHolds", spec := "deltaHolds", inPlace := ["internal/bytealg.abigen_runtime_cmpstring", "slices.overlaps[ticketline/api.Pair]"], unfollowed := true, recurses := true, apart := false }
def DeltaHoldsSaid : Prop := deltaHoldsRow.holds Try.pinned (OpenSpec.ofChange deltaHoldsSpec)

/-- ITS FALSE NEIGHBOUR: 'it returns false'. Refute it at one input. -/
def deltaHoldsWrong : ChangeSpec := { name := "deltaHolds", fn := fun _ => fun
  | [d1, d2, d3] => { results := [.lit (.bool false)], args := [d1, d2, d3] }
  | _ => none }
def DeltaHoldsWrongFalsely : Prop := deltaHoldsRow.holds Try.pinned (OpenSpec.ofChange deltaHoldsWrong)

/- THE SECOND FORM. 'bulk': how many values and letters a reading holds, each counted each time it is reached (what is shared counts as often as it is met; a slice's spare places count too). A statement '..UptoSaid' is the law's where the arguments, and the package variables that the reading takes, are together of bulk at most 1048576: NARROWER than '..Said'. Prove '..Said' where nothing that the law and all that it calls make is longer than what came in: it says more and counts as full. Else prove '..UptoSaid'. A law counts once. -/
mutual
def uptoBulk {H : Type} : DataW H → Nat
  | .lit (.string bytes) => bytes.length + 1
  | .lit _ => 1
  | .nil => 1
  | .ptr d => uptoBulk d + 1
  | .slice elems spare => uptoBulkAll elems + uptoBulkAll spare + 1
  | .agg parts => uptoBulkAll parts + 1
  | .iface _ d => uptoBulk d + 1
  | .map entries => uptoBulkEntries entries + 1
  | .held _ => 1
def uptoBulkAll {H : Type} : List (DataW H) → Nat
  | [] => 0
  | d :: r => uptoBulk d + uptoBulkAll r
def uptoBulkEntries {H : Type} : List (Lit × DataW H) → Nat
  | [] => 0
  | x :: r => uptoBulkEntry x + uptoBulkEntries r
def uptoBulkEntry {H : Type} : Lit × DataW H → Nat
  | (.string bytes, d) => bytes.length + uptoBulk d + 1
  | (_, d) => uptoBulk d + 1
 end
def uptoSmall : (H : Type) → List (DataW H) → Bool := fun _ ds => decide (uptoBulkAll ds ≤ 1048576)
def OpenSpec.upto (s : _root_.Go.ChangeSpec) : _root_.Go.OpenSpec := { _root_.Go.OpenSpec.ofChange s with cond := some uptoSmall }

/-- 'ticketlinelaw49.DeltaPairs', WHERE WHAT IT READS IS OF BULK AT MOST 1048576: true; the input reads as it did. -/
def deltaPairsUptoRow : OpenClaim := { program := "ytlbieadnfgfhlaa", sum := "4bef786d5bcb5e4258a821e705bfeda44003a97c33fe293305f6d6088d37f7f8", func := "ticketline/ticketlinelaw49.DeltaPairs", spec := "deltaPairs", inPlace := ["internal/bytealg.abigen_runtime_cmpstring", "slices.overlaps[ticketline/api.Pair]"], unfollowed := true, recurses := true, apart := false, narrowed := true }
def DeltaPairsUptoSaid : Prop := deltaPairsUptoRow.holds Try.pinned (OpenSpec.upto deltaPairsSpec)

/-- 'ticketlinelaw49.DeltaMany', WHERE WHAT IT READS IS OF BULK AT MOST 1048576: true; the input reads as it did. -/
def deltaManyUptoRow : OpenClaim := { program := "ytlbieadnfgfhlaa", sum := "4bef786d5bcb5e4258a821e705bfeda44003a97c33fe293305f6d6088d37f7f8", func := "ticketline/ticketlinelaw49.DeltaMany", spec := "deltaMany", inPlace := ["internal/bytealg.abigen_runtime_cmpstring", "slices.overlaps[ticketline/api.Pair]"], unfollowed := true, recurses := true, apart := false, narrowed := true }
def DeltaManyUptoSaid : Prop := deltaManyUptoRow.holds Try.pinned (OpenSpec.upto deltaManySpec)

/-- 'ticketlinelaw49.DeltaOf', WHERE WHAT IT READS IS OF BULK AT MOST 1048576: true; the input reads as it did. -/
def deltaOfUptoRow : OpenClaim := { program := "ytlbieadnfgfhlaa", sum := "4bef786d5bcb5e4258a821e705bfeda44003a97c33fe293305f6d6088d37f7f8", func := "ticketline/ticketlinelaw49.DeltaOf", spec := "deltaOf", inPlace := ["internal/bytealg.abigen_runtime_cmpstring", "slices.overlaps[ticketline/api.Pair]"], unfollowed := true, recurses := true, apart := false, narrowed := true }
def DeltaOfUptoSaid : Prop := deltaOfUptoRow.holds Try.pinned (OpenSpec.upto deltaOfSpec)

/-- 'ticketlinelaw49.DeltaApplies', WHERE WHAT IT READS IS OF BULK AT MOST 1048576: true; the input reads as it did. -/
def deltaAppliesUptoRow : OpenClaim := { program := "ytlbieadnfgfhlaa", sum := "4bef786d5bcb5e4258a821e705bfeda44003a97c33fe293305f6d6088d37f7f8", func := "ticketline/ticketlinelaw49.DeltaApplies", spec := "deltaApplies", inPlace := ["internal/bytealg.abigen_runtime_cmpstring", "slices.overlaps[ticketline/api.Pair]"], unfollowed := true, recurses := true, apart := false, narrowed := true }
def DeltaAppliesUptoSaid : Prop := deltaAppliesUptoRow.holds Try.pinned (OpenSpec.upto deltaAppliesSpec)

/-- 'ticketlinelaw49.DeltaHolds', WHERE WHAT IT READS IS OF BULK AT MOST 1048576: true; the input reads as it did. -/
def deltaHoldsUptoRow : OpenClaim := { program := "ytlbieadnfgfhlaa", sum := "4bef786d5bcb5e4258a821e705bfeda44003a97c33fe293305f6d6088d37f7f8", func := "ticketline/ticketlinelaw49.DeltaHolds", spec := "deltaHolds", inPlace := ["internal/bytealg.abigen_runtime_cmpstring", "slices.overlaps[ticketline/api.Pair]"], unfollowed := true, recurses := true, apart := false, narrowed := true }
def DeltaHoldsUptoSaid : Prop := deltaHoldsUptoRow.holds Try.pinned (OpenSpec.upto deltaHoldsSpec)

end Rows
end Go.Proofs.Ytlbieadnfgfhlaa
