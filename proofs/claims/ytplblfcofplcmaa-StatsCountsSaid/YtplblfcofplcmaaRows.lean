/-
  No cell of these rows narrows 'for every input' (looked for: loops, veiled, ifaces, maps, wideKeys, modest, calm, conditions, laid).
  DERIVED. THE GIVEN ROWS OF THIS SEAT. 6 by the template 'for every input the law returns true; each argument reads behind the call as it read before'; 0 by the template 'total and deterministic' (their statements: YtplblfcofplcmaaTotals.lean).
  GIVEN WITH THE SEED: the statements are not yours to turn. If you find one false, say at which input.
  Laid BY PROGRAM, IN A SANDBOX (cutbox-rows.mjs): the forced cells as the released guide's own fill.sh prints them over the translation 356332589486d118… (all of the seat's roots in one cut). By AI agents, Wed Nov 11 2026. No macro, syntax, notation, axiom, sorry.
-/
import Derived.Test.YtplblfcofplcmaaChecked
import GoSem.Claim
import GoSem.ClaimJoined
import GoSem.ClaimMapViews
import Derived.JoinedTies
import Derived.KernelRfl
namespace Go.Proofs.Ytplblfcofplcmaa
/- THE CELL 'sum', in the pinned program and in every row, IS THE sha256 OF THE DUMP (.gsa) THAT YtplblfcofplcmaaProg.lean LOADS. Nothing in Lean hashes anything: it is a label: what it is worth is what the hold of that sum in a sandbox is worth. -/
noncomputable def Try.pinned : Pinned := { name := "ytplblfcofplcmaa", sum := "356332589486d1183d8a170fb30a6f9168d18b99ebd078086da41a03969fb804", checked := Try.checked }
namespace Rows
def none {H : Type} : Left H := { results := [], args := [] }

/-- 'ticketlinelaw26.StatsBuckets': WHATEVER THE INPUT: true; the input reads as it did. -/
def statsBucketsSpec : ChangeSpec := { name := "statsBuckets", fn := fun _ => fun
  | [d1, d2] => { results := [.lit (.bool true)], args := [d1, d2] }
  | _ => none }
def statsBucketsRow : OpenClaim := { program := "ytplblfcofplcmaa", sum := "356332589486d1183d8a170fb30a6f9168d18b99ebd078086da41a03969fb804", func := "ticketline/ticketlinelaw26.StatsBuckets", spec := "statsBuckets", inPlace := ["internal/bytealg.IndexByteString", "internal/bytealg.IndexString"], unfollowed := true, recurses := true, named := ["internal/bytealg.MaxLen"], apart := false }
def StatsBucketsSaid : Prop := statsBucketsRow.holds Try.pinned (OpenSpec.ofChange statsBucketsSpec)

/-- ITS FALSE NEIGHBOUR: 'it returns false'. Refute it at one input. -/
def statsBucketsWrong : ChangeSpec := { name := "statsBuckets", fn := fun _ => fun
  | [d1, d2] => { results := [.lit (.bool false)], args := [d1, d2] }
  | _ => none }
def StatsBucketsWrongFalsely : Prop := statsBucketsRow.holds Try.pinned (OpenSpec.ofChange statsBucketsWrong)

/-- 'ticketlinelaw26.StatsFulls': WHATEVER THE INPUT: true; the input reads as it did. -/
def statsFullsSpec : ChangeSpec := { name := "statsFulls", fn := fun _ => fun
  | [d1, d2] => { results := [.lit (.bool true)], args := [d1, d2] }
  | _ => none }
def statsFullsRow : OpenClaim := { program := "ytplblfcofplcmaa", sum := "356332589486d1183d8a170fb30a6f9168d18b99ebd078086da41a03969fb804", func := "ticketline/ticketlinelaw26.StatsFulls", spec := "statsFulls", inPlace := ["internal/bytealg.IndexByteString", "internal/bytealg.IndexString"], unfollowed := true, recurses := true, named := ["internal/bytealg.MaxLen"], apart := false }
def StatsFullsSaid : Prop := statsFullsRow.holds Try.pinned (OpenSpec.ofChange statsFullsSpec)

/-- ITS FALSE NEIGHBOUR: 'it returns false'. Refute it at one input. -/
def statsFullsWrong : ChangeSpec := { name := "statsFulls", fn := fun _ => fun
  | [d1, d2] => { results := [.lit (.bool false)], args := [d1, d2] }
  | _ => none }
def StatsFullsWrongFalsely : Prop := statsFullsRow.holds Try.pinned (OpenSpec.ofChange statsFullsWrong)

/-- 'ticketlinelaw26.StatsHolds': WHATEVER THE INPUT: true; the input reads as it did. -/
def statsHoldsSpec : ChangeSpec := { name := "statsHolds", fn := fun _ => fun
  | [d1, d2, d3, d4] => { results := [.lit (.bool true)], args := [d1, d2, d3, d4] }
  | _ => none }
def statsHoldsRow : OpenClaim := { program := "ytplblfcofplcmaa", sum := "356332589486d1183d8a170fb30a6f9168d18b99ebd078086da41a03969fb804", func := "ticketline/ticketlinelaw26.StatsHolds", spec := "statsHolds", inPlace := ["internal/bytealg.IndexByteString", "internal/bytealg.IndexString"], unfollowed := true, recurses := true, named := ["internal/bytealg.MaxLen"], apart := false }
def StatsHoldsSaid : Prop := statsHoldsRow.holds Try.pinned (OpenSpec.ofChange statsHoldsSpec)

/-- ITS FALSE NEIGHBOUR: 'it returns false'. Refute it at one input. -/
def statsHoldsWrong : ChangeSpec := { name := "statsHolds", fn := fun _ => fun
  | [d1, d2, d3, d4] => { results := [.lit (.bool false)], args := [d1, d2, d3, d4] }
  | _ => none }
def StatsHoldsWrongFalsely : Prop := statsHoldsRow.holds Try.pinned (OpenSpec.ofChange statsHoldsWrong)

/-- 'ticketlinelaw26.StatsCounts': WHATEVER THE INPUT: true; the input reads as it did. -/
def statsCountsSpec : ChangeSpec := { name := "statsCounts", fn := fun _ => fun
  | [d] => { results := [.lit (.bool true)], args := [d] }
  | _ => none }
def statsCountsRow : OpenClaim := { program := "ytplblfcofplcmaa", sum := "356332589486d1183d8a170fb30a6f9168d18b99ebd078086da41a03969fb804", func := "ticketline/ticketlinelaw26.StatsCounts", spec := "statsCounts", inPlace := ["internal/bytealg.IndexByteString", "internal/bytealg.IndexString", "maps.clone"], unfollowed := true, recurses := true, named := ["internal/bytealg.MaxLen"], apart := false }
def StatsCountsSaid : Prop := statsCountsRow.holds Try.pinned (OpenSpec.ofChange statsCountsSpec)

/-- ITS FALSE NEIGHBOUR: 'it returns false'. Refute it at one input. -/
def statsCountsWrong : ChangeSpec := { name := "statsCounts", fn := fun _ => fun
  | [d] => { results := [.lit (.bool false)], args := [d] }
  | _ => none }
def StatsCountsWrongFalsely : Prop := statsCountsRow.holds Try.pinned (OpenSpec.ofChange statsCountsWrong)

/-- 'ticketlinelaw26.StatsPlays': WHATEVER THE INPUT: true; the input reads as it did. -/
def statsPlaysSpec : ChangeSpec := { name := "statsPlays", fn := fun _ => fun
  | [d] => { results := [.lit (.bool true)], args := [d] }
  | _ => none }
def statsPlaysRow : OpenClaim := { program := "ytplblfcofplcmaa", sum := "356332589486d1183d8a170fb30a6f9168d18b99ebd078086da41a03969fb804", func := "ticketline/ticketlinelaw26.StatsPlays", spec := "statsPlays", inPlace := ["internal/bytealg.IndexByteString", "internal/bytealg.IndexString"], unfollowed := true, recurses := true, named := ["internal/bytealg.MaxLen"], apart := false }
def StatsPlaysSaid : Prop := statsPlaysRow.holds Try.pinned (OpenSpec.ofChange statsPlaysSpec)

/-- ITS FALSE NEIGHBOUR: 'it returns false'. Refute it at one input. -/
def statsPlaysWrong : ChangeSpec := { name := "statsPlays", fn := fun _ => fun
  | [d] => { results := [.lit (.bool false)], args := [d] }
  | _ => none }
def StatsPlaysWrongFalsely : Prop := statsPlaysRow.holds Try.pinned (OpenSpec.ofChange statsPlaysWrong)

/-- 'ticketlinelaw26.StatsNil': WHATEVER THE INPUT: true; the input reads as it did. -/
def statsNilSpec : ChangeSpec := { name := "statsNil", fn := fun _ => fun
  | [d1, d2, d3] => { results := [.lit (.bool true)], args := [d1, d2, d3] }
  | _ => none }
def statsNilRow : OpenClaim := { program := "ytplblfcofplcmaa", sum := "356332589486d1183d8a170fb30a6f9168d18b99ebd078086da41a03969fb804", func := "ticketline/ticketlinelaw26.StatsNil", spec := "statsNil", inPlace := ["internal/bytealg.IndexByteString", "internal/bytealg.IndexString", "maps.clone"], unfollowed := true, recurses := true, named := ["internal/bytealg.MaxLen"], apart := false }
def StatsNilSaid : Prop := statsNilRow.holds Try.pinned (OpenSpec.ofChange statsNilSpec)

/-- ITS FALSE NEIGHBOUR: 'it returns false'. Refute it at one input. -/
def statsNilWrong : ChangeSpec := { name := "statsNil", fn := fun _ => fun
  | [d1, d2, d3] => { results := [.lit (.bool false)], args := [d1, d2, d3] }
  | _ => none }
def StatsNilWrongFalsely : Prop := statsNilRow.holds Try.pinned (OpenSpec.ofChange statsNilWrong)

/- THE SECOND FORM. 'bulk': how many values and letters a reading holds, each counted each time it is reached (what is shared counts as often as it is met; a slice's spare places count too). A statement '..UptoSaid' is the law's where the arguments, and the package variables that the reading takes, are together of bulk at most 1048576: NARROWER than '..Said'. Prove '..Said' where nothing that the law and all that it calls make is longer than what came in: it says more and counts as full. Else prove '..UptoSaid'. A law counts once. -/
mutual
def uptoBulk {H : Type} : DataW H → Nat
  | .lit (.string bytes) => bytes.length + 1
  | .lit _ => 1
  | .nil => 1
  | .ptr d => uptoBulk d + 1
  | .slice elems spare => uptoBulkAll elems + uptoBulkAll spare + 1
  | .agg parts => uptoBulkAll parts + 1
  | .iface _ d => uptoBulk d + 1
  | .map entries => uptoBulkEntries entries + 1
  | .held _ => 1
def uptoBulkAll {H : Type} : List (DataW H) → Nat
  | [] => 0
  | d :: r => uptoBulk d + uptoBulkAll r
def uptoBulkEntries {H : Type} : List (Lit × DataW H) → Nat
  | [] => 0
  | x :: r => uptoBulkEntry x + uptoBulkEntries r
def uptoBulkEntry {H : Type} : Lit × DataW H → Nat
  | (.string bytes, d) => bytes.length + uptoBulk d + 1
  | (_, d) => uptoBulk d + 1
 end
def uptoSmall : (H : Type) → List (DataW H) → Bool := fun _ ds => decide (uptoBulkAll ds ≤ 1048576)
def OpenSpec.upto (s : _root_.Go.ChangeSpec) : _root_.Go.OpenSpec := { _root_.Go.OpenSpec.ofChange s with cond := some uptoSmall }

/-- 'ticketlinelaw26.StatsBuckets', WHERE WHAT IT READS IS OF BULK AT MOST 1048576: true; the input reads as it did. -/
def statsBucketsUptoRow : OpenClaim := { program := "ytplblfcofplcmaa", sum := "356332589486d1183d8a170fb30a6f9168d18b99ebd078086da41a03969fb804", func := "ticketline/ticketlinelaw26.StatsBuckets", spec := "statsBuckets", inPlace := ["internal/bytealg.IndexByteString", "internal/bytealg.IndexString"], unfollowed := true, recurses := true, named := ["internal/bytealg.MaxLen"], apart := false, narrowed := true }
def StatsBucketsUptoSaid : Prop := statsBucketsUptoRow.holds Try.pinned (OpenSpec.upto statsBucketsSpec)

/-- 'ticketlinelaw26.StatsFulls', WHERE WHAT IT READS IS OF BULK AT MOST 1048576: true; the input reads as it did. -/
def statsFullsUptoRow : OpenClaim := { program := "ytplblfcofplcmaa", sum := "356332589486d1183d8a170fb30a6f9168d18b99ebd078086da41a03969fb804", func := "ticketline/ticketlinelaw26.StatsFulls", spec := "statsFulls", inPlace := ["internal/bytealg.IndexByteString", "internal/bytealg.IndexString"], unfollowed := true, recurses := true, named := ["internal/bytealg.MaxLen"], apart := false, narrowed := true }
def StatsFullsUptoSaid : Prop := statsFullsUptoRow.holds Try.pinned (OpenSpec.upto statsFullsSpec)

/-- 'ticketlinelaw26.StatsHolds', WHERE WHAT IT READS IS OF BULK AT MOST 1048576: true; the input reads as it did. -/
def statsHoldsUptoRow : OpenClaim := { program := "ytplblfcofplcmaa", sum := "356332589486d1183d8a170fb30a6f9168d18b99ebd078086da41a03969fb804", func := "ticketline/ticketlinelaw26.StatsHolds", spec := "statsHolds", inPlace := ["internal/bytealg.IndexByteString", "internal/bytealg.IndexString"], unfollowed := true, recurses := true, named := ["internal/bytealg.MaxLen"], apart := false, narrowed := true }
def StatsHoldsUptoSaid : Prop := statsHoldsUptoRow.holds Try.pinned (OpenSpec.upto statsHoldsSpec)

/-- 'ticketlinelaw26.StatsCounts', WHERE WHAT IT READS IS OF BULK AT MOST 1048576: true; the input reads as it did. -/
def statsCountsUptoRow : OpenClaim := { program := "ytplblfcofplcmaa", sum := "356332589486d1183d8a170fb30a6f9168d18b99ebd078086da41a03969fb804", func := "ticketline/ticketlinelaw26.StatsCounts", spec := "statsCounts", inPlace := ["internal/bytealg.IndexByteString", "internal/bytealg.IndexString", "maps.clone"], unfollowed := true, recurses := true, named := ["internal/bytealg.MaxLen"], apart := false, narrowed := true }
def StatsCountsUptoSaid : Prop := statsCountsUptoRow.holds Try.pinned (OpenSpec.upto statsCountsSpec)

/-- 'ticketlinelaw26.StatsPlays', WHERE WHAT IT READS IS OF BULK AT MOST 1048576: true; the input reads as it did. -/
def statsPlaysUptoRow : OpenClaim := { program := "ytplblfcofplcmaa", sum := "356332589486d1183d8a170fb30a6f9168d18b99ebd078086da41a03969fb804", func := "ticketline/ticketlinelaw26.StatsPlays", spec := "statsPlays", inPlace := ["internal/bytealg.IndexByteString", "internal/bytealg.IndexString"], unfollowed := true, recurses := true, named := ["internal/bytealg.MaxLen"], apart := false, narrowed := true }
def StatsPlaysUptoSaid : Prop := statsPlaysUptoRow.holds Try.pinned (OpenSpec.upto statsPlaysSpec)

/-- 'ticketlinelaw26.StatsNil', WHERE WHAT IT READS IS OF BULK AT MOST 1048576: true; the input reads as it did. -/
def statsNilUptoRow : OpenClaim := { program := "ytplblfcofplcmaa", sum := "356332589486d1183d8a170fb30a6f9168d18b99ebd078086da41a03969fb804", func := "ticketline/ticketlinelaw26.StatsNil", spec := "statsNil", inPlace := ["internal/bytealg.IndexByteString", "internal/bytealg.IndexString", "maps.clone"], unfollowed := true, recurses := true, named := ["internal/bytealg.MaxLen"], apart := false, narrowed := true }
def StatsNilUptoSaid : Prop := statsNilUptoRow.holds Try.pinned (OpenSpec.upto statsNilSpec)

end Rows
end Go.Proofs.Ytplblfcofplcmaa
