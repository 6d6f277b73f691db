/-
  No cell of these rows narrows 'for every input' (looked for: loops, veiled, ifaces, maps, wideKeys, modest, calm, conditions, laid).
  DERIVED. THE GIVEN ROWS OF THIS SEAT. 4 by the template 'for every input the law returns true; each argument reads behind the call as it read before'; 0 by the template 'total and deterministic' (their statements: YthjjkinpbpealaaTotals.lean).
  GIVEN WITH THE SEED: the statements are not yours to turn. If you find one false, say at which input.
  Laid BY PROGRAM, IN A SANDBOX (cutbox-rows.mjs): the forced cells as the released guide's own fill.sh prints them over the translation 168dc58ed14589c0… (all of the seat's roots in one cut). By AI agents, Wed Nov 11 2026. No macro, syntax, notation, axiom, sorry.
-/
import Derived.Test.YthjjkinpbpealaaChecked
import GoSem.Claim
import GoSem.ClaimJoined
import GoSem.ClaimMapViews
import Derived.JoinedTies
import Derived.KernelRfl
namespace Go.Proofs.Ythjjkinpbpealaa
/- THE CELL 'sum', in the pinned program and in every row, IS THE sha256 OF THE DUMP (.gsa) THAT YthjjkinpbpealaaProg.lean LOADS. Nothing in Lean hashes anything: it is a label: what it is worth is what the hold of that sum in a sandbox is worth. -/
noncomputable def Try.pinned : Pinned := { name := "ythjjkinpbpealaa", sum := "168dc58ed14589c0d279d252352c1766d66c5ce8af988bd64162a97a2e9cc821", checked := Try.checked }
namespace Rows
def none {H : Type} : Left H := { results := [], args := [] }

/-- 'ticketlinelaw45.ExpireMany': WHATEVER THE INPUT: true; the input reads as it did. -/
def expireManySpec : ChangeSpec := { name := "expireMany", fn := fun _ => fun
  | [d1, d2] => { results := [.lit (.bool true)], args := [d1, d2] }
  | _ => none }
def expireManyRow : OpenClaim := { program := "ythjjkinpbpealaa", sum := "168dc58ed14589c0d279d252352c1766d66c5ce8af988bd64162a97a2e9cc821", func := "ticketline/ticketlinelaw45.ExpireMany", spec := "expireMany", inPlace := ["internal/bytealg.abigen_runtime_cmpstring", "slices.overlaps[ticketline/api.Pair]"], unfollowed := true, recurses := true, apart := false }
def ExpireManySaid : Prop := expireManyRow.holds Try.pinned (OpenSpec.ofChange expireManySpec)

/-- ITS FALSE NEIGHBOUR: 'it returns false'. Refute it at one input. -/
def expireManyWrong : ChangeSpec := { name := "expireMany", fn := fun _ => fun
  | [d1, d2] => { results := [.lit (.bool false)], args := [d1, d2] }
  | _ => none }
def ExpireManyWrongFalsely : Prop := expireManyRow.holds Try.pinned (OpenSpec.ofChange expireManyWrong)

/-- 'ticketlinelaw45.ExpireHolds': WHATEVER THE INPUT: true; the input reads as it did. -/
def expireHoldsSpec : ChangeSpec := { name := "expireHolds", fn := fun _ => fun
  | [d] => { results := [.lit (.bool true)], args := [d] }
  | _ => none }
def expireHoldsRow : OpenClaim := { program := "ythjjkinpbpealaa", sum := "168dc58ed14589c0d279d252352c1766d66c5ce8af988bd64162a97a2e9cc821", func := "ticketline/ticketlinelaw45.ExpireHolds", spec := "expireHolds", inPlace := ["internal/bytealg.abigen_runtime_cmpstring", "slices.overlaps[ticketline/api.Pair]"], unfollowed := true, recurses := true, apart := false }
def ExpireHoldsSaid : Prop := expireHoldsRow.holds Try.pinned (OpenSpec.ofChange expireHoldsSpec)

/-- ITS FALSE NEIGHBOUR: 'it returns false'. Refute it at one input. -/
def expireHoldsWrong : ChangeSpec := { name := "expireHolds", fn := fun _ => fun
  | [d] => { results := [.lit (.bool false)], args := [d] }
  | _ => none }
def ExpireHoldsWrongFalsely : Prop := expireHoldsRow.holds Try.pinned (OpenSpec.ofChange expireHoldsWrong)

/-- 'ticketlinelaw45.ExpirePlays': WHATEVER THE INPUT: true; the input reads as it did. -/
def expirePlaysSpec : ChangeSpec := { name := "expirePlays", fn := fun _ => fun
  | [d] => { results := [.lit (.bool true)], args := [d] }
  | _ => none }
def expirePlaysRow : OpenClaim := { program := "ythjjkinpbpealaa", sum := "168dc58ed14589c0d279d252352c1766d66c5ce8af988bd64162a97a2e9cc821", func := "ticketline/ticketlinelaw45.ExpirePlays", spec := "expirePlays", inPlace := ["internal/bytealg.abigen_runtime_cmpstring", "slices.overlaps[ticketline/api.Pair]"], unfollowed := true, recurses := true, apart := false }
def ExpirePlaysSaid : Prop := expirePlaysRow.holds Try.pinned (OpenSpec.ofChange expirePlaysSpec)

/-- ITS FALSE NEIGHBOUR: 'it returns false'. Refute it at one input. -/
def expirePlaysWrong : ChangeSpec := { name := "expirePlays", fn := fun _ => fun
  | [d] => { results := [.lit (.bool false)], args := [d] }
  | _ => none }
def ExpirePlaysWrongFalsely : Prop := expirePlaysRow.holds Try.pinned (OpenSpec.ofChange expirePlaysWrong)

/-- 'ticketlinelaw45.ExpireNil': WHATEVER THE INPUT: true; the input reads as it did. -/
def expireNilSpec : ChangeSpec := { name := "expireNil", fn := fun _ => fun
  | [d] => { results := [.lit (.bool true)], args := [d] }
  | _ => none }
def expireNilRow : OpenClaim := { program := "ythjjkinpbpealaa", sum := "168dc58ed14589c0d279d252352c1766d66c5ce8af988bd64162a97a2e9cc821", func := "ticketline/ticketlinelaw45.ExpireNil", spec := "expireNil", inPlace := ["internal/bytealg.abigen_runtime_cmpstring", "slices.overlaps[ticketline/api.Pair]"], unfollowed := true, recurses := true, apart := false }
def ExpireNilSaid : Prop := expireNilRow.holds Try.pinned (OpenSpec.ofChange expireNilSpec)

/-- ITS FALSE NEIGHBOUR: 'it returns false'. Refute it at one input. -/
def expireNilWrong : ChangeSpec := { name := "expireNil", fn := fun _ => fun
  | [d] => { results := [.lit (.bool false)], args := [d] }
  | _ => none }
def ExpireNilWrongFalsely : Prop := expireNilRow.holds Try.pinned (OpenSpec.ofChange expireNilWrong)

/- THE SECOND FORM. 'bulk': how many values and letters a reading holds, each counted each time it is reached (what is shared counts as often as it is met; a slice's spare places count too). A statement '..UptoSaid' is the law's where the arguments, and the package variables that the reading takes, are together of bulk at most 1048576: NARROWER than '..Said'. Prove '..Said' where nothing that the law and all that it calls make is longer than what came in: it says more and counts as full. Else prove '..UptoSaid'. A law counts once. -/
mutual
def uptoBulk {H : Type} : DataW H → Nat
  | .lit (.string bytes) => bytes.length + 1
  | .lit _ => 1
  | .nil => 1
  | .ptr d => uptoBulk d + 1
  | .slice elems spare => uptoBulkAll elems + uptoBulkAll spare + 1
  | .agg parts => uptoBulkAll parts + 1
  | .iface _ d => uptoBulk d + 1
  | .map entries => uptoBulkEntries entries + 1
  | .held _ => 1
def uptoBulkAll {H : Type} : List (DataW H) → Nat
  | [] => 0
  | d :: r => uptoBulk d + uptoBulkAll r
def uptoBulkEntries {H : Type} : List (Lit × DataW H) → Nat
  | [] => 0
  | x :: r => uptoBulkEntry x + uptoBulkEntries r
def uptoBulkEntry {H : Type} : Lit × DataW H → Nat
  | (.string bytes, d) => bytes.length + uptoBulk d + 1
  | (_, d) => uptoBulk d + 1
 end
def uptoSmall : (H : Type) → List (DataW H) → Bool := fun _ ds => decide (uptoBulkAll ds ≤ 1048576)
def OpenSpec.upto (s : _root_.Go.ChangeSpec) : _root_.Go.OpenSpec := { _root_.Go.OpenSpec.ofChange s with cond := some uptoSmall }

/-- 'ticketlinelaw45.ExpireMany', WHERE WHAT IT READS IS OF BULK AT MOST 1048576: true; the input reads as it did. -/
def expireManyUptoRow : OpenClaim := { program := "ythjjkinpbpealaa", sum := "168dc58ed14589c0d279d252352c1766d66c5ce8af988bd64162a97a2e9cc821", func := "ticketline/ticketlinelaw45.ExpireMany", spec := "expireMany", inPlace := ["internal/bytealg.abigen_runtime_cmpstring", "slices.overlaps[ticketline/api.Pair]"], unfollowed := true, recurses := true, apart := false, narrowed := true }
def ExpireManyUptoSaid : Prop := expireManyUptoRow.holds Try.pinned (OpenSpec.upto expireManySpec)

/-- 'ticketlinelaw45.ExpireHolds', WHERE WHAT IT READS IS OF BULK AT MOST 1048576: true; the input reads as it did. -/
def expireHoldsUptoRow : OpenClaim := { program := "ythjjkinpbpealaa", sum := "168dc58ed14589c0d279d252352c1766d66c5ce8af988bd64162a97a2e9cc821", func := "ticketline/ticketlinelaw45.ExpireHolds", spec := "expireHolds", inPlace := ["internal/bytealg.abigen_runtime_cmpstring", "slices.overlaps[ticketline/api.Pair]"], unfollowed := true, recurses := true, apart := false, narrowed := true }
def ExpireHoldsUptoSaid : Prop := expireHoldsUptoRow.holds Try.pinned (OpenSpec.upto expireHoldsSpec)

/-- 'ticketlinelaw45.ExpirePlays', WHERE WHAT IT READS IS OF BULK AT MOST 1048576: true; the input reads as it did. -/
def expirePlaysUptoRow : OpenClaim := { program := "ythjjkinpbpealaa", sum := "168dc58ed14589c0d279d252352c1766d66c5ce8af988bd64162a97a2e9cc821", func := "ticketline/ticketlinelaw45.ExpirePlays", spec := "expirePlays", inPlace := ["internal/bytealg.abigen_runtime_cmpstring", "slices.overlaps[ticketline/api.Pair]"], unfollowed := true, recurses := true, apart := false, narrowed := true }
def ExpirePlaysUptoSaid : Prop := expirePlaysUptoRow.holds Try.pinned (OpenSpec.upto expirePlaysSpec)

/-- 'ticketlinelaw45.ExpireNil', WHERE WHAT IT READS IS OF BULK AT MOST 1048576: true; the input reads as it did. -/
def expireNilUptoRow : OpenClaim := { program := "ythjjkinpbpealaa", sum := "168dc58ed14589c0d279d252352c1766d66c5ce8af988bd64162a97a2e9cc821", func := "ticketline/ticketlinelaw45.ExpireNil", spec := "expireNil", inPlace := ["internal/bytealg.abigen_runtime_cmpstring", "slices.overlaps[ticketline/api.Pair]"], unfollowed := true, recurses := true, apart := false, narrowed := true }
def ExpireNilUptoSaid : Prop := expireNilUptoRow.holds Try.pinned (OpenSpec.upto expireNilSpec)

end Rows
end Go.Proofs.Ythjjkinpbpealaa
