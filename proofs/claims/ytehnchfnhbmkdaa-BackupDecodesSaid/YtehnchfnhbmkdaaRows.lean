/-
  No cell of these rows narrows 'for every input' (looked for: loops, veiled, ifaces, maps, wideKeys, modest, calm, conditions, laid).
  DERIVED. THE GIVEN ROWS OF THIS SEAT. 6 by the template 'for every input the law returns true; each argument reads behind the call as it read before'; 0 by the template 'total and deterministic' (their statements: YtehnchfnhbmkdaaTotals.lean).
  GIVEN WITH THE SEED: the statements are not yours to turn. If you find one false, say at which input.
  Laid BY PROGRAM, IN A SANDBOX (cutbox-rows.mjs): the forced cells as the released guide's own fill.sh prints them over the translation 97238aac95231342… (all of the seat's roots in one cut). By AI agents, Wed Nov 11 2026. No macro, syntax, notation, axiom, sorry.
-/
import Derived.Test.YtehnchfnhbmkdaaChecked
import GoSem.Claim
import GoSem.ClaimJoined
import GoSem.ClaimMapViews
import Derived.JoinedTies
import Derived.KernelRfl
namespace Go.Proofs.Ytehnchfnhbmkdaa
/- THE CELL 'sum', in the pinned program and in every row, IS THE sha256 OF THE DUMP (.gsa) THAT YtehnchfnhbmkdaaProg.lean LOADS. Nothing in Lean hashes anything: it is a label: what it is worth is what the hold of that sum in a sandbox is worth. -/
noncomputable def Try.pinned : Pinned := { name := "ytehnchfnhbmkdaa", sum := "97238aac952313422adc0cea74c6c43cfb63c77901f304a5a9862262d7289d16", checked := Try.checked }
namespace Rows
def none {H : Type} : Left H := { results := [], args := [] }

/-- 'ticketlinelaw48.BackupCuts': WHATEVER THE INPUT: true; the input reads as it did. -/
def backupCutsSpec : ChangeSpec := { name := "backupCuts", fn := fun _ => fun
  | [d1, d2, d3] => { results := [.lit (.bool true)], args := [d1, d2, d3] }
  | _ => none }
def backupCutsRow : OpenClaim := { program := "ytehnchfnhbmkdaa", sum := "97238aac952313422adc0cea74c6c43cfb63c77901f304a5a9862262d7289d16", func := "ticketline/ticketlinelaw48.BackupCuts", spec := "backupCuts", inPlace := ["internal/bytealg.abigen_runtime_cmpstring"], unfollowed := true, recurses := true, apart := false }
def BackupCutsSaid : Prop := backupCutsRow.holds Try.pinned (OpenSpec.ofChange backupCutsSpec)

/-- ITS FALSE NEIGHBOUR: 'it returns false'. Refute it at one input. -/
def backupCutsWrong : ChangeSpec := { name := "backupCuts", fn := fun _ => fun
  | [d1, d2, d3] => { results := [.lit (.bool false)], args := [d1, d2, d3] }
  | _ => none }
def BackupCutsWrongFalsely : Prop := backupCutsRow.holds Try.pinned (OpenSpec.ofChange backupCutsWrong)

/-- 'ticketlinelaw48.BackupJoins': WHATEVER THE INPUT: true; the input reads as it did. -/
def backupJoinsSpec : ChangeSpec := { name := "backupJoins", fn := fun _ => fun
  | [d1, d2, d3, d4, d5, d6] => { results := [.lit (.bool true)], args := [d1, d2, d3, d4, d5, d6] }
  | _ => none }
def backupJoinsRow : OpenClaim := { program := "ytehnchfnhbmkdaa", sum := "97238aac952313422adc0cea74c6c43cfb63c77901f304a5a9862262d7289d16", func := "ticketline/ticketlinelaw48.BackupJoins", spec := "backupJoins", inPlace := ["internal/bytealg.abigen_runtime_cmpstring"], unfollowed := true, recurses := true, apart := false }
def BackupJoinsSaid : Prop := backupJoinsRow.holds Try.pinned (OpenSpec.ofChange backupJoinsSpec)

/-- ITS FALSE NEIGHBOUR: 'it returns false'. Refute it at one input. -/
def backupJoinsWrong : ChangeSpec := { name := "backupJoins", fn := fun _ => fun
  | [d1, d2, d3, d4, d5, d6] => { results := [.lit (.bool false)], args := [d1, d2, d3, d4, d5, d6] }
  | _ => none }
def BackupJoinsWrongFalsely : Prop := backupJoinsRow.holds Try.pinned (OpenSpec.ofChange backupJoinsWrong)

/-- 'ticketlinelaw48.BackupLongs': WHATEVER THE INPUT: true; the input reads as it did. -/
def backupLongsSpec : ChangeSpec := { name := "backupLongs", fn := fun _ => fun
  | [d1, d2] => { results := [.lit (.bool true)], args := [d1, d2] }
  | _ => none }
def backupLongsRow : OpenClaim := { program := "ytehnchfnhbmkdaa", sum := "97238aac952313422adc0cea74c6c43cfb63c77901f304a5a9862262d7289d16", func := "ticketline/ticketlinelaw48.BackupLongs", spec := "backupLongs", inPlace := ["internal/bytealg.abigen_runtime_cmpstring", "slices.overlaps[ticketline/api.Pair]"], unfollowed := true, recurses := true, apart := false }
def BackupLongsSaid : Prop := backupLongsRow.holds Try.pinned (OpenSpec.ofChange backupLongsSpec)

/-- ITS FALSE NEIGHBOUR: 'it returns false'. Refute it at one input. -/
def backupLongsWrong : ChangeSpec := { name := "backupLongs", fn := fun _ => fun
  | [d1, d2] => { results := [.lit (.bool false)], args := [d1, d2] }
  | _ => none }
def BackupLongsWrongFalsely : Prop := backupLongsRow.holds Try.pinned (OpenSpec.ofChange backupLongsWrong)

/-- 'ticketlinelaw48.BackupEncodes': WHATEVER THE INPUT: true; the input reads as it did. -/
def backupEncodesSpec : ChangeSpec := { name := "backupEncodes", fn := fun _ => fun
  | [d1, d2] => { results := [.lit (.bool true)], args := [d1, d2] }
  | _ => none }
def backupEncodesRow : OpenClaim := { program := "ytehnchfnhbmkdaa", sum := "97238aac952313422adc0cea74c6c43cfb63c77901f304a5a9862262d7289d16", func := "ticketline/ticketlinelaw48.BackupEncodes", spec := "backupEncodes", inPlace := ["internal/bytealg.abigen_runtime_cmpstring", "slices.overlaps[ticketline/api.Pair]"], unfollowed := true, recurses := true, apart := false }
def BackupEncodesSaid : Prop := backupEncodesRow.holds Try.pinned (OpenSpec.ofChange backupEncodesSpec)

/-- ITS FALSE NEIGHBOUR: 'it returns false'. Refute it at one input. -/
def backupEncodesWrong : ChangeSpec := { name := "backupEncodes", fn := fun _ => fun
  | [d1, d2] => { results := [.lit (.bool false)], args := [d1, d2] }
  | _ => none }
def BackupEncodesWrongFalsely : Prop := backupEncodesRow.holds Try.pinned (OpenSpec.ofChange backupEncodesWrong)

/-- 'ticketlinelaw48.BackupDecodes': WHATEVER THE INPUT: true; the input reads as it did. -/
def backupDecodesSpec : ChangeSpec := { name := "backupDecodes", fn := fun _ => fun
  | [d1, d2, d3, d4, d5] => { results := [.lit (.bool true)], args := [d1, d2, d3, d4, d5] }
  | _ => none }
def backupDecodesRow : OpenClaim := { program := "ytehnchfnhbmkdaa", sum := "97238aac952313422adc0cea74c6c43cfb63c77901f304a5a9862262d7289d16", func := "ticketline/ticketlinelaw48.BackupDecodes", spec := "backupDecodes", inPlace := ["internal/bytealg.abigen_runtime_cmpstring", "slices.overlaps[ticketline/api.Pair]"], unfollowed := true, recurses := true, apart := false }
def BackupDecodesSaid : Prop := backupDecodesRow.holds Try.pinned (OpenSpec.ofChange backupDecodesSpec)

/-- ITS FALSE NEIGHBOUR: 'it returns false'. Refute it at one input. -/
def backupDecodesWrong : ChangeSpec := { name := "backupDecodes", fn := fun _ => fun
  | [d1, d2, d3, d4, d5] => { results := [.lit (.bool false)], args := [d1, d2, d3, d4, d5] }
  | _ => none }
def BackupDecodesWrongFalsely : Prop := backupDecodesRow.holds Try.pinned (OpenSpec.ofChange backupDecodesWrong)

/-- 'ticketlinelaw48.BackupHolds': WHATEVER THE INPUT: true; the input reads as it did. -/
def backupHoldsSpec : ChangeSpec := { name := "backupHolds", fn := fun _ => fun
  | [d1, d2, d3, d4, d5] => { results := [.lit (.bool true)], args := [d1, d2, d3, d4, d5] }
  | _ => none }
def backupHoldsRow : OpenClaim := { program := "ytehnchfnhbmkdaa", sum := "97238aac952313422adc0cea74c6c43cfb63c77901f304a5a9862262d7289d16", func := "ticketline/ticketlinelaw48.BackupHolds", spec := "backupHolds", inPlace := ["internal/bytealg.abigen_runtime_cmpstring", "slices.overlaps[ticketline/api.Pair]"], unfollowed := true, recurses := true, apart := false }
def BackupHoldsSaid : Prop := backupHoldsRow.holds Try.pinned (OpenSpec.ofChange backupHoldsSpec)

/-- ITS FALSE NEIGHBOUR: 'it returns false'. Refute it at one input. -/
def backupHoldsWrong : ChangeSpec := { name := "backupHolds", fn := fun _ => fun
  | [d1, d2, d3, d4, d5] => { results := [.lit (.bool false)], args := [d1, d2, d3, d4, d5] }
  | _ => none }
def BackupHoldsWrongFalsely : Prop := backupHoldsRow.holds Try.pinned (OpenSpec.ofChange backupHoldsWrong)

/- THE SECOND FORM. 'bulk': how many values and letters a reading holds, each counted each time it is reached (what is shared counts as often as it is met; a slice's spare places count too). A statement '..UptoSaid' is the law's where the arguments, and the package variables that the reading takes, are together of bulk at most 1048576: NARROWER than '..Said'. Prove '..Said' where nothing that the law and all that it calls make is longer than what came in: it says more and counts as full. Else prove '..UptoSaid'. A law counts once. -/
mutual
def uptoBulk {H : Type} : DataW H → Nat
  | .lit (.string bytes) => bytes.length + 1
  | .lit _ => 1
  | .nil => 1
  | .ptr d => uptoBulk d + 1
  | .slice elems spare => uptoBulkAll elems + uptoBulkAll spare + 1
  | .agg parts => uptoBulkAll parts + 1
  | .iface _ d => uptoBulk d + 1
  | .map entries => uptoBulkEntries entries + 1
  | .held _ => 1
def uptoBulkAll {H : Type} : List (DataW H) → Nat
  | [] => 0
  | d :: r => uptoBulk d + uptoBulkAll r
def uptoBulkEntries {H : Type} : List (Lit × DataW H) → Nat
  | [] => 0
  | x :: r => uptoBulkEntry x + uptoBulkEntries r
def uptoBulkEntry {H : Type} : Lit × DataW H → Nat
  | (.string bytes, d) => bytes.length + uptoBulk d + 1
  | (_, d) => uptoBulk d + 1
 end
def uptoSmall : (H : Type) → List (DataW H) → Bool := fun _ ds => decide (uptoBulkAll ds ≤ 1048576)
def OpenSpec.upto (s : _root_.Go.ChangeSpec) : _root_.Go.OpenSpec := { _root_.Go.OpenSpec.ofChange s with cond := some uptoSmall }

/-- 'ticketlinelaw48.BackupCuts', WHERE WHAT IT READS IS OF BULK AT MOST 1048576: true; the input reads as it did. -/
def backupCutsUptoRow : OpenClaim := { program := "ytehnchfnhbmkdaa", sum := "97238aac952313422adc0cea74c6c43cfb63c77901f304a5a9862262d7289d16", func := "ticketline/ticketlinelaw48.BackupCuts", spec := "backupCuts", inPlace := ["internal/bytealg.abigen_runtime_cmpstring"], unfollowed := true, recurses := true, apart := false, narrowed := true }
def BackupCutsUptoSaid : Prop := backupCutsUptoRow.holds Try.pinned (OpenSpec.upto backupCutsSpec)

/-- 'ticketlinelaw48.BackupJoins', WHERE WHAT IT READS IS OF BULK AT MOST 1048576: true; the input reads as it did. -/
def backupJoinsUptoRow : OpenClaim := { program := "ytehnchfnhbmkdaa", sum := "97238aac952313422adc0cea74c6c43cfb63c77901f304a5a9862262d7289d16", func := "ticketline/ticketlinelaw48.BackupJoins", spec := "backupJoins", inPlace := ["internal/bytealg.abigen_runtime_cmpstring"], unfollowed := true, recurses := true, apart := false, narrowed := true }
def BackupJoinsUptoSaid : Prop := backupJoinsUptoRow.holds Try.pinned (OpenSpec.upto backupJoinsSpec)

/-- 'ticketlinelaw48.BackupLongs', WHERE WHAT IT READS IS OF BULK AT MOST 1048576: true; the input reads as it did. -/
def backupLongsUptoRow : OpenClaim := { program := "ytehnchfnhbmkdaa", sum := "97238aac952313422adc0cea74c6c43cfb63c77901f304a5a9862262d7289d16", func := "ticketline/ticketlinelaw48.BackupLongs", spec := "backupLongs", inPlace := ["internal/bytealg.abigen_runtime_cmpstring", "slices.overlaps[ticketline/api.Pair]"], unfollowed := true, recurses := true, apart := false, narrowed := true }
def BackupLongsUptoSaid : Prop := backupLongsUptoRow.holds Try.pinned (OpenSpec.upto backupLongsSpec)

/-- 'ticketlinelaw48.BackupEncodes', WHERE WHAT IT READS IS OF BULK AT MOST 1048576: true; the input reads as it did. -/
def backupEncodesUptoRow : OpenClaim := { program := "ytehnchfnhbmkdaa", sum := "97238aac952313422adc0cea74c6c43cfb63c77901f304a5a9862262d7289d16", func := "ticketline/ticketlinelaw48.BackupEncodes", spec := "backupEncodes", inPlace := ["internal/bytealg.abigen_runtime_cmpstring", "slices.overlaps[ticketline/api.Pair]"], unfollowed := true, recurses := true, apart := false, narrowed := true }
def BackupEncodesUptoSaid : Prop := backupEncodesUptoRow.holds Try.pinned (OpenSpec.upto backupEncodesSpec)

/-- 'ticketlinelaw48.BackupDecodes', WHERE WHAT IT READS IS OF BULK AT MOST 1048576: true; the input reads as it did. -/
def backupDecodesUptoRow : OpenClaim := { program := "ytehnchfnhbmkdaa", sum := "97238aac952313422adc0cea74c6c43cfb63c77901f304a5a9862262d7289d16", func := "ticketline/ticketlinelaw48.BackupDecodes", spec := "backupDecodes", inPlace := ["internal/bytealg.abigen_runtime_cmpstring", "slices.overlaps[ticketline/api.Pair]"], unfollowed := true, recurses := true, apart := false, narrowed := true }
def BackupDecodesUptoSaid : Prop := backupDecodesUptoRow.holds Try.pinned (OpenSpec.upto backupDecodesSpec)

/-- 'ticketlinelaw48.BackupHolds', WHERE WHAT IT READS IS OF BULK AT MOST 1048576: true; the input reads as it did. -/
def backupHoldsUptoRow : OpenClaim := { program := "ytehnchfnhbmkdaa", sum := "97238aac952313422adc0cea74c6c43cfb63c77901f304a5a9862262d7289d16", func := "ticketline/ticketlinelaw48.BackupHolds", spec := "backupHolds", inPlace := ["internal/bytealg.abigen_runtime_cmpstring", "slices.overlaps[ticketline/api.Pair]"], unfollowed := true, recurses := true, apart := false, narrowed := true }
def BackupHoldsUptoSaid : Prop := backupHoldsUptoRow.holds Try.pinned (OpenSpec.upto backupHoldsSpec)

end Rows
end Go.Proofs.Ytehnchfnhbmkdaa
