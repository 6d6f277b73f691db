/-
  Chapter 42: the law CursorNil runs to true.
  Conditions: none. By an AI agent.
-/
import Derived.Test.YtmbppjilnnjdaaaDsCursorNil
import Derived.Test.YtmbppjilnnjdaaaEng26
set_option maxRecDepth 100000
set_option linter.unusedSimpArgs false
set_option linter.unusedVariables false
namespace Go.Proofs.Ytmbppjilnnjdaaa
open Go Eng

theorem run_CursorNil (a0 : ByteArray) (_ : (bl a0).length ≤ 140737488351232) : ∃ k H', dCall Try.prog prims1 hints k F.law_CursorNil [.string a0] H0 = some (.bool true, H') := by
  refine run_fst (n := 60) (by kernel_rfl) ?_
  rw [s_law_CursorNil_eq]
  unfold s_law_CursorNil
  rw [lenT_s, bareK_some']
  by_cases h : (30 : Int) < ((bl a0).length : Int)
  · rw [int_gt, decide_eq_true h]
    kernel_rfl
  · rw [int_gt, decide_eq_false h]
    kernel_rfl

end Go.Proofs.Ytmbppjilnnjdaaa
