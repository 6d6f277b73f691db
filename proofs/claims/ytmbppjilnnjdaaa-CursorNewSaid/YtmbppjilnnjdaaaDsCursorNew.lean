/-
  The equations of the seat's functions over calls in the limit (a program of ours printed it).
  Conditions: none. By an AI agent.
-/
import Derived.Test.YtmbppjilnnjdaaaShCursorNew
import Derived.Test.YtmbppjilnnjdaaaKnown
import Derived.Test.YtmbppjilnnjdaaaDs
set_option linter.unusedVariables false
namespace Go.Proofs.Ytmbppjilnnjdaaa
open Go Eng

theorem u_law_Model : Try.prog.underlying T.law_Model = Try.prog.underlying 31 := rfl

theorem d_law_CursorNew (a0 : Value) (a1 : Value) (H : AHeap) {r : Value × AHeap} (h : s_law_CursorNew guardK condL shareL Try.prog CC a0 a1 H (endK Try.prog [.tmp 4]) = some r) : CC F.law_CursorNew [a0, a1] H = some (tidy H r) := D_body (by kernel_rfl) ((s_law_CursorNew_eq stdL CC limLP a0 a1 H).trans (Eq.trans (show s_law_CursorNew stdL.b.g stdL.c stdL.s Try.prog CC a0 a1 H (endK Try.prog [.tmp 4]) = s_law_CursorNew guardK condL shareL Try.prog CC a0 a1 H (endK Try.prog [.tmp 4]) by kernel_rfl) h))

end Go.Proofs.Ytmbppjilnnjdaaa
