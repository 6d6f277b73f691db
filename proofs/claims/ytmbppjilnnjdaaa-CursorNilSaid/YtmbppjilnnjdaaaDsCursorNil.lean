/-
  The equations of the seat's functions over calls in the limit (a program of ours printed it).
  Conditions: none. By an AI agent.
-/
import Derived.Test.YtmbppjilnnjdaaaShCursorNil
import Derived.Test.YtmbppjilnnjdaaaKnown
import Derived.Test.YtmbppjilnnjdaaaDs
set_option linter.unusedVariables false
namespace Go.Proofs.Ytmbppjilnnjdaaa
open Go Eng



noncomputable def l_law_CursorNil_0 (v0 : Value) (v3 : Value) (v16 : Value) (v17 : Value) (v18 : Value) (H : AHeap) (k : K) : Res := loopL stdL Try.prog hints CC limLP F.law_CursorNil 0 [(0, v0), (3, v3), (16, v16), (17, v17), (18, v18)] H k
theorem r_law_CursorNil_0 (v0 : Value) (v3 : Value) (v16 : Value) (v17 : Value) (v18 : Value) (H : AHeap) (k : K) : l_law_CursorNil_0 v0 v3 v16 v17 v18 H k = s_law_CursorNil_b0 guardK condL shareL Try.prog CC l_law_CursorNil_0 v0 v3 v16 v17 v18 H (seqK (fun T H => l_law_CursorNil_0 (get T 0) (get T 3) (get T 16) (get T 17) (get T 18) H k) k) := ((loopL_next (by kernel_rfl) rfl H k).trans (s_law_CursorNil_b0_eq stdL CC limLP v0 v3 v16 v17 v18 H _)).trans (by kernel_rfl)
theorem d_law_CursorNil (a0 : Value) (H : AHeap) {r : Value × AHeap} (h : s_law_CursorNil guardK condL shareL Try.prog CC l_law_CursorNil_0 a0 H (endK Try.prog [.tmp 2]) = some r) : CC F.law_CursorNil [a0] H = some (tidy H r) := D_body (by kernel_rfl) ((s_law_CursorNil_eq stdL CC limLP a0 H).trans (Eq.trans (show s_law_CursorNil stdL.b.g stdL.c stdL.s Try.prog CC (fun v0 v3 v16 v17 v18 H k => loopL stdL Try.prog hints CC limLP F.law_CursorNil 0 [(0, v0), (3, v3), (16, v16), (17, v17), (18, v18)] H k) a0 H (endK Try.prog [.tmp 2]) = s_law_CursorNil guardK condL shareL Try.prog CC l_law_CursorNil_0 a0 H (endK Try.prog [.tmp 2]) by kernel_rfl) h))

end Go.Proofs.Ytmbppjilnnjdaaa
