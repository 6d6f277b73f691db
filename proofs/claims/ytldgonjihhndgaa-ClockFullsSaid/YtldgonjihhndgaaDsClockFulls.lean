/-
  The equations of the seat's functions over calls in the limit (a program of ours printed it).
  Conditions: none. By an AI agent.
-/
import Derived.Test.YtldgonjihhndgaaShClockFulls
import Derived.Test.YtldgonjihhndgaaKnown
import Derived.Test.YtldgonjihhndgaaDs
set_option linter.unusedVariables false
namespace Go.Proofs.Ytldgonjihhndgaa
open Go Eng



noncomputable def l_law_ClockFulls_0 (v0 : Value) (v1 : Value) (v5 : Value) (v7 : Value) (H : AHeap) (k : K) : Res := loopL stdL Try.prog hints CC limLP F.law_ClockFulls 0 [(0, v0), (1, v1), (5, v5), (7, v7)] H k
theorem r_law_ClockFulls_0 (v0 : Value) (v1 : Value) (v5 : Value) (v7 : Value) (H : AHeap) (k : K) : l_law_ClockFulls_0 v0 v1 v5 v7 H k = s_law_ClockFulls_b0 guardK condL shareL Try.prog CC l_law_ClockFulls_0 v0 v1 v5 v7 H (seqK (fun T H => l_law_ClockFulls_0 (get T 0) (get T 1) (get T 5) (get T 7) H k) k) := ((loopL_next (by kernel_rfl) rfl H k).trans (s_law_ClockFulls_b0_eq stdL CC limLP v0 v1 v5 v7 H _)).trans (by kernel_rfl)
theorem d_law_ClockFulls (a0 : Value) (a1 : Value) (H : AHeap) {r : Value × AHeap} (h : s_law_ClockFulls guardK condL shareL Try.prog CC l_law_ClockFulls_0 a0 a1 H (endK Try.prog [.tmp 4]) = some r) : CC F.law_ClockFulls [a0, a1] H = some (tidy H r) := D_body (by kernel_rfl) ((s_law_ClockFulls_eq stdL CC limLP a0 a1 H).trans (Eq.trans (show s_law_ClockFulls stdL.b.g stdL.c stdL.s Try.prog CC (fun v0 v1 v5 v7 H k => loopL stdL Try.prog hints CC limLP F.law_ClockFulls 0 [(0, v0), (1, v1), (5, v5), (7, v7)] H k) a0 a1 H (endK Try.prog [.tmp 4]) = s_law_ClockFulls guardK condL shareL Try.prog CC l_law_ClockFulls_0 a0 a1 H (endK Try.prog [.tmp 4]) by kernel_rfl) h))

end Go.Proofs.Ytldgonjihhndgaa
