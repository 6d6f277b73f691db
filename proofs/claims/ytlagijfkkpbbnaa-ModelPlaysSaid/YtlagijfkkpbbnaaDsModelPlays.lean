/-
  The equations of the seat's functions over calls in the limit (a program of ours printed it).
  Conditions: none. By an AI agent.
-/
import Derived.Test.YtlagijfkkpbbnaaShModelPlays
import Derived.Test.YtlagijfkkpbbnaaKnown
import Derived.Test.YtlagijfkkpbbnaaDs
set_option linter.unusedVariables false
namespace Go.Proofs.Ytlagijfkkpbbnaa
open Go Eng



noncomputable def l_law_ModelPlays_0 (v0 : Value) (v3 : Value) (v4 : Value) (v5 : Value) (H : AHeap) (k : K) : Res := loopL stdL Try.prog hints CC limLP F.law_ModelPlays 0 [(0, v0), (3, v3), (4, v4), (5, v5)] H k
theorem r_law_ModelPlays_0 (v0 : Value) (v3 : Value) (v4 : Value) (v5 : Value) (H : AHeap) (k : K) : l_law_ModelPlays_0 v0 v3 v4 v5 H k = s_law_ModelPlays_b0 guardK condL shareL Try.prog CC l_law_ModelPlays_0 v0 v3 v4 v5 H (seqK (fun T H => l_law_ModelPlays_0 (get T 0) (get T 3) (get T 4) (get T 5) H k) k) := ((loopL_next (by kernel_rfl) rfl H k).trans (s_law_ModelPlays_b0_eq stdL CC limLP v0 v3 v4 v5 H _)).trans (by kernel_rfl)
theorem d_law_ModelPlays (a0 : Value) (H : AHeap) {r : Value × AHeap} (h : s_law_ModelPlays guardK condL shareL Try.prog CC l_law_ModelPlays_0 a0 H (endK Try.prog [.tmp 2]) = some r) : CC F.law_ModelPlays [a0] H = some (tidy H r) := D_body (by kernel_rfl) ((s_law_ModelPlays_eq stdL CC limLP a0 H).trans (Eq.trans (show s_law_ModelPlays stdL.b.g stdL.c stdL.s Try.prog CC (fun v0 v3 v4 v5 H k => loopL stdL Try.prog hints CC limLP F.law_ModelPlays 0 [(0, v0), (3, v3), (4, v4), (5, v5)] H k) a0 H (endK Try.prog [.tmp 2]) = s_law_ModelPlays guardK condL shareL Try.prog CC l_law_ModelPlays_0 a0 H (endK Try.prog [.tmp 2]) by kernel_rfl) h))

end Go.Proofs.Ytlagijfkkpbbnaa
