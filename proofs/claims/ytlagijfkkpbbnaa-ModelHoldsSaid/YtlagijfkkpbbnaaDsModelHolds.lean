/-
  The equations of the seat's functions over calls in the limit (a program of ours printed it).
  Conditions: none. By an AI agent.
-/
import Derived.Test.YtlagijfkkpbbnaaShModelHolds
import Derived.Test.YtlagijfkkpbbnaaKnown
import Derived.Test.YtlagijfkkpbbnaaDs
set_option linter.unusedVariables false
namespace Go.Proofs.Ytlagijfkkpbbnaa
open Go Eng

@[go_sem] theorem x_uint8_int {n : Int} {H : AHeap} : xconv Try.prog T.uint8 T.int (.int .u8 n) H = some (.int .i64 (IntKind.wrap .i64 n), H) := xconv_int (P := Try.prog) (s := 5) (t := 3) Try.underlying5 Try.underlying3

noncomputable def l_law_ModelHolds_0 (v0 : Value) (v1 : Value) (v2 : Value) (v7 : Value) (v8 : Value) (v9 : Value) (v10 : Value) (H : AHeap) (k : K) : Res := loopL stdL Try.prog hints CC limLP F.law_ModelHolds 0 [(0, v0), (1, v1), (2, v2), (7, v7), (8, v8), (9, v9), (10, v10)] H k
noncomputable def l_law_ModelHolds_1 (v2 : Value) (v7 : Value) (v13 : Value) (v16 : Value) (v17 : Value) (H : AHeap) (k : K) : Res := loopL stdL Try.prog hints CC limLP F.law_ModelHolds 1 [(2, v2), (7, v7), (13, v13), (16, v16), (17, v17)] H k
theorem r_law_ModelHolds_0 (v0 : Value) (v1 : Value) (v2 : Value) (v7 : Value) (v8 : Value) (v9 : Value) (v10 : Value) (H : AHeap) (k : K) : l_law_ModelHolds_0 v0 v1 v2 v7 v8 v9 v10 H k = s_law_ModelHolds_b0 guardK condL shareL Try.prog CC l_law_ModelHolds_0 l_law_ModelHolds_1 v0 v1 v2 v7 v8 v9 v10 H (seqK (fun T H => l_law_ModelHolds_0 (get T 0) (get T 1) (get T 2) (get T 7) (get T 8) (get T 9) (get T 10) H k) k) := ((loopL_next (by kernel_rfl) rfl H k).trans (s_law_ModelHolds_b0_eq stdL CC limLP v0 v1 v2 v7 v8 v9 v10 H _)).trans (by kernel_rfl)
theorem r_law_ModelHolds_1 (v2 : Value) (v7 : Value) (v13 : Value) (v16 : Value) (v17 : Value) (H : AHeap) (k : K) : l_law_ModelHolds_1 v2 v7 v13 v16 v17 H k = s_law_ModelHolds_b1 guardK condL shareL Try.prog CC l_law_ModelHolds_0 l_law_ModelHolds_1 v2 v7 v13 v16 v17 H (seqK (fun T H => l_law_ModelHolds_1 (get T 2) (get T 7) (get T 13) (get T 16) (get T 17) H k) k) := ((loopL_next (by kernel_rfl) rfl H k).trans (s_law_ModelHolds_b1_eq stdL CC limLP v2 v7 v13 v16 v17 H _)).trans (by kernel_rfl)
theorem d_law_ModelHolds (a0 : Value) (a1 : Value) (a2 : Value) (H : AHeap) {r : Value × AHeap} (h : s_law_ModelHolds guardK condL shareL Try.prog CC l_law_ModelHolds_0 l_law_ModelHolds_1 a0 a1 a2 H (endK Try.prog [.tmp 6]) = some r) : CC F.law_ModelHolds [a0, a1, a2] H = some (tidy H r) := D_body (by kernel_rfl) ((s_law_ModelHolds_eq stdL CC limLP a0 a1 a2 H).trans (Eq.trans (show s_law_ModelHolds stdL.b.g stdL.c stdL.s Try.prog CC (fun v0 v1 v2 v7 v8 v9 v10 H k => loopL stdL Try.prog hints CC limLP F.law_ModelHolds 0 [(0, v0), (1, v1), (2, v2), (7, v7), (8, v8), (9, v9), (10, v10)] H k) (fun v2 v7 v13 v16 v17 H k => loopL stdL Try.prog hints CC limLP F.law_ModelHolds 1 [(2, v2), (7, v7), (13, v13), (16, v16), (17, v17)] H k) a0 a1 a2 H (endK Try.prog [.tmp 6]) = s_law_ModelHolds guardK condL shareL Try.prog CC l_law_ModelHolds_0 l_law_ModelHolds_1 a0 a1 a2 H (endK Try.prog [.tmp 6]) by kernel_rfl) h))

end Go.Proofs.Ytlagijfkkpbbnaa
