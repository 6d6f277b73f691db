/-
  The equations of the seat's functions over calls in the limit (a program of ours printed it).
  Conditions: none. By an AI agent.
-/
import Derived.Test.YtlagijfkkpbbnaaShModelOf
import Derived.Test.YtlagijfkkpbbnaaKnown
import Derived.Test.YtlagijfkkpbbnaaDs
set_option linter.unusedVariables false
namespace Go.Proofs.Ytlagijfkkpbbnaa
open Go Eng

theorem u_p_ticketlineref24_Model : Try.prog.underlying T.p_ticketlineref24_Model = Try.prog.underlying 27 := rfl

noncomputable def l_law_ModelOf_0 (v0 : Value) (v1 : Value) (v30 : Value) (v31 : Value) (v32 : Value) (H : AHeap) (k : K) : Res := loopL stdL Try.prog hints CC limLP F.law_ModelOf 0 [(0, v0), (1, v1), (30, v30), (31, v31), (32, v32)] H k
noncomputable def l_law_ModelOf_1 (v0 : Value) (v1 : Value) (v6 : Value) (v7 : Value) (v30 : Value) (v31 : Value) (v32 : Value) (H : AHeap) (k : K) : Res := loopL stdL Try.prog hints CC limLP F.law_ModelOf 1 [(0, v0), (1, v1), (6, v6), (7, v7), (30, v30), (31, v31), (32, v32)] H k
noncomputable def l_law_ModelOf_2 (v1 : Value) (v8 : Value) (v9 : Value) (v11 : Value) (v13 : Value) (H : AHeap) (k : K) : Res := loopL stdL Try.prog hints CC limLP F.law_ModelOf 2 [(1, v1), (8, v8), (9, v9), (11, v11), (13, v13)] H k
theorem r_law_ModelOf_0 (v0 : Value) (v1 : Value) (v30 : Value) (v31 : Value) (v32 : Value) (H : AHeap) (k : K) : l_law_ModelOf_0 v0 v1 v30 v31 v32 H k = s_law_ModelOf_b0 guardK condL shareL Try.prog CC l_law_ModelOf_0 l_law_ModelOf_1 l_law_ModelOf_2 v0 v1 v30 v31 v32 H (seqK (fun T H => l_law_ModelOf_0 (get T 0) (get T 1) (get T 30) (get T 31) (get T 32) H k) k) := ((loopL_next (by kernel_rfl) rfl H k).trans (s_law_ModelOf_b0_eq stdL CC limLP v0 v1 v30 v31 v32 H _)).trans (by kernel_rfl)
theorem r_law_ModelOf_1 (v0 : Value) (v1 : Value) (v6 : Value) (v7 : Value) (v30 : Value) (v31 : Value) (v32 : Value) (H : AHeap) (k : K) : l_law_ModelOf_1 v0 v1 v6 v7 v30 v31 v32 H k = s_law_ModelOf_b1 guardK condL shareL Try.prog CC l_law_ModelOf_0 l_law_ModelOf_1 l_law_ModelOf_2 v0 v1 v6 v7 v30 v31 v32 H (seqK (fun T H => l_law_ModelOf_1 (get T 0) (get T 1) (get T 6) (get T 7) (get T 30) (get T 31) (get T 32) H k) k) := ((loopL_next (by kernel_rfl) rfl H k).trans (s_law_ModelOf_b1_eq stdL CC limLP v0 v1 v6 v7 v30 v31 v32 H _)).trans (by kernel_rfl)
theorem r_law_ModelOf_2 (v1 : Value) (v8 : Value) (v9 : Value) (v11 : Value) (v13 : Value) (H : AHeap) (k : K) : l_law_ModelOf_2 v1 v8 v9 v11 v13 H k = s_law_ModelOf_b2 guardK condL shareL Try.prog CC l_law_ModelOf_0 l_law_ModelOf_1 l_law_ModelOf_2 v1 v8 v9 v11 v13 H (seqK (fun T H => l_law_ModelOf_2 (get T 1) (get T 8) (get T 9) (get T 11) (get T 13) H k) k) := ((loopL_next (by kernel_rfl) rfl H k).trans (s_law_ModelOf_b2_eq stdL CC limLP v1 v8 v9 v11 v13 H _)).trans (by kernel_rfl)
theorem d_law_ModelOf (a0 : Value) (a1 : Value) (H : AHeap) {r : Value × AHeap} (h : s_law_ModelOf guardK condL shareL Try.prog CC l_law_ModelOf_0 l_law_ModelOf_1 l_law_ModelOf_2 a0 a1 H (endK Try.prog [.tmp 4]) = some r) : CC F.law_ModelOf [a0, a1] H = some (tidy H r) := D_body (by kernel_rfl) ((s_law_ModelOf_eq stdL CC limLP a0 a1 H).trans (Eq.trans (show s_law_ModelOf stdL.b.g stdL.c stdL.s Try.prog CC (fun v0 v1 v30 v31 v32 H k => loopL stdL Try.prog hints CC limLP F.law_ModelOf 0 [(0, v0), (1, v1), (30, v30), (31, v31), (32, v32)] H k) (fun v0 v1 v6 v7 v30 v31 v32 H k => loopL stdL Try.prog hints CC limLP F.law_ModelOf 1 [(0, v0), (1, v1), (6, v6), (7, v7), (30, v30), (31, v31), (32, v32)] H k) (fun v1 v8 v9 v11 v13 H k => loopL stdL Try.prog hints CC limLP F.law_ModelOf 2 [(1, v1), (8, v8), (9, v9), (11, v11), (13, v13)] H k) a0 a1 H (endK Try.prog [.tmp 4]) = s_law_ModelOf guardK condL shareL Try.prog CC l_law_ModelOf_0 l_law_ModelOf_1 l_law_ModelOf_2 a0 a1 H (endK Try.prog [.tmp 4]) by kernel_rfl) h))

end Go.Proofs.Ytlagijfkkpbbnaa
