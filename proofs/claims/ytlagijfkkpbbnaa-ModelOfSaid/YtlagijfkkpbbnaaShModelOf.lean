/-
  The seat's functions as terms over the engine's combinators (a program of ours printed it).
  Conditions: none. By an AI agent.
-/
import Derived.Test.YtlagijfkkpbbnaaNames
import Derived.Test.YtlagijfkkpbbnaaEng22
import Derived.Test.YtlagijfkkpbbnaaHints
import Derived.Test.YtlagijfkkpbbnaaChecked
import Derived.KernelRfl
set_option linter.unusedVariables false
namespace Go.Proofs.Ytlagijfkkpbbnaa
open Go Eng

/-! ticketline.ticketlinelaw24.ModelOf -/

noncomputable def s_law_ModelOf (mg : GT) (mc : CT) (ms : ST) (P : Program) (C : CallF) (L0 : Value → Value → Value → Value → Value → AHeap → K → Res) (L1 : Value → Value → Value → Value → Value → Value → Value → AHeap → K → Res) (L2 : Value → Value → Value → Value → Value → AHeap → K → Res) (a0 : Value) (a1 : Value) (H : AHeap) (K0 : K) : Res :=
bareK (lenS a0) H fun t20 h1 =>
bareK (xbin P .gtr T.int (.tmp 20) (.const (.int .i64 30)) t20 (.int .i64 30)) h1 fun t21 h2 =>
mg t21 false (fun o1 => o1 a1 h2) h2 fun t23 h3 =>
mg t21 false (fun o2 => bareK (lenS t23) h3 o2) h3 fun t24 h4 =>
mg t21 false (fun o3 => bareK (xbin P .gtr T.int (.tmp 24) (.const (.int .i64 30)) t24 (.int .i64 30)) h4 o3) h4 fun t25 h5 =>
pickK t21 (.bool true) t25 fun t26 =>
mc t26 (fun k4 => enterK C F.law_known [] h5 fun t27 h6 =>
k4 .ret [(4, t27)] h6) (fun k4 =>
k4 .normal [(0, a0), (1, a1)] h5) (seqK (fun tT h7 =>
bothK (bldL T.sl_api_Pair [(.slice none 0 0)] 2 [(0, (get tT 0)), (1, (get tT 1))] h7) fun t30 h8 =>
bareK (lenS t30) h8 fun t31 h9 =>
ms (fun k5 =>
L0 (get tT 0) (get tT 1) t30 t31 (.int .i64 0) h9 (blkK [0, 1] 0 k5)) (seqK (fun tT_1 h10 =>
bothK (app T.api_Pair 2 32 (.slice none 0 0) (srcS 2 (get tT_1 0) h10) h10) fun t61 h11 =>
enterK C F.model_Of [t61] h11 fun t64 h12 =>
bareK (xextract t64 0) h12 fun t65 h13 =>
bareK (xextract t64 1) h13 fun t66 h14 =>
enterK C F.ref24_Of [(get tT_1 0)] h14 fun t69 h15 =>
bareK (xextract t69 0) h15 fun t70 h16 =>
bareK (xextract t69 1) h16 fun t71 h17 =>
bareK (xbin P .neq T.api_Errno (.tmp 72) (.tmp 73) t66 t71) h17 fun t74 h18 =>
mg t74 false (fun o6 => o6 t65 h18) h18 fun t76 h19 =>
mg t74 false (fun o7 => bareK (xbin P .eql T.p_model_Model (.tmp 76) (.const (.pointer none)) t76 (.pointer none)) h19 o7) h19 fun t77 h20 =>
mg t74 false (fun o8 => o8 t71 h20) h20 fun t78 h21 =>
mg t74 false (fun o9 => bareK (xbin P .neq T.api_Errno (.tmp 78) (.const (.int .i64 0)) t78 (.int .i64 0)) h21 o9) h21 fun t79 h22 =>
mg t74 false (fun o10 => bareK (xbin P .neq T.bool (.tmp 77) (.tmp 79) t77 t79) h22 o10) h22 fun t80 h23 =>
pickK t74 (.bool true) t80 fun t81 =>
mg t81 false (fun o11 => o11 t61 h23) h23 fun t83 h24 =>
mg t81 false (fun o12 => o12 (get tT_1 0) h24) h24 fun t84 h25 =>
mg t81 false (fun o13 => enterK C F.ref24_Same [t83, t84] h25 o13) h25 fun t85 h26 =>
mg t81 false (fun o14 => bareK (xun P .not t85) h26 o14) h26 fun t86 h27 =>
pickK t81 (.bool true) t86 fun t87 =>
mc t87 (fun k15 => k15 .ret [(4, (.bool false))] h27) (fun k15 =>
k15 .normal [(1, (get tT_1 1)), (8, t61), (9, t65), (11, t70)] h27) (seqK (fun tT_2 h28 =>
ms (fun k16 =>
L2 (get tT_2 1) (get tT_2 8) (get tT_2 9) (get tT_2 11) (.int .i64 0) h28 (blkK [1, 9, 11] 4 k16)) (seqK (fun tT_3 h29 =>
enterK C F.model_Of [(get tT_3 1)] h29 fun t100 h30 =>
bareK (xextract t100 0) h30 fun t101 h31 =>
bareK (xextract t100 1) h31 fun t102 h32 =>
enterK C F.ref24_Of [(get tT_3 1)] h32 fun t105 h33 =>
bareK (xextract t105 0) h33 fun t106 h34 =>
bareK (xextract t105 1) h34 fun t107 h35 =>
bareK (xbin P .neq T.api_Errno (.tmp 108) (.tmp 109) t102 t107) h35 fun t110 h36 =>
mc t110 (fun k17 => k17 .ret [(4, (.bool false))] h36) (fun k17 =>
k17 .normal [(9, (get tT_3 9)), (11, (get tT_3 11)), (14, t101), (16, t106)] h36) (seqK (fun tT_4 h37 =>
bareK (xbin P .eql T.p_ticketlineref24_Model (.tmp 111) (.const (.pointer none)) (get tT_4 11) (.pointer none)) h37 fun t112 h38 =>
bareK (xbin P .eql T.p_ticketlineref24_Model (.tmp 113) (.const (.pointer none)) (get tT_4 16) (.pointer none)) h38 fun t114 h39 =>
bareK (xbin P .eql T.bool (.tmp 112) (.tmp 114) t112 t114) h39 fun t115 h40 =>
mg t115 true (fun o18 => o18 (get tT_4 11) h40) h40 fun t117 h41 =>
mg t115 true (fun o19 => bareK (xbin P .eql T.p_ticketlineref24_Model (.tmp 117) (.const (.pointer none)) t117 (.pointer none)) h41 o19) h41 fun t118 h42 =>
mg t115 true (fun o20 => o20 t118 h42) h42 fun t119 h43 =>
mg t119 false (fun o21 => o21 (get tT_4 16) h43) h43 fun t120 h44 =>
mg t119 false (fun o22 => bareK (xbin P .eql T.p_ticketlineref24_Model (.tmp 120) (.const (.pointer none)) t120 (.pointer none)) h44 o22) h44 fun t121 h45 =>
mg t115 true (fun o23 => pickK t119 (.bool true) t121 fun v => o23 v h45) h45 fun t122 h46 =>
mg t115 true (fun o24 => o24 t122 h46) h46 fun t123 h47 =>
mg t123 false (fun o25 => o25 (get tT_4 11) h47) h47 fun t124 h48 =>
mg t123 false (fun o26 => bareK (xnilCheck t124) h48 o26) h48 fun t125 h49 =>
mg t123 false (fun o27 => bareK (fad 0 t125) h49 o27) h49 fun t126 h50 =>
mg t123 false (fun o28 => bareK (ld1 h50 t126) h50 o28) h50 fun t127 h51 =>
mg t123 false (fun o29 => o29 (get tT_4 16) h51) h51 fun t128 h52 =>
mg t123 false (fun o30 => bareK (xnilCheck t128) h52 o30) h52 fun t129 h53 =>
mg t123 false (fun o31 => bareK (fad 0 t129) h53 o31) h53 fun t130 h54 =>
mg t123 false (fun o32 => bareK (ld1 h54 t130) h54 o32) h54 fun t131 h55 =>
mg t123 false (fun o33 => enterK C F.ref24_Same [t127, t131] h55 o33) h55 fun t132 h56 =>
mg t115 true (fun o34 => pickK t123 (.bool true) t132 fun v => o34 v h56) h56 fun t133 h57 =>
pickK t115 t133 (.bool false) fun t134 =>
checkK true <|
bareK (xbin P .eql T.p_ticketlineref24_Model (.tmp 135) (.const (.pointer none)) (get tT_4 11) (.pointer none)) h57 fun t136 h58 =>
mg t136 false (fun o35 => o35 (get tT_4 9) h58) h58 fun t138 h59 =>
mg t136 false (fun o36 => o36 (get tT_4 11) h59) h59 fun t139 h60 =>
mg t136 false (fun o37 => enterK C F.law_alike [t138, t139] h60 o37) h60 fun t140 h61 =>
pickK t136 (.bool true) t140 fun t141 =>
mg t141 true (fun o38 => o38 (get tT_4 9) h61) h61 fun t143 h62 =>
mg t141 true (fun o39 => o39 (get tT_4 14) h62) h62 fun t144 h63 =>
mg t141 true (fun o40 => enterK C F.model_Equal [t143, t144] h63 o40) h63 fun t145 h64 =>
mg t141 true (fun o41 => o41 t134 h64) h64 fun t146 h65 =>
mg t141 true (fun o42 => bareK (xbin P .eql T.bool (.tmp 145) (.tmp 146) t145 t146) h65 o42) h65 fun t147 h66 =>
pickK t141 t147 (.bool false) fun t148 =>
mg t148 true (fun o43 => o43 (get tT_4 14) h66) h66 fun t150 h67 =>
mg t148 true (fun o44 => o44 (get tT_4 9) h67) h67 fun t151 h68 =>
mg t148 true (fun o45 => enterK C F.model_Equal [t150, t151] h68 o45) h68 fun t152 h69 =>
mg t148 true (fun o46 => o46 t134 h69) h69 fun t153 h70 =>
mg t148 true (fun o47 => bareK (xbin P .eql T.bool (.tmp 152) (.tmp 153) t152 t153) h70 o47) h70 fun t154 h71 =>
pickK t148 t154 (.bool false) fun t155 =>
mg t155 true (fun o48 => enterK C F.law_known [] h71 o48) h71 fun t157 h72 =>
pickK t155 t157 (.bool false) fun t158 =>
K0 .ret [(4, t158)] h72) K0)) K0)) K0)) K0)) K0)

noncomputable def s_law_ModelOf_b0 (mg : GT) (mc : CT) (ms : ST) (P : Program) (C : CallF) (L0 : Value → Value → Value → Value → Value → AHeap → K → Res) (L1 : Value → Value → Value → Value → Value → Value → Value → AHeap → K → Res) (L2 : Value → Value → Value → Value → Value → AHeap → K → Res) (v0 : Value) (v1 : Value) (v30 : Value) (v31 : Value) (v32 : Value) (H : AHeap) (k : K) : Res :=
bareK (xbin P .lss T.int (.tmp 32) (.tmp 31) v32 v31) H fun t33 h10 =>
mc t33 (fun k6 => k6 .normal [(0, v0), (1, v1), (30, v30), (31, v31), (32, v32)] h10) (fun k6 =>
k6 (.exit 0) [(33, t33), (0, v0), (1, v1), (30, v30), (31, v31), (32, v32)] h10) (seqK (fun tT h11 =>
ms (fun k7 =>
bareK (ixS 1 (get tT 30) (get tT 32)) h11 fun t34 h12 =>
bareK (ld1 h12 t34) h12 fun t35 h13 =>
ms (fun k8 =>
L1 (get tT 0) (get tT 1) t35 (.int .i64 0) (get tT 30) (get tT 31) (get tT 32) h13 (blkK [0, 1, 30, 31, 32] 2 k8)) (blkK [0, 1, 30, 31, 32] 1 k7)) (seqK (fun tT_1 h14 =>
bareK (xbin P .add T.int (.tmp 32) (.const (.int .i64 1)) (get tT_1 32) (.int .i64 1)) h14 fun t59 h15 =>
k .normal [(0, (get tT_1 0)), (1, (get tT_1 1)), (30, (get tT_1 30)), (31, (get tT_1 31)), (32, t59)] h15) (afterK [0, 1, 30, 31, 32] k))) (afterK [0, 1, 30, 31, 32] k))

noncomputable def s_law_ModelOf_b1 (mg : GT) (mc : CT) (ms : ST) (P : Program) (C : CallF) (L0 : Value → Value → Value → Value → Value → AHeap → K → Res) (L1 : Value → Value → Value → Value → Value → Value → Value → AHeap → K → Res) (L2 : Value → Value → Value → Value → Value → AHeap → K → Res) (v0 : Value) (v1 : Value) (v6 : Value) (v7 : Value) (v30 : Value) (v31 : Value) (v32 : Value) (H : AHeap) (k : K) : Res :=
bareK (lenS v6) H fun t38 h14 =>
bareK (xbin P .lss T.int (.tmp 36) (.tmp 38) v7 t38) h14 fun t39 h15 =>
mc t39 (fun k9 => k9 .normal [(0, v0), (1, v1), (6, v6), (7, v7), (30, v30), (31, v31), (32, v32)] h15) (fun k9 =>
k9 (.exit 2) [(39, t39), (38, t38), (37, v6), (36, v7), (0, v0), (1, v1), (6, v6), (7, v7), (30, v30), (31, v31), (32, v32)] h15) (seqK (fun tT h16 =>
ms (fun k10 =>
bareK (ixS 2 (get tT 6) (get tT 7)) h16 fun t44 h17 =>
bareK (fad 0 t44) h17 fun t45 h18 =>
bareK (ld1 h18 t45) h18 fun t46 h19 =>
bareK (lenT t46) h19 fun t47 h20 =>
bareK (xbin P .gtr T.int (.tmp 47) (.const (.int .i64 60)) t47 (.int .i64 60)) h20 fun t48 h21 =>
mg t48 false (fun o11 => o11 (get tT 6) h21) h21 fun t50 h22 =>
mg t48 false (fun o12 => o12 (get tT 7) h22) h22 fun t51 h23 =>
mg t48 false (fun o13 => bareK (ixS 2 t50 t51) h23 o13) h23 fun t52 h24 =>
mg t48 false (fun o14 => bareK (fad 1 t52) h24 o14) h24 fun t53 h25 =>
mg t48 false (fun o15 => bareK (ld1 h25 t53) h25 o15) h25 fun t54 h26 =>
mg t48 false (fun o16 => bareK (lenT t54) h26 o16) h26 fun t55 h27 =>
mg t48 false (fun o17 => bareK (xbin P .gtr T.int (.tmp 55) (.const (.int .i64 60)) t55 (.int .i64 60)) h27 o17) h27 fun t56 h28 =>
pickK t48 (.bool true) t56 fun t57 =>
mc t57 (fun k18 => enterK C F.law_known [] h28 fun t58 h29 =>
k18 .ret [(4, t58)] h29) (fun k18 =>
k18 .normal [(0, (get tT 0)), (1, (get tT 1)), (6, (get tT 6)), (7, (get tT 7)), (30, (get tT 30)), (31, (get tT 31)), (32, (get tT 32))] h28) (blkK [0, 1, 6, 7, 30, 31, 32] 3 k10)) (seqK (fun tT_1 h30 =>
bareK (xbin P .add T.int (.tmp 40) (.const (.int .i64 1)) (get tT_1 7) (.int .i64 1)) h30 fun t41 h31 =>
k .normal [(0, (get tT_1 0)), (1, (get tT_1 1)), (6, (get tT_1 6)), (7, t41), (30, (get tT_1 30)), (31, (get tT_1 31)), (32, (get tT_1 32))] h31) (afterK [0, 1, 6, 7, 30, 31, 32] k))) (afterK [0, 1, 6, 7, 30, 31, 32] k))

noncomputable def s_law_ModelOf_b2 (mg : GT) (mc : CT) (ms : ST) (P : Program) (C : CallF) (L0 : Value → Value → Value → Value → Value → AHeap → K → Res) (L1 : Value → Value → Value → Value → Value → Value → Value → AHeap → K → Res) (L2 : Value → Value → Value → Value → Value → AHeap → K → Res) (v1 : Value) (v8 : Value) (v9 : Value) (v11 : Value) (v13 : Value) (H : AHeap) (k : K) : Res :=
bareK (lenS v8) H fun t90 h29 =>
bareK (xbin P .lss T.int (.tmp 88) (.tmp 90) v13 t90) h29 fun t91 h30 =>
mc t91 (fun k17 => k17 .normal [(1, v1), (8, v8), (9, v9), (11, v11), (13, v13)] h30) (fun k17 =>
k17 (.exit 4) [(91, t91), (90, t90), (89, v8), (88, v13), (1, v1), (8, v8), (9, v9), (11, v11), (13, v13)] h30) (seqK (fun tT h31 =>
ms (fun k18 =>
bareK (ixS 2 (get tT 8) (get tT 13)) h31 fun t96 h32 =>
bareK (fad 1 t96) h32 fun t97 h33 =>
quietK (st1 h33 t97 (.string (mk [111, 116, 104, 101, 114]))) fun _ h34 =>
k18 .normal [(1, (get tT 1)), (8, (get tT 8)), (9, (get tT 9)), (11, (get tT 11)), (13, (get tT 13))] h34) (seqK (fun tT_1 h35 =>
bareK (xbin P .add T.int (.tmp 92) (.const (.int .i64 1)) (get tT_1 13) (.int .i64 1)) h35 fun t93 h36 =>
k .normal [(1, (get tT_1 1)), (8, (get tT_1 8)), (9, (get tT_1 9)), (11, (get tT_1 11)), (13, t93)] h36) (afterK [1, 8, 9, 11, 13] k))) (afterK [1, 8, 9, 11, 13] k))

theorem s_law_ModelOf_eq (M : CombL) (C : CallF) (LP : LoopH) (a0 : Value) (a1 : Value) (H : AHeap) : dBodyL M Try.prog hints C LP F.law_ModelOf [a0, a1] H = s_law_ModelOf M.b.g M.c M.s Try.prog C (fun v0 v1 v30 v31 v32 H k => loopL M Try.prog hints C LP F.law_ModelOf 0 [(0, v0), (1, v1), (30, v30), (31, v31), (32, v32)] H k) (fun v0 v1 v6 v7 v30 v31 v32 H k => loopL M Try.prog hints C LP F.law_ModelOf 1 [(0, v0), (1, v1), (6, v6), (7, v7), (30, v30), (31, v31), (32, v32)] H k) (fun v1 v8 v9 v11 v13 H k => loopL M Try.prog hints C LP F.law_ModelOf 2 [(1, v1), (8, v8), (9, v9), (11, v11), (13, v13)] H k) a0 a1 H (endK Try.prog [.tmp 4]) := by kernel_rfl

theorem s_law_ModelOf_b0_eq (M : CombL) (C : CallF) (LP : LoopH) (v0 : Value) (v1 : Value) (v30 : Value) (v31 : Value) (v32 : Value) (H : AHeap) (k : K) : bodyL M Try.prog hints C LP F.law_ModelOf 0 [(0, v0), (1, v1), (30, v30), (31, v31), (32, v32)] H (afterK [0, 1, 30, 31, 32] k) = s_law_ModelOf_b0 M.b.g M.c M.s Try.prog C (fun v0 v1 v30 v31 v32 H k => loopL M Try.prog hints C LP F.law_ModelOf 0 [(0, v0), (1, v1), (30, v30), (31, v31), (32, v32)] H k) (fun v0 v1 v6 v7 v30 v31 v32 H k => loopL M Try.prog hints C LP F.law_ModelOf 1 [(0, v0), (1, v1), (6, v6), (7, v7), (30, v30), (31, v31), (32, v32)] H k) (fun v1 v8 v9 v11 v13 H k => loopL M Try.prog hints C LP F.law_ModelOf 2 [(1, v1), (8, v8), (9, v9), (11, v11), (13, v13)] H k) v0 v1 v30 v31 v32 H k := by kernel_rfl

theorem s_law_ModelOf_b1_eq (M : CombL) (C : CallF) (LP : LoopH) (v0 : Value) (v1 : Value) (v6 : Value) (v7 : Value) (v30 : Value) (v31 : Value) (v32 : Value) (H : AHeap) (k : K) : bodyL M Try.prog hints C LP F.law_ModelOf 1 [(0, v0), (1, v1), (6, v6), (7, v7), (30, v30), (31, v31), (32, v32)] H (afterK [0, 1, 6, 7, 30, 31, 32] k) = s_law_ModelOf_b1 M.b.g M.c M.s Try.prog C (fun v0 v1 v30 v31 v32 H k => loopL M Try.prog hints C LP F.law_ModelOf 0 [(0, v0), (1, v1), (30, v30), (31, v31), (32, v32)] H k) (fun v0 v1 v6 v7 v30 v31 v32 H k => loopL M Try.prog hints C LP F.law_ModelOf 1 [(0, v0), (1, v1), (6, v6), (7, v7), (30, v30), (31, v31), (32, v32)] H k) (fun v1 v8 v9 v11 v13 H k => loopL M Try.prog hints C LP F.law_ModelOf 2 [(1, v1), (8, v8), (9, v9), (11, v11), (13, v13)] H k) v0 v1 v6 v7 v30 v31 v32 H k := by kernel_rfl

theorem s_law_ModelOf_b2_eq (M : CombL) (C : CallF) (LP : LoopH) (v1 : Value) (v8 : Value) (v9 : Value) (v11 : Value) (v13 : Value) (H : AHeap) (k : K) : bodyL M Try.prog hints C LP F.law_ModelOf 2 [(1, v1), (8, v8), (9, v9), (11, v11), (13, v13)] H (afterK [1, 8, 9, 11, 13] k) = s_law_ModelOf_b2 M.b.g M.c M.s Try.prog C (fun v0 v1 v30 v31 v32 H k => loopL M Try.prog hints C LP F.law_ModelOf 0 [(0, v0), (1, v1), (30, v30), (31, v31), (32, v32)] H k) (fun v0 v1 v6 v7 v30 v31 v32 H k => loopL M Try.prog hints C LP F.law_ModelOf 1 [(0, v0), (1, v1), (6, v6), (7, v7), (30, v30), (31, v31), (32, v32)] H k) (fun v1 v8 v9 v11 v13 H k => loopL M Try.prog hints C LP F.law_ModelOf 2 [(1, v1), (8, v8), (9, v9), (11, v11), (13, v13)] H k) v1 v8 v9 v11 v13 H k := by kernel_rfl

end Go.Proofs.Ytlagijfkkpbbnaa
