/-
  The seat's functions as terms over the engine's combinators (a program of ours printed it).
  Conditions: none. By an AI agent.
-/
import Derived.Test.YtlagijfkkpbbnaaNames
import Derived.Test.YtlagijfkkpbbnaaEng22
import Derived.Test.YtlagijfkkpbbnaaHints
import Derived.Test.YtlagijfkkpbbnaaChecked
import Derived.KernelRfl
set_option linter.unusedVariables false
namespace Go.Proofs.Ytlagijfkkpbbnaa
open Go Eng

/-! ticketline.ticketlinelaw24.ModelHolds -/

noncomputable def s_law_ModelHolds (mg : GT) (mc : CT) (ms : ST) (P : Program) (C : CallF) (L0 : Value → Value → Value → Value → Value → Value → Value → AHeap → K → Res) (L1 : Value → Value → Value → Value → Value → AHeap → K → Res) (a0 : Value) (a1 : Value) (a2 : Value) (H : AHeap) (K0 : K) : Res :=
bareK (lenS a0) H fun t20 h1 =>
bareK (xbin P .gtr T.int (.tmp 20) (.const (.int .i64 30)) t20 (.int .i64 30)) h1 fun t21 h2 =>
mg t21 false (fun o1 => o1 a1 h2) h2 fun t23 h3 =>
mg t21 false (fun o2 => bareK (lenT t23) h3 o2) h3 fun t24 h4 =>
mg t21 false (fun o3 => bareK (xbin P .lss T.int (.tmp 24) (.const (.int .i64 1)) t24 (.int .i64 1)) h4 o3) h4 fun t25 h5 =>
pickK t21 (.bool true) t25 fun t26 =>
mg t26 false (fun o4 => o4 a1 h5) h5 fun t28 h6 =>
mg t26 false (fun o5 => bareK (lenT t28) h6 o5) h6 fun t29 h7 =>
mg t26 false (fun o6 => bareK (xbin P .gtr T.int (.tmp 29) (.const (.int .i64 24)) t29 (.int .i64 24)) h7 o6) h7 fun t30 h8 =>
pickK t26 (.bool true) t30 fun t31 =>
mc t31 (fun k7 => enterK C F.law_known [] h8 fun t32 h9 =>
k7 .ret [(6, t32)] h9) (fun k7 =>
k7 .normal [(0, a0), (1, a1), (2, a2)] h8) (seqK (fun tT h10 =>
bareK (bldS #[(.slice none 0 0)] [(0, 1)] []) h10 fun t33 h11 =>
bothK (newv T.model_Model t33 h11) fun t34 h12 =>
ms (fun k8 =>
L0 (get tT 0) (get tT 1) (get tT 2) t34 (.bool false) (.string (mk [])) (.int .i64 0) h12 (blkK [2, 7] 0 k8)) (seqK (fun tT_1 h13 =>
enterK C F.model_Model_Pairs [(get tT_1 7)] h13 fun t118 h14 =>
enterK C F.model_Of [t118] h14 fun t121 h15 =>
bareK (xextract t121 0) h15 fun t122 h16 =>
bareK (xextract t121 1) h16 fun t123 h17 =>
bareK (xbin P .eql T.p_model_Model (.tmp 124) (.const (.pointer none)) t122 (.pointer none)) h17 fun t125 h18 =>
mg t125 false (fun o9 => o9 t123 h18) h18 fun t127 h19 =>
mg t125 false (fun o10 => bareK (xbin P .neq T.api_Errno (.tmp 127) (.const (.int .i64 0)) t127 (.int .i64 0)) h19 o10) h19 fun t128 h20 =>
pickK t125 (.bool true) t128 fun t129 =>
mg t129 false (fun o11 => o11 t122 h20) h20 fun t131 h21 =>
mg t129 false (fun o12 => o12 (get tT_1 7) h21) h21 fun t132 h22 =>
mg t129 false (fun o13 => enterK C F.model_Equal [t131, t132] h22 o13) h22 fun t133 h23 =>
mg t129 false (fun o14 => bareK (xun P .not t133) h23 o14) h23 fun t134 h24 =>
pickK t129 (.bool true) t134 fun t135 =>
mg t135 false (fun o15 => o15 t118 h24) h24 fun t137 h25 =>
mg t135 false (fun o16 => bareK (lenS t137) h25 o16) h25 fun t138 h26 =>
mg t135 false (fun o17 => o17 (get tT_1 7) h26) h26 fun t139 h27 =>
mg t135 false (fun o18 => enterK C F.model_Model_Len [t139] h27 o18) h27 fun t140 h28 =>
mg t135 false (fun o19 => bareK (xbin P .neq T.int (.tmp 138) (.tmp 140) t138 t140) h28 o19) h28 fun t141 h29 =>
pickK t135 (.bool true) t141 fun t142 =>
mc t142 (fun k20 => k20 .ret [(6, (.bool false))] h29) (fun k20 =>
k20 .normal [(2, (get tT_1 2)), (7, (get tT_1 7)), (13, t118)] h29) (seqK (fun tT_2 h30 =>
bareK (bldS #[(.slice none 0 0)] [(0, 1)] []) h30 fun t143 h31 =>
bothK (newv T.model_Model t143 h31) fun t144 h32 =>
ms (fun k21 =>
L1 (get tT_2 2) (get tT_2 7) (get tT_2 13) t144 (.int .i64 0) h32 (blkK [7, 13, 16] 3 k21)) (seqK (fun tT_3 h33 =>
enterK C F.model_Equal [(get tT_3 16), (get tT_3 7)] h33 fun t170 h34 =>
mg t170 true (fun o22 => o22 (get tT_3 7) h34) h34 fun t172 h35 =>
mg t170 true (fun o23 => o23 (get tT_3 13) h35) h35 fun t173 h36 =>
mg t170 true (fun o24 => o24 (get tT_3 13) h36) h36 fun t174 h37 =>
mg t170 true (fun o25 => bareK (lenS t174) h37 o25) h37 fun t175 h38 =>
mg t170 true (fun o26 => nextK C h38 (xbuiltin P .min [T.int, T.int] [(.int .i64 32), t175] h38) o26) h38 fun t176 h39 =>
mg t170 true (fun o27 => bareK (slS T.api_Pair 2 t173 none (some t176) none h39) h39 o27) h39 fun t177 h40 =>
mg t170 true (fun o28 => enterK C F.law_ranges [t172, (.string (mk [])), (.string (mk [])), (.int .i64 32), t177, (.int .i64 0)] h40 o28) h40 fun t178 h41 =>
pickK t170 t178 (.bool false) fun t179 =>
mg t179 true (fun o29 => enterK C F.law_known [] h41 o29) h41 fun t181 h42 =>
pickK t179 t181 (.bool false) fun t182 =>
K0 .ret [(6, t182)] h42) K0)) K0)) K0)) K0)

noncomputable def s_law_ModelHolds_b0 (mg : GT) (mc : CT) (ms : ST) (P : Program) (C : CallF) (L0 : Value → Value → Value → Value → Value → Value → Value → AHeap → K → Res) (L1 : Value → Value → Value → Value → Value → AHeap → K → Res) (v0 : Value) (v1 : Value) (v2 : Value) (v7 : Value) (v8 : Value) (v9 : Value) (v10 : Value) (H : AHeap) (k : K) : Res :=
bareK (lenS v0) H fun t37 h13 =>
bareK (xbin P .lss T.int (.tmp 35) (.tmp 37) v10 t37) h13 fun t38 h14 =>
mc t38 (fun k9 => k9 .normal [(0, v0), (1, v1), (2, v2), (7, v7), (8, v8), (9, v9), (10, v10)] h14) (fun k9 =>
k9 (.exit 0) [(38, t38), (37, t37), (36, v0), (35, v10), (0, v0), (1, v1), (2, v2), (7, v7), (8, v8), (9, v9), (10, v10)] h14) (seqK (fun tT h15 =>
ms (fun k10 =>
bareK (ixS 5 (get tT 0) (get tT 10)) h15 fun t43 h16 =>
bareK (ldN 5 h16 t43) h16 fun t44 h17 =>
bothK (newv T.law_Act (.agg #[(.int .i64 0), (.string (mk [])), (.string (mk [])), (.string (mk [])), (.int .i64 0)]) h17) fun t11 h18 =>
quietK (stN 5 h18 t11 t44) fun _ h19 =>
bareK (ldN 5 h19 t11) h19 fun t45 h20 =>
enterK C F.law_short [t45] h20 fun t46 h21 =>
bareK (xun P .not t46) h21 fun t47 h22 =>
mc t47 (fun k11 => enterK C F.law_known [] h22 fun t48 h23 =>
k11 .ret [(6, t48)] h23) (fun k11 =>
k11 .normal [(0, (get tT 0)), (1, (get tT 1)), (2, (get tT 2)), (7, (get tT 7)), (8, (get tT 8)), (9, (get tT 9)), (10, (get tT 10)), (11, t11)] h22) (seqK (fun tT_1 h24 =>
bareK (fad 0 (get tT_1 11)) h24 fun t49 h25 =>
bareK (ld1 h25 t49) h25 fun t50 h26 =>
ms (fun k12 =>
bareK (xbin P .eql T.int (.tmp 50) (.const (.int .i64 1)) t50 (.int .i64 1)) h26 fun t52 h27 =>
mc t52 (fun k13 => bareK (fad 1 (get tT_1 11)) h27 fun t54 h28 =>
bareK (ld1 h28 t54) h28 fun t55 h29 =>
bareK (fad 2 (get tT_1 11)) h29 fun t56 h30 =>
bareK (ld1 h30 t56) h30 fun t57 h31 =>
enterK C F.model_Model_Put [(get tT_1 7), t55, t57] h31 fun t58 h32 =>
k13 .normal [(0, (get tT_1 0)), (1, (get tT_1 1)), (2, (get tT_1 2)), (7, (get tT_1 7)), (8, (get tT_1 8)), (9, (get tT_1 9)), (10, (get tT_1 10)), (11, (get tT_1 11)), (12, t58)] h32) (fun k13 =>
bareK (xbin P .eql T.int (.tmp 50) (.const (.int .i64 2)) t50 (.int .i64 2)) h27 fun t60 h33 =>
mc t60 (fun k14 => bareK (fad 1 (get tT_1 11)) h33 fun t62 h34 =>
bareK (ld1 h34 t62) h34 fun t63 h35 =>
bareK (fad 2 (get tT_1 11)) h35 fun t64 h36 =>
bareK (ld1 h36 t64) h36 fun t65 h37 =>
enterK C F.model_Model_Insert [(get tT_1 7), t63, t65] h37 fun t66 h38 =>
k14 .normal [(0, (get tT_1 0)), (1, (get tT_1 1)), (2, (get tT_1 2)), (7, (get tT_1 7)), (8, (get tT_1 8)), (9, (get tT_1 9)), (10, (get tT_1 10)), (11, (get tT_1 11)), (12, t66)] h38) (fun k14 =>
bareK (xbin P .eql T.int (.tmp 50) (.const (.int .i64 3)) t50 (.int .i64 3)) h33 fun t68 h39 =>
mc t68 (fun k15 => bareK (fad 1 (get tT_1 11)) h39 fun t71 h40 =>
bareK (ld1 h40 t71) h40 fun t72 h41 =>
enterK C F.model_Model_Delete [(get tT_1 7), t72] h41 fun t73 h42 =>
bareK (xextract t73 0) h42 fun t74 h43 =>
bareK (xextract t73 1) h43 fun t75 h44 =>
k15 .normal [(0, (get tT_1 0)), (1, (get tT_1 1)), (2, (get tT_1 2)), (7, (get tT_1 7)), (8, (get tT_1 8)), (9, (get tT_1 9)), (10, (get tT_1 10)), (11, (get tT_1 11)), (12, t75)] h44) (fun k15 =>
bareK (xbin P .eql T.int (.tmp 50) (.const (.int .i64 4)) t50 (.int .i64 4)) h39 fun t77 h45 =>
mc t77 (fun k16 => bareK (fad 1 (get tT_1 11)) h45 fun t79 h46 =>
bareK (ld1 h46 t79) h46 fun t80 h47 =>
bareK (fad 3 (get tT_1 11)) h47 fun t81 h48 =>
bareK (ld1 h48 t81) h48 fun t82 h49 =>
bareK (fad 2 (get tT_1 11)) h49 fun t83 h50 =>
bareK (ld1 h50 t83) h50 fun t84 h51 =>
enterK C F.model_Model_Swap [(get tT_1 7), t80, t82, t84] h51 fun t85 h52 =>
k16 .normal [(0, (get tT_1 0)), (1, (get tT_1 1)), (2, (get tT_1 2)), (7, (get tT_1 7)), (8, (get tT_1 8)), (9, (get tT_1 9)), (10, (get tT_1 10)), (11, (get tT_1 11)), (12, t85)] h52) (fun k16 =>
k16 (.exit 1) ((76, t77) :: (77, t77) :: (67, t68) :: (68, t68) :: (59, t60) :: (60, t60) :: (51, t52) :: (52, t52) :: (50, t50) :: (49, t49) :: (12, (.int .i64 0)) :: tT_1) h45) (afterK [0, 1, 2, 7, 8, 9, 10, 11, 12] k15)) (afterK [0, 1, 2, 7, 8, 9, 10, 11, 12] k14)) (afterK [0, 1, 2, 7, 8, 9, 10, 11, 12] k13)) (blkK [0, 1, 2, 7, 8, 9, 10, 11, 12] 2 k12)) (seqK (fun tT_2 h53 =>
bareK (fad 1 (get tT_2 11)) h53 fun t86 h54 =>
bareK (ld1 h54 t86) h54 fun t87 h55 =>
bareK (xbin P .eql T.string (.tmp 87) (.tmp 88) t87 (get tT_2 1)) h55 fun t89 h56 =>
mg t89 true (fun o17 => o17 (get tT_2 12) h56) h56 fun t91 h57 =>
mg t89 true (fun o18 => bareK (xbin P .eql T.api_Errno (.tmp 91) (.const (.int .i64 0)) t91 (.int .i64 0)) h57 o18) h57 fun t92 h58 =>
pickK t89 t92 (.bool false) fun t93 =>
mc t93 (fun k19 => bareK (fad 0 (get tT_2 11)) h58 fun t94 h59 =>
bareK (ld1 h59 t94) h59 fun t95 h60 =>
bareK (xbin P .neq T.int (.tmp 95) (.const (.int .i64 3)) t95 (.int .i64 3)) h60 fun t96 h61 =>
bareK (fad 2 (get tT_2 11)) h61 fun t97 h62 =>
bareK (ld1 h62 t97) h62 fun t98 h63 =>
checkK true <|
k19 .normal [(0, (get tT_2 0)), (1, (get tT_2 1)), (2, (get tT_2 2)), (7, (get tT_2 7)), (8, t96), (9, t98), (10, (get tT_2 10))] h63) (fun k19 =>
k19 .normal [(0, (get tT_2 0)), (1, (get tT_2 1)), (2, (get tT_2 2)), (7, (get tT_2 7)), (8, (get tT_2 8)), (9, (get tT_2 9)), (10, (get tT_2 10))] h58) (seqK (fun tT_3 h64 =>
mg (get tT_3 8) true (fun o20 => o20 (get tT_3 7) h64) h64 fun t101 h65 =>
mg (get tT_3 8) true (fun o21 => o21 (get tT_3 1) h65) h65 fun t102 h66 =>
mg (get tT_3 8) true (fun o22 => o22 (get tT_3 9) h66) h66 fun t103 h67 =>
mg (get tT_3 8) true (fun o23 => enterK C F.law_gets [t101, t102, t103, (.int .i64 0)] h67 o23) h67 fun t104 h68 =>
mg (get tT_3 8) true (fun o24 => bareK (xun P .not t104) h68 o24) h68 fun t105 h69 =>
pickK (get tT_3 8) t105 (.bool false) fun t106 =>
mg t106 false (fun o25 => o25 (get tT_3 8) h69) h69 fun t108 h70 =>
mg t106 false (fun o26 => bareK (xun P .not t108) h70 o26) h70 fun t109 h71 =>
mg t106 false (fun o27 => o27 t109 h71) h71 fun t110 h72 =>
mg t110 true (fun o28 => o28 (get tT_3 7) h72) h72 fun t111 h73 =>
mg t110 true (fun o29 => o29 (get tT_3 1) h73) h73 fun t112 h74 =>
mg t110 true (fun o30 => enterK C F.law_gets [t111, t112, (.string (mk [])), (.int .i64 9)] h74 o30) h74 fun t113 h75 =>
mg t110 true (fun o31 => bareK (xun P .not t113) h75 o31) h75 fun t114 h76 =>
mg t106 false (fun o32 => pickK t110 t114 (.bool false) fun v => o32 v h76) h76 fun t115 h77 =>
pickK t106 (.bool true) t115 fun t116 =>
mc t116 (fun k33 => k33 .ret [(6, (.bool false))] h77) (fun k33 =>
k33 .normal [(0, (get tT_3 0)), (1, (get tT_3 1)), (2, (get tT_3 2)), (7, (get tT_3 7)), (8, (get tT_3 8)), (9, (get tT_3 9)), (10, (get tT_3 10))] h77) (blkK [0, 1, 2, 7, 8, 9, 10] 1 k10)) (blkK [0, 1, 2, 7, 8, 9, 10] 1 k10))) (blkK [0, 1, 2, 7, 8, 9, 10] 1 k10))) (blkK [0, 1, 2, 7, 8, 9, 10] 1 k10))) (seqK (fun tT_4 h78 =>
bareK (xbin P .add T.int (.tmp 39) (.const (.int .i64 1)) (get tT_4 10) (.int .i64 1)) h78 fun t40 h79 =>
k .normal [(0, (get tT_4 0)), (1, (get tT_4 1)), (2, (get tT_4 2)), (7, (get tT_4 7)), (8, (get tT_4 8)), (9, (get tT_4 9)), (10, t40)] h79) (afterK [0, 1, 2, 7, 8, 9, 10] k))) (afterK [0, 1, 2, 7, 8, 9, 10] k))

noncomputable def s_law_ModelHolds_b1 (mg : GT) (mc : CT) (ms : ST) (P : Program) (C : CallF) (L0 : Value → Value → Value → Value → Value → Value → Value → AHeap → K → Res) (L1 : Value → Value → Value → Value → Value → AHeap → K → Res) (v2 : Value) (v7 : Value) (v13 : Value) (v16 : Value) (v17 : Value) (H : AHeap) (k : K) : Res :=
bareK (lenS v13) H fun t147 h33 =>
bareK (xbin P .lss T.int (.tmp 145) (.tmp 147) v17 t147) h33 fun t148 h34 =>
mc t148 (fun k22 => k22 .normal [(2, v2), (7, v7), (13, v13), (16, v16), (17, v17)] h34) (fun k22 =>
k22 (.exit 3) [(148, t148), (147, t147), (146, v13), (145, v17), (2, v2), (7, v7), (13, v13), (16, v16), (17, v17)] h34) (seqK (fun tT h35 =>
ms (fun k23 =>
bothK (xconv P T.uint8 T.int (get tT 2) h35) fun t154 h36 =>
bareK (xbin P .add T.int (.tmp 152) (.tmp 154) (get tT 17) t154) h36 fun t155 h37 =>
bareK (lenS (get tT 13)) h37 fun t157 h38 =>
bareK (xbin P .rem T.int (.tmp 155) (.tmp 157) t155 t157) h38 fun t158 h39 =>
bareK (ixS 2 (get tT 13) t158) h39 fun t159 h40 =>
bareK (ldN 2 h40 t159) h40 fun t160 h41 =>
bothK (newv T.api_Pair (.agg #[(.string (mk [])), (.string (mk []))]) h41) fun t18 h42 =>
quietK (stN 2 h42 t18 t160) fun _ h43 =>
bareK (fad 0 t18) h43 fun t162 h44 =>
bareK (ld1 h44 t162) h44 fun t163 h45 =>
bareK (fad 1 t18) h45 fun t164 h46 =>
bareK (ld1 h46 t164) h46 fun t165 h47 =>
enterK C F.model_Model_Insert [(get tT 16), t163, t165] h47 fun t166 h48 =>
bareK (xbin P .neq T.api_Errno (.tmp 166) (.const (.int .i64 0)) t166 (.int .i64 0)) h48 fun t167 h49 =>
mc t167 (fun k24 => k24 .ret [(6, (.bool false))] h49) (fun k24 =>
k24 .normal [(2, (get tT 2)), (7, (get tT 7)), (13, (get tT 13)), (16, (get tT 16)), (17, (get tT 17))] h49) (blkK [2, 7, 13, 16, 17] 4 k23)) (seqK (fun tT_1 h50 =>
bareK (xbin P .add T.int (.tmp 149) (.const (.int .i64 1)) (get tT_1 17) (.int .i64 1)) h50 fun t150 h51 =>
k .normal [(2, (get tT_1 2)), (7, (get tT_1 7)), (13, (get tT_1 13)), (16, (get tT_1 16)), (17, t150)] h51) (afterK [2, 7, 13, 16, 17] k))) (afterK [2, 7, 13, 16, 17] k))

theorem s_law_ModelHolds_eq (M : CombL) (C : CallF) (LP : LoopH) (a0 : Value) (a1 : Value) (a2 : Value) (H : AHeap) : dBodyL M Try.prog hints C LP F.law_ModelHolds [a0, a1, a2] H = s_law_ModelHolds M.b.g M.c M.s Try.prog C (fun v0 v1 v2 v7 v8 v9 v10 H k => loopL M Try.prog hints C LP F.law_ModelHolds 0 [(0, v0), (1, v1), (2, v2), (7, v7), (8, v8), (9, v9), (10, v10)] H k) (fun v2 v7 v13 v16 v17 H k => loopL M Try.prog hints C LP F.law_ModelHolds 1 [(2, v2), (7, v7), (13, v13), (16, v16), (17, v17)] H k) a0 a1 a2 H (endK Try.prog [.tmp 6]) := by kernel_rfl

theorem s_law_ModelHolds_b0_eq (M : CombL) (C : CallF) (LP : LoopH) (v0 : Value) (v1 : Value) (v2 : Value) (v7 : Value) (v8 : Value) (v9 : Value) (v10 : Value) (H : AHeap) (k : K) : bodyL M Try.prog hints C LP F.law_ModelHolds 0 [(0, v0), (1, v1), (2, v2), (7, v7), (8, v8), (9, v9), (10, v10)] H (afterK [0, 1, 2, 7, 8, 9, 10] k) = s_law_ModelHolds_b0 M.b.g M.c M.s Try.prog C (fun v0 v1 v2 v7 v8 v9 v10 H k => loopL M Try.prog hints C LP F.law_ModelHolds 0 [(0, v0), (1, v1), (2, v2), (7, v7), (8, v8), (9, v9), (10, v10)] H k) (fun v2 v7 v13 v16 v17 H k => loopL M Try.prog hints C LP F.law_ModelHolds 1 [(2, v2), (7, v7), (13, v13), (16, v16), (17, v17)] H k) v0 v1 v2 v7 v8 v9 v10 H k := by kernel_rfl

theorem s_law_ModelHolds_b1_eq (M : CombL) (C : CallF) (LP : LoopH) (v2 : Value) (v7 : Value) (v13 : Value) (v16 : Value) (v17 : Value) (H : AHeap) (k : K) : bodyL M Try.prog hints C LP F.law_ModelHolds 1 [(2, v2), (7, v7), (13, v13), (16, v16), (17, v17)] H (afterK [2, 7, 13, 16, 17] k) = s_law_ModelHolds_b1 M.b.g M.c M.s Try.prog C (fun v0 v1 v2 v7 v8 v9 v10 H k => loopL M Try.prog hints C LP F.law_ModelHolds 0 [(0, v0), (1, v1), (2, v2), (7, v7), (8, v8), (9, v9), (10, v10)] H k) (fun v2 v7 v13 v16 v17 H k => loopL M Try.prog hints C LP F.law_ModelHolds 1 [(2, v2), (7, v7), (13, v13), (16, v16), (17, v17)] H k) v2 v7 v13 v16 v17 H k := by kernel_rfl

end Go.Proofs.Ytlagijfkkpbbnaa
