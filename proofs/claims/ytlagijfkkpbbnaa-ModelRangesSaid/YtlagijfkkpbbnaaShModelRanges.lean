/-
  The seat's functions as terms over the engine's combinators (a program of ours printed it).
  Conditions: none. By an AI agent.
-/
import Derived.Test.YtlagijfkkpbbnaaNames
import Derived.Test.YtlagijfkkpbbnaaEng22
import Derived.Test.YtlagijfkkpbbnaaHints
import Derived.Test.YtlagijfkkpbbnaaChecked
import Derived.KernelRfl
set_option linter.unusedVariables false
namespace Go.Proofs.Ytlagijfkkpbbnaa
open Go Eng

/-! ticketline.ticketlinelaw24.ModelRanges -/

noncomputable def s_law_ModelRanges (mg : GT) (mc : CT) (ms : ST) (P : Program) (C : CallF) (L0 : Value → Value → Value → Value → Value → Value → AHeap → K → Res) (L1 : Value → Value → Value → Value → Value → AHeap → K → Res) (a0 : Value) (a1 : Value) (a2 : Value) (H : AHeap) (K0 : K) : Res :=
bareK (lenS a0) H fun t14 h1 =>
bareK (xbin P .gtr T.int (.tmp 14) (.const (.int .i64 40)) t14 (.int .i64 40)) h1 fun t15 h2 =>
mg t15 false (fun o1 => o1 a1 h2) h2 fun t17 h3 =>
mg t15 false (fun o2 => bareK (lenT t17) h3 o2) h3 fun t18 h4 =>
mg t15 false (fun o3 => bareK (xbin P .gtr T.int (.tmp 18) (.const (.int .i64 60)) t18 (.int .i64 60)) h4 o3) h4 fun t19 h5 =>
pickK t15 (.bool true) t19 fun t20 =>
mg t20 false (fun o4 => o4 a2 h5) h5 fun t22 h6 =>
mg t20 false (fun o5 => bareK (lenT t22) h6 o5) h6 fun t23 h7 =>
mg t20 false (fun o6 => bareK (xbin P .gtr T.int (.tmp 23) (.const (.int .i64 60)) t23 (.int .i64 60)) h7 o6) h7 fun t24 h8 =>
pickK t20 (.bool true) t24 fun t25 =>
mc t25 (fun k7 => enterK C F.law_known [] h8 fun t26 h9 =>
k7 .ret [(6, t26)] h9) (fun k7 =>
k7 .normal [(0, a0), (1, a1), (2, a2)] h8) (seqK (fun tT h10 =>
bareK (bldS #[(.slice none 0 0)] [(0, 1)] []) h10 fun t27 h11 =>
bothK (newv T.model_Model t27 h11) fun t28 h12 =>
bareK (bldS #[(.slice none 0 0)] [(0, 1)] []) h12 fun t29 h13 =>
bothK (newv T.ref24_Model t29 h13) fun t30 h14 =>
ms (fun k8 =>
L0 (get tT 0) (get tT 1) (get tT 2) t28 t30 (.int .i64 0) h14 (blkK [1, 2, 7, 8] 0 k8)) (seqK (fun tT_1 h15 =>
ms (fun k9 =>
L1 (get tT_1 1) (get tT_1 2) (get tT_1 7) (get tT_1 8) (.int .i64 0) h15 (blkK [] 2 k9)) (seqK (fun tT_2 h16 =>
enterK C F.law_known [] h16 fun t100 h17 =>
K0 .ret [(6, t100)] h17) K0)) K0)) K0)

noncomputable def s_law_ModelRanges_b0 (mg : GT) (mc : CT) (ms : ST) (P : Program) (C : CallF) (L0 : Value → Value → Value → Value → Value → Value → AHeap → K → Res) (L1 : Value → Value → Value → Value → Value → AHeap → K → Res) (v0 : Value) (v1 : Value) (v2 : Value) (v7 : Value) (v8 : Value) (v9 : Value) (H : AHeap) (k : K) : Res :=
bareK (lenS v0) H fun t33 h15 =>
bareK (xbin P .lss T.int (.tmp 31) (.tmp 33) v9 t33) h15 fun t34 h16 =>
mc t34 (fun k9 => k9 .normal [(0, v0), (1, v1), (2, v2), (7, v7), (8, v8), (9, v9)] h16) (fun k9 =>
k9 (.exit 0) [(34, t34), (33, t33), (32, v0), (31, v9), (0, v0), (1, v1), (2, v2), (7, v7), (8, v8), (9, v9)] h16) (seqK (fun tT h17 =>
ms (fun k10 =>
bareK (ixS 2 (get tT 0) (get tT 9)) h17 fun t39 h18 =>
bareK (fad 0 t39) h18 fun t40 h19 =>
bareK (ld1 h19 t40) h19 fun t41 h20 =>
bareK (lenT t41) h20 fun t42 h21 =>
bareK (xbin P .leq T.int (.tmp 42) (.const (.int .i64 60)) t42 (.int .i64 60)) h21 fun t43 h22 =>
mg t43 true (fun o11 => o11 (get tT 0) h22) h22 fun t45 h23 =>
mg t43 true (fun o12 => o12 (get tT 9) h23) h23 fun t46 h24 =>
mg t43 true (fun o13 => bareK (ixS 2 t45 t46) h24 o13) h24 fun t47 h25 =>
mg t43 true (fun o14 => bareK (fad 1 t47) h25 o14) h25 fun t48 h26 =>
mg t43 true (fun o15 => bareK (ld1 h26 t48) h26 o15) h26 fun t49 h27 =>
mg t43 true (fun o16 => bareK (lenT t49) h27 o16) h27 fun t50 h28 =>
mg t43 true (fun o17 => bareK (xbin P .leq T.int (.tmp 50) (.const (.int .i64 60)) t50 (.int .i64 60)) h28 o17) h28 fun t51 h29 =>
pickK t43 t51 (.bool false) fun t52 =>
mg t52 true (fun o18 => o18 (get tT 7) h29) h29 fun t54 h30 =>
mg t52 true (fun o19 => o19 (get tT 0) h30) h30 fun t55 h31 =>
mg t52 true (fun o20 => o20 (get tT 9) h31) h31 fun t56 h32 =>
mg t52 true (fun o21 => bareK (ixS 2 t55 t56) h32 o21) h32 fun t57 h33 =>
mg t52 true (fun o22 => bareK (fad 0 t57) h33 o22) h33 fun t58 h34 =>
mg t52 true (fun o23 => bareK (ld1 h34 t58) h34 o23) h34 fun t59 h35 =>
mg t52 true (fun o24 => o24 (get tT 0) h35) h35 fun t60 h36 =>
mg t52 true (fun o25 => o25 (get tT 9) h36) h36 fun t61 h37 =>
mg t52 true (fun o26 => bareK (ixS 2 t60 t61) h37 o26) h37 fun t62 h38 =>
mg t52 true (fun o27 => bareK (fad 1 t62) h38 o27) h38 fun t63 h39 =>
mg t52 true (fun o28 => bareK (ld1 h39 t63) h39 o28) h39 fun t64 h40 =>
mg t52 true (fun o29 => enterK C F.model_Model_Put [t54, t59, t64] h40 o29) h40 fun t65 h41 =>
mg t52 true (fun o30 => o30 (get tT 8) h41) h41 fun t66 h42 =>
mg t52 true (fun o31 => o31 (get tT 0) h42) h42 fun t67 h43 =>
mg t52 true (fun o32 => o32 (get tT 9) h43) h43 fun t68 h44 =>
mg t52 true (fun o33 => bareK (ixS 2 t67 t68) h44 o33) h44 fun t69 h45 =>
mg t52 true (fun o34 => bareK (fad 0 t69) h45 o34) h45 fun t70 h46 =>
mg t52 true (fun o35 => bareK (ld1 h46 t70) h46 o35) h46 fun t71 h47 =>
mg t52 true (fun o36 => o36 (get tT 0) h47) h47 fun t72 h48 =>
mg t52 true (fun o37 => o37 (get tT 9) h48) h48 fun t73 h49 =>
mg t52 true (fun o38 => bareK (ixS 2 t72 t73) h49 o38) h49 fun t74 h50 =>
mg t52 true (fun o39 => bareK (fad 1 t74) h50 o39) h50 fun t75 h51 =>
mg t52 true (fun o40 => bareK (ld1 h51 t75) h51 o40) h51 fun t76 h52 =>
mg t52 true (fun o41 => enterK C F.ref24_Model_Put [t66, t71, t76] h52 o41) h52 fun t77 h53 =>
mg t52 true (fun o42 => bareK (xbin P .neq T.api_Errno (.tmp 65) (.tmp 77) t65 t77) h53 o42) h53 fun t78 h54 =>
pickK t52 t78 (.bool false) fun t79 =>
checkK (okV (goesV t52 true) none h40 h41 h41 h42 && (okV (goesV t52 true) none h40 h41 h42 h43 && (okV (goesV t52 true) none h40 h41 h43 h44 && (okV (goesV t52 true) none h40 h41 h44 h45 && (okV (goesV t52 true) none h40 h41 h45 h46 && (okV (goesV t52 true) (blockOf t70) h40 h41 h46 h47 && (okV (goesV t52 true) none h40 h41 h47 h48 && (okV (goesV t52 true) none h40 h41 h48 h49 && (okV (goesV t52 true) none h40 h41 h49 h50 && (okV (goesV t52 true) none h40 h41 h50 h51 && (okV (goesV t52 true) (blockOf t75) h40 h41 h51 h52 && true))))))))))) <|
mc t79 (fun k43 => k43 .ret [(6, (.bool false))] h54) (fun k43 =>
k43 .normal [(0, (get tT 0)), (1, (get tT 1)), (2, (get tT 2)), (7, (get tT 7)), (8, (get tT 8)), (9, (get tT 9))] h54) (blkK [0, 1, 2, 7, 8, 9] 1 k10)) (seqK (fun tT_1 h55 =>
bareK (xbin P .add T.int (.tmp 35) (.const (.int .i64 1)) (get tT_1 9) (.int .i64 1)) h55 fun t36 h56 =>
k .normal [(0, (get tT_1 0)), (1, (get tT_1 1)), (2, (get tT_1 2)), (7, (get tT_1 7)), (8, (get tT_1 8)), (9, t36)] h56) (afterK [0, 1, 2, 7, 8, 9] k))) (afterK [0, 1, 2, 7, 8, 9] k))

noncomputable def s_law_ModelRanges_b1 (mg : GT) (mc : CT) (ms : ST) (P : Program) (C : CallF) (L0 : Value → Value → Value → Value → Value → Value → AHeap → K → Res) (L1 : Value → Value → Value → Value → Value → AHeap → K → Res) (v1 : Value) (v2 : Value) (v7 : Value) (v8 : Value) (v10 : Value) (H : AHeap) (k : K) : Res :=
bareK (xbin P .leq T.int (.tmp 80) (.const (.int .i64 33)) v10 (.int .i64 33)) H fun t81 h16 =>
mc t81 (fun k10 => k10 .normal [(1, v1), (2, v2), (7, v7), (8, v8), (10, v10)] h16) (fun k10 =>
k10 (.exit 2) [(81, t81), (80, v10), (1, v1), (2, v2), (7, v7), (8, v8), (10, v10)] h16) (seqK (fun tT h17 =>
ms (fun k11 =>
enterK C F.ref24_Model_Range [(get tT 8), (get tT 1), (get tT 2), (get tT 10)] h17 fun t89 h18 =>
bareK (xextract t89 0) h18 fun t90 h19 =>
bareK (xextract t89 1) h19 fun t91 h20 =>
enterK C F.law_ranges [(get tT 7), (get tT 1), (get tT 2), (get tT 10), t90, t91] h20 fun t98 h21 =>
bareK (xun P .not t98) h21 fun t99 h22 =>
mc t99 (fun k12 => k12 .ret [(6, (.bool false))] h22) (fun k12 =>
k12 .normal [(1, (get tT 1)), (2, (get tT 2)), (7, (get tT 7)), (8, (get tT 8)), (10, (get tT 10))] h22) (blkK [1, 2, 7, 8, 10] 3 k11)) (seqK (fun tT_1 h23 =>
bareK (xbin P .add T.int (.tmp 82) (.const (.int .i64 1)) (get tT_1 10) (.int .i64 1)) h23 fun t83 h24 =>
k .normal [(1, (get tT_1 1)), (2, (get tT_1 2)), (7, (get tT_1 7)), (8, (get tT_1 8)), (10, t83)] h24) (afterK [1, 2, 7, 8, 10] k))) (afterK [1, 2, 7, 8, 10] k))

theorem s_law_ModelRanges_eq (M : CombL) (C : CallF) (LP : LoopH) (a0 : Value) (a1 : Value) (a2 : Value) (H : AHeap) : dBodyL M Try.prog hints C LP F.law_ModelRanges [a0, a1, a2] H = s_law_ModelRanges M.b.g M.c M.s Try.prog C (fun v0 v1 v2 v7 v8 v9 H k => loopL M Try.prog hints C LP F.law_ModelRanges 0 [(0, v0), (1, v1), (2, v2), (7, v7), (8, v8), (9, v9)] H k) (fun v1 v2 v7 v8 v10 H k => loopL M Try.prog hints C LP F.law_ModelRanges 1 [(1, v1), (2, v2), (7, v7), (8, v8), (10, v10)] H k) a0 a1 a2 H (endK Try.prog [.tmp 6]) := by kernel_rfl

theorem s_law_ModelRanges_b0_eq (M : CombL) (C : CallF) (LP : LoopH) (v0 : Value) (v1 : Value) (v2 : Value) (v7 : Value) (v8 : Value) (v9 : Value) (H : AHeap) (k : K) : bodyL M Try.prog hints C LP F.law_ModelRanges 0 [(0, v0), (1, v1), (2, v2), (7, v7), (8, v8), (9, v9)] H (afterK [0, 1, 2, 7, 8, 9] k) = s_law_ModelRanges_b0 M.b.g M.c M.s Try.prog C (fun v0 v1 v2 v7 v8 v9 H k => loopL M Try.prog hints C LP F.law_ModelRanges 0 [(0, v0), (1, v1), (2, v2), (7, v7), (8, v8), (9, v9)] H k) (fun v1 v2 v7 v8 v10 H k => loopL M Try.prog hints C LP F.law_ModelRanges 1 [(1, v1), (2, v2), (7, v7), (8, v8), (10, v10)] H k) v0 v1 v2 v7 v8 v9 H k := by kernel_rfl

theorem s_law_ModelRanges_b1_eq (M : CombL) (C : CallF) (LP : LoopH) (v1 : Value) (v2 : Value) (v7 : Value) (v8 : Value) (v10 : Value) (H : AHeap) (k : K) : bodyL M Try.prog hints C LP F.law_ModelRanges 1 [(1, v1), (2, v2), (7, v7), (8, v8), (10, v10)] H (afterK [1, 2, 7, 8, 10] k) = s_law_ModelRanges_b1 M.b.g M.c M.s Try.prog C (fun v0 v1 v2 v7 v8 v9 H k => loopL M Try.prog hints C LP F.law_ModelRanges 0 [(0, v0), (1, v1), (2, v2), (7, v7), (8, v8), (9, v9)] H k) (fun v1 v2 v7 v8 v10 H k => loopL M Try.prog hints C LP F.law_ModelRanges 1 [(1, v1), (2, v2), (7, v7), (8, v8), (10, v10)] H k) v1 v2 v7 v8 v10 H k := by kernel_rfl

end Go.Proofs.Ytlagijfkkpbbnaa
