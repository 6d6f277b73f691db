/-
  The seat's functions as terms over the engine's combinators (a program of ours printed it).
  Conditions: none. By an AI agent.
-/
import Derived.Test.YtldgonjihhndgaaNames
import Derived.Test.YtldgonjihhndgaaEng22
import Derived.Test.YtldgonjihhndgaaHints
import Derived.Test.YtldgonjihhndgaaChecked
import Derived.KernelRfl
set_option linter.unusedVariables false
namespace Go.Proofs.Ytldgonjihhndgaa
open Go Eng

/-! ticketline.ticketlinelaw02.ClockFulls -/

noncomputable def s_law_ClockFulls (mg : GT) (mc : CT) (ms : ST) (P : Program) (C : CallF) (L0 : Value → Value → Value → Value → AHeap → K → Res) (a0 : Value) (a1 : Value) (H : AHeap) (K0 : K) : Res :=
bareK (xbin P .lss T.int (.tmp 12) (.const (.int .i64 4094)) a0 (.int .i64 4094)) H fun t13 h1 =>
mg t13 false (fun o1 => o1 a0 h1) h1 fun t15 h2 =>
mg t13 false (fun o2 => bareK (xbin P .gtr T.int (.tmp 15) (.const (.int .i64 4098)) t15 (.int .i64 4098)) h2 o2) h2 fun t16 h3 =>
pickK t13 (.bool true) t16 fun t17 =>
mg t17 false (fun o3 => o3 a1 h3) h3 fun t19 h4 =>
mg t17 false (fun o4 => bareK (xbin P .lss T.int (.tmp 19) (.const (.int .i64 0)) t19 (.int .i64 0)) h4 o4) h4 fun t20 h5 =>
pickK t17 (.bool true) t20 fun t21 =>
mg t21 false (fun o5 => o5 a1 h5) h5 fun t23 h6 =>
mg t21 false (fun o6 => bareK (xbin P .gtr T.int (.tmp 23) (.const (.int .i64 3)) t23 (.int .i64 3)) h6 o6) h6 fun t24 h7 =>
pickK t21 (.bool true) t24 fun t25 =>
mc t25 (fun k7 => enterK C F.law_known [] h7 fun t26 h8 =>
k7 .ret [(4, t26)] h8) (fun k7 =>
k7 .normal [(0, a0), (1, a1)] h7) (seqK (fun tT h9 =>
enterK C F.clock_New [(.int .i64 0)] h9 fun t28 h10 =>
bareK (xextract t28 0) h10 fun t29 h11 =>
bareK (xextract t28 1) h11 fun t30 h12 =>
bareK (xbin P .eql T.p_clock_Clock (.tmp 31) (.const (.pointer none)) t29 (.pointer none)) h12 fun t32 h13 =>
mg t32 false (fun o8 => o8 t30 h13) h13 fun t34 h14 =>
mg t32 false (fun o9 => bareK (xbin P .neq T.api_Errno (.tmp 34) (.const (.int .i64 0)) t34 (.int .i64 0)) h14 o9) h14 fun t35 h15 =>
pickK t32 (.bool true) t35 fun t36 =>
mc t36 (fun k10 => k10 .ret [(4, (.bool false))] h15) (fun k10 =>
k10 .normal [(0, (get tT 0)), (1, (get tT 1)), (5, t29)] h15) (seqK (fun tT_1 h16 =>
ms (fun k11 =>
L0 (get tT_1 0) (get tT_1 1) (get tT_1 5) (.int .i64 0) h16 (blkK [0, 1, 5] 0 k11)) (seqK (fun tT_2 h17 =>
nextK C h17 (xbuiltin P .min [T.int, T.int] [(get tT_2 0), (.int .i64 4096)] h17) fun t54 h18 =>
enterK C F.clock_Clock_Clear [(get tT_2 5), (.int .i64 0)] h18 fun t56 h19 =>
bareK (xbin P .neq T.api_Errno (.tmp 56) (.const (.int .i64 0)) t56 (.int .i64 0)) h19 fun t57 h20 =>
mg t57 false (fun o12 => o12 (get tT_2 5) h20) h20 fun t59 h21 =>
mg t57 false (fun o13 => o13 t54 h21) h21 fun t60 h22 =>
mg t57 false (fun o14 => enterK C F.clock_Clock_Set [t59, t60, (.int .i64 5)] h22 o14) h22 fun t61 h23 =>
mg t57 false (fun o15 => bareK (xbin P .neq T.api_Errno (.tmp 61) (.const (.int .i64 0)) t61 (.int .i64 0)) h23 o15) h23 fun t62 h24 =>
pickK t57 (.bool true) t62 fun t63 =>
mg t63 false (fun o16 => o16 (get tT_2 5) h24) h24 fun t65 h25 =>
mg t63 false (fun o17 => enterK C F.clock_Clock_Next [t65] h25 o17) h25 fun t66 h26 =>
mg t63 false (fun o18 => bareK (xbin P .neq T.int (.tmp 66) (.const (.int .i64 5)) t66 (.int .i64 5)) h26 o18) h26 fun t67 h27 =>
pickK t63 (.bool true) t67 fun t68 =>
mc t68 (fun k19 => k19 .ret [(4, (.bool false))] h27) (fun k19 =>
k19 .normal [(1, (get tT_2 1)), (5, (get tT_2 5)), (9, t54)] h27) (seqK (fun tT_3 h28 =>
enterK C F.clock_Clock_Tick [(get tT_3 5), (.int .i64 99999)] h28 fun t71 h29 =>
bareK (xextract t71 0) h29 fun t72 h30 =>
bareK (xextract t71 1) h30 fun t73 h31 =>
bareK (xbin P .gtr T.int (.tmp 74) (.const (.int .i64 0)) (get tT_3 1) (.int .i64 0)) h31 fun t75 h32 =>
mc t75 (fun k20 => k20 .normal [(5, (get tT_3 5)), (6, t73), (9, (get tT_3 9)), (10, t72), (11, (get tT_3 9))] h32) (fun k20 =>
k20 .normal [(5, (get tT_3 5)), (6, t73), (9, (get tT_3 9)), (10, t72), (11, (.int .i64 1))] h32) (seqK (fun tT_4 h33 =>
bareK (lenS (get tT_4 10)) h33 fun t78 h34 =>
bareK (xbin P .eql T.int (.tmp 78) (.tmp 79) t78 (get tT_4 11)) h34 fun t80 h35 =>
mg t80 true (fun o21 => o21 (get tT_4 6) h35) h35 fun t82 h36 =>
mg t80 true (fun o22 => bareK (xbin P .eql T.api_Errno (.tmp 82) (.const (.int .i64 0)) t82 (.int .i64 0)) h36 o22) h36 fun t83 h37 =>
pickK t80 t83 (.bool false) fun t84 =>
mg t84 true (fun o23 => o23 (get tT_4 10) h37) h37 fun t86 h38 =>
mg t84 true (fun o24 => bareK (ixS 2 t86 (.int .i64 0)) h38 o24) h38 fun t87 h39 =>
mg t84 true (fun o25 => bareK (ldN 2 h39 t87) h39 o25) h39 fun t88 h40 =>
mg t84 true (fun o26 => o26 (get tT_4 9) h40) h40 fun t89 h41 =>
mg t84 true (fun o27 => bareK (bldS #[(.int .i64 0), (.int .i64 0)] [(0, 1), (1, 1)] [(0, t89), (1, (.int .i64 5))]) h41 o27) h41 fun t90 h42 =>
mg t84 true (fun o28 => bareK (xbin P .eql T.api_Alarm (.tmp 88) (.tmp 90) t88 t90) h42 o28) h42 fun t91 h43 =>
pickK t84 t91 (.bool false) fun t92 =>
mg t92 true (fun o29 => o29 (get tT_4 5) h43) h43 fun t94 h44 =>
mg t92 true (fun o30 => enterK C F.clock_Clock_Alarms [t94] h44 o30) h44 fun t95 h45 =>
mg t92 true (fun o31 => bareK (lenS t95) h45 o31) h45 fun t96 h46 =>
mg t92 true (fun o32 => o32 (get tT_4 9) h46) h46 fun t97 h47 =>
mg t92 true (fun o33 => o33 (get tT_4 11) h47) h47 fun t98 h48 =>
mg t92 true (fun o34 => bareK (xbin P .sub T.int (.tmp 97) (.tmp 98) t97 t98) h48 o34) h48 fun t99 h49 =>
mg t92 true (fun o35 => bareK (xbin P .eql T.int (.tmp 96) (.tmp 99) t96 t99) h49 o35) h49 fun t100 h50 =>
pickK t92 t100 (.bool false) fun t101 =>
mg t101 true (fun o36 => enterK C F.law_known [] h50 o36) h50 fun t103 h51 =>
pickK t101 t103 (.bool false) fun t104 =>
K0 .ret [(4, t104)] h51) K0)) K0)) K0)) K0)) K0)

noncomputable def s_law_ClockFulls_b0 (mg : GT) (mc : CT) (ms : ST) (P : Program) (C : CallF) (L0 : Value → Value → Value → Value → AHeap → K → Res) (v0 : Value) (v1 : Value) (v5 : Value) (v7 : Value) (H : AHeap) (k : K) : Res :=
bareK (xbin P .lss T.int (.tmp 37) (.tmp 38) v7 v0) H fun t39 h17 =>
mc t39 (fun k12 => k12 .normal [(0, v0), (1, v1), (5, v5), (7, v7)] h17) (fun k12 =>
k12 (.exit 0) [(39, t39), (38, v0), (37, v7), (0, v0), (1, v1), (5, v5), (7, v7)] h17) (seqK (fun tT h18 =>
ms (fun k13 =>
bareK (xbin P .geq T.int (.tmp 42) (.const (.int .i64 4096)) (get tT 7) (.int .i64 4096)) h18 fun t43 h19 =>
mc t43 (fun k14 => k14 .normal [(0, (get tT 0)), (1, (get tT 1)), (5, (get tT 5)), (7, (get tT 7)), (8, (.int .i64 7))] h19) (fun k14 =>
k14 .normal [(0, (get tT 0)), (1, (get tT 1)), (5, (get tT 5)), (7, (get tT 7)), (8, (.int .i64 0))] h19) (seqK (fun tT_1 h20 =>
bareK (xbin P .mul T.int (.tmp 46) (.tmp 47) (get tT_1 1) (get tT_1 7)) h20 fun t48 h21 =>
bareK (xbin P .sub T.int (.const (.int .i64 100000)) (.tmp 48) (.int .i64 100000) t48) h21 fun t49 h22 =>
enterK C F.clock_Clock_Set [(get tT_1 5), (get tT_1 7), t49] h22 fun t50 h23 =>
bareK (xbin P .neq T.api_Errno (.tmp 50) (.tmp 51) t50 (get tT_1 8)) h23 fun t52 h24 =>
mc t52 (fun k15 => k15 .ret [(4, (.bool false))] h24) (fun k15 =>
k15 .normal [(0, (get tT_1 0)), (1, (get tT_1 1)), (5, (get tT_1 5)), (7, (get tT_1 7))] h24) (blkK [0, 1, 5, 7] 1 k13)) (blkK [0, 1, 5, 7] 1 k13))) (seqK (fun tT_2 h25 =>
bareK (xbin P .add T.int (.tmp 40) (.const (.int .i64 1)) (get tT_2 7) (.int .i64 1)) h25 fun t41 h26 =>
k .normal [(0, (get tT_2 0)), (1, (get tT_2 1)), (5, (get tT_2 5)), (7, t41)] h26) (afterK [0, 1, 5, 7] k))) (afterK [0, 1, 5, 7] k))

theorem s_law_ClockFulls_eq (M : CombL) (C : CallF) (LP : LoopH) (a0 : Value) (a1 : Value) (H : AHeap) : dBodyL M Try.prog hints C LP F.law_ClockFulls [a0, a1] H = s_law_ClockFulls M.b.g M.c M.s Try.prog C (fun v0 v1 v5 v7 H k => loopL M Try.prog hints C LP F.law_ClockFulls 0 [(0, v0), (1, v1), (5, v5), (7, v7)] H k) a0 a1 H (endK Try.prog [.tmp 4]) := by kernel_rfl

theorem s_law_ClockFulls_b0_eq (M : CombL) (C : CallF) (LP : LoopH) (v0 : Value) (v1 : Value) (v5 : Value) (v7 : Value) (H : AHeap) (k : K) : bodyL M Try.prog hints C LP F.law_ClockFulls 0 [(0, v0), (1, v1), (5, v5), (7, v7)] H (afterK [0, 1, 5, 7] k) = s_law_ClockFulls_b0 M.b.g M.c M.s Try.prog C (fun v0 v1 v5 v7 H k => loopL M Try.prog hints C LP F.law_ClockFulls 0 [(0, v0), (1, v1), (5, v5), (7, v7)] H k) v0 v1 v5 v7 H k := by kernel_rfl

end Go.Proofs.Ytldgonjihhndgaa
