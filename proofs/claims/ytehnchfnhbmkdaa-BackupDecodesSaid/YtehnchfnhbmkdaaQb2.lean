/-
  4 texts in one (merge.py): Sh Ds Eng23 Eng24.
  Conditions: none. By an AI agent.
-/
import Derived.Test.YtehnchfnhbmkdaaQb1
import Derived.Test.YtehnchfnhbmkdaaChecked
import Derived.KernelRfl

/-
  The seat's functions as terms over the engine's combinators (a program of ours printed it).
  Conditions: none. By an AI agent.
-/
set_option linter.unusedVariables false
namespace Go.Proofs.Ytehnchfnhbmkdaa
open Go Eng

/-! ticketline.ticketlinelaw48.cuts -/

noncomputable def s_law_cuts (mg : GT) (mc : CT) (ms : ST) (P : Program) (C : CallF) (a0 : Value) (a1 : Value) (a2 : Value) (a3 : Value) (H : AHeap) (K0 : K) : Res :=
enterK C F.backup_Cut [a0, a1] H fun t14 h1 =>
bareK (xextract t14 0) h1 fun t15 h2 =>
bareK (xextract t14 1) h2 fun t16 h3 =>
enterK C F.law_same [t15, a2] h3 fun t19 h4 =>
mg t19 true (fun o1 => o1 t16 h4) h4 fun t21 h5 =>
mg t19 true (fun o2 => o2 a3 h5) h5 fun t22 h6 =>
mg t19 true (fun o3 => bareK (xbin P .eql T.int (.tmp 21) (.tmp 22) t21 t22) h6 o3) h6 fun t23 h7 =>
pickK t19 t23 (.bool false) fun t24 =>
K0 .ret [(8, t24)] h7

theorem s_law_cuts_eq (M : CombL) (C : CallF) (LP : LoopH) (a0 : Value) (a1 : Value) (a2 : Value) (a3 : Value) (H : AHeap) : dBodyL M Try.prog hints C LP F.law_cuts [a0, a1, a2, a3] H = s_law_cuts M.b.g M.c M.s Try.prog C a0 a1 a2 a3 H (endK Try.prog [.tmp 8]) := by kernel_rfl

/-! ticketline.ticketlinelaw48.pieces -/

noncomputable def s_law_pieces (mg : GT) (mc : CT) (ms : ST) (P : Program) (C : CallF) (L0 : Value → Value → Value → Value → Value → AHeap → K → Res) (a0 : Value) (a1 : Value) (H : AHeap) (K0 : K) : Res :=
bareK (lenS a0) H fun t10 h1 =>
bareK (xbin P .add T.int (.tmp 10) (.tmp 11) t10 a1) h1 fun t12 h2 =>
bareK (xbin P .sub T.int (.tmp 12) (.const (.int .i64 1)) t12 (.int .i64 1)) h2 fun t13 h3 =>
bareK (xbin P .quo T.int (.tmp 13) (.tmp 14) t13 a1) h3 fun t15 h4 =>
nextK C h4 (xbuiltin P .max [T.int, T.int] [(.int .i64 1), t15] h4) fun t16 h5 =>
ms (fun k1 =>
L0 a0 a1 t16 (.slice none 0 0) (.int .i64 0) h5 (blkK [6] 0 k1)) (seqK (fun tT h6 =>
K0 .ret [(4, (get tT 6))] h6) K0)

noncomputable def s_law_pieces_b0 (mg : GT) (mc : CT) (ms : ST) (P : Program) (C : CallF) (L0 : Value → Value → Value → Value → Value → AHeap → K → Res) (v0 : Value) (v1 : Value) (v5 : Value) (v6 : Value) (v7 : Value) (H : AHeap) (k : K) : Res :=
bareK (xbin P .lss T.int (.tmp 17) (.tmp 18) v7 v5) H fun t19 h6 =>
mc t19 (fun k2 => k2 .normal [(0, v0), (1, v1), (5, v5), (6, v6), (7, v7)] h6) (fun k2 =>
k2 (.exit 0) [(19, t19), (18, v5), (17, v7), (0, v0), (1, v1), (5, v5), (6, v6), (7, v7)] h6) (seqK (fun tT h7 =>
ms (fun k3 =>
enterK C F.law_check [(get tT 0)] h7 fun t23 h8 =>
enterK C F.law_many [t23, (.int .i64 4)] h8 fun t24 h9 =>
enterK C F.law_many [(get tT 7), (.int .i64 2)] h9 fun t26 h10 =>
bothK (app T.uint8 1 1 t24 (srcS 1 t26 h10) h10) fun t27 h11 =>
enterK C F.law_many [(get tT 5), (.int .i64 2)] h11 fun t30 h12 =>
bothK (app T.uint8 1 1 t27 (srcS 1 t30 h12) h12) fun t31 h13 =>
bareK (xbin P .mul T.int (.tmp 35) (.tmp 36) (get tT 7) (get tT 1)) h13 fun t37 h14 =>
bareK (lenS (get tT 0)) h14 fun t39 h15 =>
bareK (xbin P .add T.int (.tmp 40) (.const (.int .i64 1)) (get tT 7) (.int .i64 1)) h15 fun t41 h16 =>
bareK (xbin P .mul T.int (.tmp 41) (.tmp 42) t41 (get tT 1)) h16 fun t43 h17 =>
nextK C h17 (xbuiltin P .min [T.int, T.int] [t39, t43] h17) fun t44 h18 =>
bareK (slS T.uint8 1 (get tT 0) (some t37) (some t44) none h18) h18 fun t45 h19 =>
bothK (app T.uint8 1 1 t31 (srcS 1 t45 h19) h19) fun t46 h20 =>
bothK (bldL T.sl_uint8 [(.slice none 0 0)] 1 [(0, t46)] h20) fun t47 h21 =>
bothK (app T.sl_uint8 1 24 (get tT 6) (srcS 1 t47 h21) h21) fun t48 h22 =>
k3 .normal [(0, (get tT 0)), (1, (get tT 1)), (5, (get tT 5)), (6, t48), (7, (get tT 7))] h22) (seqK (fun tT_1 h23 =>
bareK (xbin P .add T.int (.tmp 20) (.const (.int .i64 1)) (get tT_1 7) (.int .i64 1)) h23 fun t21 h24 =>
k .normal [(0, (get tT_1 0)), (1, (get tT_1 1)), (5, (get tT_1 5)), (6, (get tT_1 6)), (7, t21)] h24) (afterK [0, 1, 5, 6, 7] k))) (afterK [0, 1, 5, 6, 7] k))

theorem s_law_pieces_eq (M : CombL) (C : CallF) (LP : LoopH) (a0 : Value) (a1 : Value) (H : AHeap) : dBodyL M Try.prog hints C LP F.law_pieces [a0, a1] H = s_law_pieces M.b.g M.c M.s Try.prog C (fun v0 v1 v5 v6 v7 H k => loopL M Try.prog hints C LP F.law_pieces 0 [(0, v0), (1, v1), (5, v5), (6, v6), (7, v7)] H k) a0 a1 H (endK Try.prog [.tmp 4]) := by kernel_rfl

theorem s_law_pieces_b0_eq (M : CombL) (C : CallF) (LP : LoopH) (v0 : Value) (v1 : Value) (v5 : Value) (v6 : Value) (v7 : Value) (H : AHeap) (k : K) : bodyL M Try.prog hints C LP F.law_pieces 0 [(0, v0), (1, v1), (5, v5), (6, v6), (7, v7)] H (afterK [0, 1, 5, 6, 7] k) = s_law_pieces_b0 M.b.g M.c M.s Try.prog C (fun v0 v1 v5 v6 v7 H k => loopL M Try.prog hints C LP F.law_pieces 0 [(0, v0), (1, v1), (5, v5), (6, v6), (7, v7)] H k) v0 v1 v5 v6 v7 H k := by kernel_rfl

/-! ticketline.ticketlinelaw48.joins -/

noncomputable def s_law_joins (mg : GT) (mc : CT) (ms : ST) (P : Program) (C : CallF) (a0 : Value) (a1 : Value) (a2 : Value) (H : AHeap) (K0 : K) : Res :=
enterK C F.backup_Join [a0] H fun t11 h1 =>
bareK (xextract t11 0) h1 fun t12 h2 =>
bareK (xextract t11 1) h2 fun t13 h3 =>
bothK (xconv P T.sl_uint8 T.string t12 h3) fun t15 h4 =>
bothK (xconv P T.sl_uint8 T.string a1 h4) fun t17 h5 =>
bareK (xbin P .eql T.string (.tmp 15) (.tmp 17) t15 t17) h5 fun t18 h6 =>
mg t18 true (fun o1 => o1 t13 h6) h6 fun t20 h7 =>
mg t18 true (fun o2 => o2 a2 h7) h7 fun t21 h8 =>
mg t18 true (fun o3 => bareK (xbin P .eql T.int (.tmp 20) (.tmp 21) t20 t21) h8 o3) h8 fun t22 h9 =>
pickK t18 t22 (.bool false) fun t23 =>
K0 .ret [(6, t23)] h9

theorem s_law_joins_eq (M : CombL) (C : CallF) (LP : LoopH) (a0 : Value) (a1 : Value) (a2 : Value) (H : AHeap) : dBodyL M Try.prog hints C LP F.law_joins [a0, a1, a2] H = s_law_joins M.b.g M.c M.s Try.prog C a0 a1 a2 H (endK Try.prog [.tmp 6]) := by kernel_rfl

/-! ticketline.ticketlinelaw48.joined -/

noncomputable def s_law_joined (mg : GT) (mc : CT) (ms : ST) (P : Program) (C : CallF) (L0 : Value → Value → AHeap → K → Res) (L1 : Value → Value → Value → Value → AHeap → K → Res) (L2 : Value → Value → Value → Value → Value → Value → Value → AHeap → K → Res) (L3 : Value → Value → Value → Value → Value → AHeap → K → Res) (L4 : Value → Value → Value → Value → Value → Value → Value → AHeap → K → Res) (a0 : Value) (H : AHeap) (K0 : K) : Res :=
ms (fun k1 =>
L0 a0 (.int .i64 0) H (blkK [0] 0 k1)) (seqK (fun tT h1 =>
bareK (lenS (get tT 0)) h1 fun t56 h2 =>
bareK (xbin P .eql T.int (.tmp 56) (.const (.int .i64 0)) t56 (.int .i64 0)) h2 fun t57 h3 =>
mc t57 (fun k2 => k2 .ret [(2, (.slice none 0 0)), (3, (.int .i64 4))] h3) (fun k2 =>
k2 .normal [(0, (get tT 0))] h3) (seqK (fun tT_1 h4 =>
bareK (ixS 1 (get tT_1 0) (.int .i64 0)) h4 fun t60 h5 =>
bareK (ld1 h5 t60) h5 fun t61 h6 =>
enterK C F.law_part [t61] h6 fun t62 h7 =>
bareK (xextract t62 0) h7 fun t63 h8 =>
bareK (xextract t62 1) h8 fun t64 h9 =>
bareK (xextract t62 2) h9 fun t65 h10 =>
bareK (xextract t62 3) h10 fun t66 h11 =>
bareK (xextract t62 4) h11 fun t67 h12 =>
ms (fun k3 =>
L1 (get tT_1 0) t63 t65 (.int .i64 0) h12 (blkK [0, 10, 12] 2 k3)) (seqK (fun tT_2 h13 =>
ms (fun k4 =>
L3 (get tT_2 0) (get tT_2 10) (get tT_2 12) (.slice none 0 0) (.int .i64 0) h13 (blkK [10, 27] 6 k4)) (seqK (fun tT_3 h14 =>
enterK C F.law_check [(get tT_3 27)] h14 fun t152 h15 =>
bareK (xbin P .neq T.int (.tmp 152) (.tmp 153) t152 (get tT_3 10)) h15 fun t154 h16 =>
mc t154 (fun k5 => k5 .ret [(2, (.slice none 0 0)), (3, (.int .i64 10))] h16) (fun k5 =>
k5 .normal [(27, (get tT_3 27))] h16) (seqK (fun tT_4 h17 =>
K0 .ret [(2, (get tT_4 27)), (3, (.int .i64 0))] h17) K0)) K0)) K0)) K0)) K0)

noncomputable def s_law_joined_b0 (mg : GT) (mc : CT) (ms : ST) (P : Program) (C : CallF) (L0 : Value → Value → AHeap → K → Res) (L1 : Value → Value → Value → Value → AHeap → K → Res) (L2 : Value → Value → Value → Value → Value → Value → Value → AHeap → K → Res) (L3 : Value → Value → Value → Value → Value → AHeap → K → Res) (L4 : Value → Value → Value → Value → Value → Value → Value → AHeap → K → Res) (v0 : Value) (v4 : Value) (H : AHeap) (k : K) : Res :=
bareK (lenS v0) H fun t38 h1 =>
bareK (xbin P .lss T.int (.tmp 36) (.tmp 38) v4 t38) h1 fun t39 h2 =>
mc t39 (fun k2 => k2 .normal [(0, v0), (4, v4)] h2) (fun k2 =>
k2 (.exit 0) [(39, t39), (38, t38), (37, v0), (36, v4), (0, v0), (4, v4)] h2) (seqK (fun tT h3 =>
ms (fun k3 =>
bareK (ixS 1 (get tT 0) (get tT 4)) h3 fun t45 h4 =>
bareK (ld1 h4 t45) h4 fun t46 h5 =>
enterK C F.law_part [t46] h5 fun t47 h6 =>
bareK (xextract t47 0) h6 fun t48 h7 =>
bareK (xextract t47 1) h7 fun t49 h8 =>
bareK (xextract t47 2) h8 fun t50 h9 =>
bareK (xextract t47 3) h9 fun t51 h10 =>
bareK (xextract t47 4) h10 fun t52 h11 =>
bareK (xun P .not t52) h11 fun t54 h12 =>
mc t54 (fun k4 => k4 .ret [(2, (.slice none 0 0)), (3, (.int .i64 12))] h12) (fun k4 =>
k4 .normal [(0, (get tT 0)), (4, (get tT 4))] h12) (blkK [0, 4] 1 k3)) (seqK (fun tT_1 h13 =>
bareK (xbin P .add T.int (.tmp 40) (.const (.int .i64 1)) (get tT_1 4) (.int .i64 1)) h13 fun t41 h14 =>
k .normal [(0, (get tT_1 0)), (4, t41)] h14) (afterK [0, 4] k))) (afterK [0, 4] k))

noncomputable def s_law_joined_b1 (mg : GT) (mc : CT) (ms : ST) (P : Program) (C : CallF) (L0 : Value → Value → AHeap → K → Res) (L1 : Value → Value → Value → Value → AHeap → K → Res) (L2 : Value → Value → Value → Value → Value → Value → Value → AHeap → K → Res) (L3 : Value → Value → Value → Value → Value → AHeap → K → Res) (L4 : Value → Value → Value → Value → Value → Value → Value → AHeap → K → Res) (v0 : Value) (v10 : Value) (v12 : Value) (v15 : Value) (H : AHeap) (k : K) : Res :=
bareK (lenS v0) H fun t70 h13 =>
bareK (xbin P .lss T.int (.tmp 68) (.tmp 70) v15 t70) h13 fun t71 h14 =>
mc t71 (fun k4 => k4 .normal [(0, v0), (10, v10), (12, v12), (15, v15)] h14) (fun k4 =>
k4 (.exit 2) [(71, t71), (70, t70), (69, v0), (68, v15), (0, v0), (10, v10), (12, v12), (15, v15)] h14) (seqK (fun tT h15 =>
ms (fun k5 =>
bareK (ixS 1 (get tT 0) (get tT 15)) h15 fun t77 h16 =>
bareK (ld1 h16 t77) h16 fun t78 h17 =>
enterK C F.law_part [t78] h17 fun t79 h18 =>
bareK (xextract t79 0) h18 fun t80 h19 =>
bareK (xextract t79 1) h19 fun t81 h20 =>
bareK (xextract t79 2) h20 fun t82 h21 =>
bareK (xextract t79 3) h21 fun t83 h22 =>
bareK (xextract t79 4) h22 fun t84 h23 =>
bareK (xbin P .neq T.int (.tmp 85) (.tmp 86) t80 (get tT 10)) h23 fun t87 h24 =>
mg t87 false (fun o6 => o6 t82 h24) h24 fun t89 h25 =>
mg t87 false (fun o7 => o7 (get tT 12) h25) h25 fun t90 h26 =>
mg t87 false (fun o8 => bareK (xbin P .neq T.int (.tmp 89) (.tmp 90) t89 t90) h26 o8) h26 fun t91 h27 =>
pickK t87 (.bool true) t91 fun t92 =>
mc t92 (fun k9 => k9 .ret [(2, (.slice none 0 0)), (3, (.int .i64 11))] h27) (fun k9 =>
k9 .normal [(0, (get tT 0)), (10, (get tT 10)), (12, (get tT 12)), (15, (get tT 15)), (17, t81), (19, t83)] h27) (seqK (fun tT_1 h28 =>
ms (fun k10 =>
L2 (get tT_1 0) (get tT_1 10) (get tT_1 12) (get tT_1 15) (get tT_1 17) (get tT_1 19) (.int .i64 0) h28 (blkK [0, 10, 12, 15] 4 k10)) (blkK [0, 10, 12, 15] 3 k5)) (blkK [0, 10, 12, 15] 3 k5))) (seqK (fun tT_2 h29 =>
bareK (xbin P .add T.int (.tmp 72) (.const (.int .i64 1)) (get tT_2 15) (.int .i64 1)) h29 fun t73 h30 =>
k .normal [(0, (get tT_2 0)), (10, (get tT_2 10)), (12, (get tT_2 12)), (15, t73)] h30) (afterK [0, 10, 12, 15] k))) (afterK [0, 10, 12, 15] k))

noncomputable def s_law_joined_b2 (mg : GT) (mc : CT) (ms : ST) (P : Program) (C : CallF) (L0 : Value → Value → AHeap → K → Res) (L1 : Value → Value → Value → Value → AHeap → K → Res) (L2 : Value → Value → Value → Value → Value → Value → Value → AHeap → K → Res) (L3 : Value → Value → Value → Value → Value → AHeap → K → Res) (L4 : Value → Value → Value → Value → Value → Value → Value → AHeap → K → Res) (v0 : Value) (v10 : Value) (v12 : Value) (v15 : Value) (v17 : Value) (v19 : Value) (v21 : Value) (H : AHeap) (k : K) : Res :=
bareK (xbin P .lss T.int (.tmp 93) (.tmp 94) v21 v15) H fun t95 h29 =>
mc t95 (fun k11 => k11 .normal [(0, v0), (10, v10), (12, v12), (15, v15), (17, v17), (19, v19), (21, v21)] h29) (fun k11 =>
k11 (.exit 4) [(95, t95), (94, v15), (93, v21), (0, v0), (10, v10), (12, v12), (15, v15), (17, v17), (19, v19), (21, v21)] h29) (seqK (fun tT h30 =>
ms (fun k12 =>
bareK (ixS 1 (get tT 0) (get tT 21)) h30 fun t101 h31 =>
bareK (ld1 h31 t101) h31 fun t102 h32 =>
enterK C F.law_part [t102] h32 fun t103 h33 =>
bareK (xextract t103 0) h33 fun t104 h34 =>
bareK (xextract t103 1) h34 fun t105 h35 =>
bareK (xextract t103 2) h35 fun t106 h36 =>
bareK (xextract t103 3) h36 fun t107 h37 =>
bareK (xextract t103 4) h37 fun t108 h38 =>
bareK (xbin P .eql T.int (.tmp 109) (.tmp 110) t105 (get tT 17)) h38 fun t111 h39 =>
mg t111 true (fun o13 => o13 t107 h39) h39 fun t113 h40 =>
mg t111 true (fun o14 => o14 (get tT 19) h40) h40 fun t114 h41 =>
mg t111 true (fun o15 => bareK (xbin P .neq T.string (.tmp 113) (.tmp 114) t113 t114) h41 o15) h41 fun t115 h42 =>
pickK t111 t115 (.bool false) fun t116 =>
mc t116 (fun k16 => k16 .ret [(2, (.slice none 0 0)), (3, (.int .i64 11))] h42) (fun k16 =>
k16 .normal [(0, (get tT 0)), (10, (get tT 10)), (12, (get tT 12)), (15, (get tT 15)), (17, (get tT 17)), (19, (get tT 19)), (21, (get tT 21))] h42) (blkK [0, 10, 12, 15, 17, 19, 21] 5 k12)) (seqK (fun tT_1 h43 =>
bareK (xbin P .add T.int (.tmp 96) (.const (.int .i64 1)) (get tT_1 21) (.int .i64 1)) h43 fun t97 h44 =>
k .normal [(0, (get tT_1 0)), (10, (get tT_1 10)), (12, (get tT_1 12)), (15, (get tT_1 15)), (17, (get tT_1 17)), (19, (get tT_1 19)), (21, t97)] h44) (afterK [0, 10, 12, 15, 17, 19, 21] k))) (afterK [0, 10, 12, 15, 17, 19, 21] k))

noncomputable def s_law_joined_b3 (mg : GT) (mc : CT) (ms : ST) (P : Program) (C : CallF) (L0 : Value → Value → AHeap → K → Res) (L1 : Value → Value → Value → Value → AHeap → K → Res) (L2 : Value → Value → Value → Value → Value → Value → Value → AHeap → K → Res) (L3 : Value → Value → Value → Value → Value → AHeap → K → Res) (L4 : Value → Value → Value → Value → Value → Value → Value → AHeap → K → Res) (v0 : Value) (v10 : Value) (v12 : Value) (v27 : Value) (v28 : Value) (H : AHeap) (k : K) : Res :=
bareK (xbin P .lss T.int (.tmp 117) (.tmp 118) v28 v12) H fun t119 h14 =>
mc t119 (fun k5 => k5 .normal [(0, v0), (10, v10), (12, v12), (27, v27), (28, v28)] h14) (fun k5 =>
k5 (.exit 6) [(119, t119), (118, v12), (117, v28), (0, v0), (10, v10), (12, v12), (27, v27), (28, v28)] h14) (seqK (fun tT h15 =>
ms (fun k6 =>
ms (fun k7 =>
L4 (get tT 0) (get tT 10) (get tT 12) (get tT 27) (get tT 28) (.bool false) (.int .i64 0) h15 (blkK [0, 10, 12, 27, 28, 29] 8 k7)) (seqK (fun tT_1 h16 =>
bareK (xun P .not (get tT_1 29)) h16 fun t150 h17 =>
mc t150 (fun k8 => k8 .ret [(2, (.slice none 0 0)), (3, (.int .i64 4))] h17) (fun k8 =>
k8 .normal [(0, (get tT_1 0)), (10, (get tT_1 10)), (12, (get tT_1 12)), (27, (get tT_1 27)), (28, (get tT_1 28))] h17) (blkK [0, 10, 12, 27, 28] 7 k6)) (blkK [0, 10, 12, 27, 28] 7 k6))) (seqK (fun tT_2 h18 =>
bareK (xbin P .add T.int (.tmp 120) (.const (.int .i64 1)) (get tT_2 28) (.int .i64 1)) h18 fun t121 h19 =>
k .normal [(0, (get tT_2 0)), (10, (get tT_2 10)), (12, (get tT_2 12)), (27, (get tT_2 27)), (28, t121)] h19) (afterK [0, 10, 12, 27, 28] k))) (afterK [0, 10, 12, 27, 28] k))

noncomputable def s_law_joined_b4 (mg : GT) (mc : CT) (ms : ST) (P : Program) (C : CallF) (L0 : Value → Value → AHeap → K → Res) (L1 : Value → Value → Value → Value → AHeap → K → Res) (L2 : Value → Value → Value → Value → Value → Value → Value → AHeap → K → Res) (L3 : Value → Value → Value → Value → Value → AHeap → K → Res) (L4 : Value → Value → Value → Value → Value → Value → Value → AHeap → K → Res) (v0 : Value) (v10 : Value) (v12 : Value) (v27 : Value) (v28 : Value) (v29 : Value) (v30 : Value) (H : AHeap) (k : K) : Res :=
bareK (lenS v0) H fun t124 h16 =>
bareK (xbin P .lss T.int (.tmp 122) (.tmp 124) v30 t124) h16 fun t125 h17 =>
mc t125 (fun k8 => k8 .normal [(0, v0), (10, v10), (12, v12), (27, v27), (28, v28), (29, v29), (30, v30)] h17) (fun k8 =>
k8 (.exit 8) [(125, t125), (124, t124), (123, v0), (122, v30), (0, v0), (10, v10), (12, v12), (27, v27), (28, v28), (29, v29), (30, v30)] h17) (seqK (fun tT h18 =>
ms (fun k9 =>
bareK (ixS 1 (get tT 0) (get tT 30)) h18 fun t131 h19 =>
bareK (ld1 h19 t131) h19 fun t132 h20 =>
enterK C F.law_part [t132] h20 fun t133 h21 =>
bareK (xextract t133 0) h21 fun t134 h22 =>
bareK (xextract t133 1) h22 fun t135 h23 =>
bareK (xextract t133 2) h23 fun t136 h24 =>
bareK (xextract t133 3) h24 fun t137 h25 =>
bareK (xextract t133 4) h25 fun t138 h26 =>
bareK (xbin P .eql T.int (.tmp 139) (.tmp 140) t135 (get tT 28)) h26 fun t141 h27 =>
mg t141 true (fun o10 => o10 (get tT 29) h27) h27 fun t143 h28 =>
mg t141 true (fun o11 => bareK (xun P .not t143) h28 o11) h28 fun t144 h29 =>
pickK t141 t144 (.bool false) fun t145 =>
mc t145 (fun k12 => bothK (app T.uint8 1 1 (get tT 27) (srcT t137) h29) fun t148 h30 =>
k12 .normal [(0, (get tT 0)), (10, (get tT 10)), (12, (get tT 12)), (27, t148), (28, (get tT 28)), (29, (.bool true)), (30, (get tT 30))] h30) (fun k12 =>
k12 .normal [(0, (get tT 0)), (10, (get tT 10)), (12, (get tT 12)), (27, (get tT 27)), (28, (get tT 28)), (29, (get tT 29)), (30, (get tT 30))] h29) (blkK [0, 10, 12, 27, 28, 29, 30] 9 k9)) (seqK (fun tT_1 h31 =>
bareK (xbin P .add T.int (.tmp 126) (.const (.int .i64 1)) (get tT_1 30) (.int .i64 1)) h31 fun t127 h32 =>
k .normal [(0, (get tT_1 0)), (10, (get tT_1 10)), (12, (get tT_1 12)), (27, (get tT_1 27)), (28, (get tT_1 28)), (29, (get tT_1 29)), (30, t127)] h32) (afterK [0, 10, 12, 27, 28, 29, 30] k))) (afterK [0, 10, 12, 27, 28, 29, 30] k))

theorem s_law_joined_eq (M : CombL) (C : CallF) (LP : LoopH) (a0 : Value) (H : AHeap) : dBodyL M Try.prog hints C LP F.law_joined [a0] H = s_law_joined M.b.g M.c M.s Try.prog C (fun v0 v4 H k => loopL M Try.prog hints C LP F.law_joined 0 [(0, v0), (4, v4)] H k) (fun v0 v10 v12 v15 H k => loopL M Try.prog hints C LP F.law_joined 1 [(0, v0), (10, v10), (12, v12), (15, v15)] H k) (fun v0 v10 v12 v15 v17 v19 v21 H k => loopL M Try.prog hints C LP F.law_joined 2 [(0, v0), (10, v10), (12, v12), (15, v15), (17, v17), (19, v19), (21, v21)] H k) (fun v0 v10 v12 v27 v28 H k => loopL M Try.prog hints C LP F.law_joined 3 [(0, v0), (10, v10), (12, v12), (27, v27), (28, v28)] H k) (fun v0 v10 v12 v27 v28 v29 v30 H k => loopL M Try.prog hints C LP F.law_joined 4 [(0, v0), (10, v10), (12, v12), (27, v27), (28, v28), (29, v29), (30, v30)] H k) a0 H (endK Try.prog [.tmp 2, .tmp 3]) := by kernel_rfl

theorem s_law_joined_b0_eq (M : CombL) (C : CallF) (LP : LoopH) (v0 : Value) (v4 : Value) (H : AHeap) (k : K) : bodyL M Try.prog hints C LP F.law_joined 0 [(0, v0), (4, v4)] H (afterK [0, 4] k) = s_law_joined_b0 M.b.g M.c M.s Try.prog C (fun v0 v4 H k => loopL M Try.prog hints C LP F.law_joined 0 [(0, v0), (4, v4)] H k) (fun v0 v10 v12 v15 H k => loopL M Try.prog hints C LP F.law_joined 1 [(0, v0), (10, v10), (12, v12), (15, v15)] H k) (fun v0 v10 v12 v15 v17 v19 v21 H k => loopL M Try.prog hints C LP F.law_joined 2 [(0, v0), (10, v10), (12, v12), (15, v15), (17, v17), (19, v19), (21, v21)] H k) (fun v0 v10 v12 v27 v28 H k => loopL M Try.prog hints C LP F.law_joined 3 [(0, v0), (10, v10), (12, v12), (27, v27), (28, v28)] H k) (fun v0 v10 v12 v27 v28 v29 v30 H k => loopL M Try.prog hints C LP F.law_joined 4 [(0, v0), (10, v10), (12, v12), (27, v27), (28, v28), (29, v29), (30, v30)] H k) v0 v4 H k := by kernel_rfl

theorem s_law_joined_b1_eq (M : CombL) (C : CallF) (LP : LoopH) (v0 : Value) (v10 : Value) (v12 : Value) (v15 : Value) (H : AHeap) (k : K) : bodyL M Try.prog hints C LP F.law_joined 1 [(0, v0), (10, v10), (12, v12), (15, v15)] H (afterK [0, 10, 12, 15] k) = s_law_joined_b1 M.b.g M.c M.s Try.prog C (fun v0 v4 H k => loopL M Try.prog hints C LP F.law_joined 0 [(0, v0), (4, v4)] H k) (fun v0 v10 v12 v15 H k => loopL M Try.prog hints C LP F.law_joined 1 [(0, v0), (10, v10), (12, v12), (15, v15)] H k) (fun v0 v10 v12 v15 v17 v19 v21 H k => loopL M Try.prog hints C LP F.law_joined 2 [(0, v0), (10, v10), (12, v12), (15, v15), (17, v17), (19, v19), (21, v21)] H k) (fun v0 v10 v12 v27 v28 H k => loopL M Try.prog hints C LP F.law_joined 3 [(0, v0), (10, v10), (12, v12), (27, v27), (28, v28)] H k) (fun v0 v10 v12 v27 v28 v29 v30 H k => loopL M Try.prog hints C LP F.law_joined 4 [(0, v0), (10, v10), (12, v12), (27, v27), (28, v28), (29, v29), (30, v30)] H k) v0 v10 v12 v15 H k := by kernel_rfl

theorem s_law_joined_b2_eq (M : CombL) (C : CallF) (LP : LoopH) (v0 : Value) (v10 : Value) (v12 : Value) (v15 : Value) (v17 : Value) (v19 : Value) (v21 : Value) (H : AHeap) (k : K) : bodyL M Try.prog hints C LP F.law_joined 2 [(0, v0), (10, v10), (12, v12), (15, v15), (17, v17), (19, v19), (21, v21)] H (afterK [0, 10, 12, 15, 17, 19, 21] k) = s_law_joined_b2 M.b.g M.c M.s Try.prog C (fun v0 v4 H k => loopL M Try.prog hints C LP F.law_joined 0 [(0, v0), (4, v4)] H k) (fun v0 v10 v12 v15 H k => loopL M Try.prog hints C LP F.law_joined 1 [(0, v0), (10, v10), (12, v12), (15, v15)] H k) (fun v0 v10 v12 v15 v17 v19 v21 H k => loopL M Try.prog hints C LP F.law_joined 2 [(0, v0), (10, v10), (12, v12), (15, v15), (17, v17), (19, v19), (21, v21)] H k) (fun v0 v10 v12 v27 v28 H k => loopL M Try.prog hints C LP F.law_joined 3 [(0, v0), (10, v10), (12, v12), (27, v27), (28, v28)] H k) (fun v0 v10 v12 v27 v28 v29 v30 H k => loopL M Try.prog hints C LP F.law_joined 4 [(0, v0), (10, v10), (12, v12), (27, v27), (28, v28), (29, v29), (30, v30)] H k) v0 v10 v12 v15 v17 v19 v21 H k := by kernel_rfl

theorem s_law_joined_b3_eq (M : CombL) (C : CallF) (LP : LoopH) (v0 : Value) (v10 : Value) (v12 : Value) (v27 : Value) (v28 : Value) (H : AHeap) (k : K) : bodyL M Try.prog hints C LP F.law_joined 3 [(0, v0), (10, v10), (12, v12), (27, v27), (28, v28)] H (afterK [0, 10, 12, 27, 28] k) = s_law_joined_b3 M.b.g M.c M.s Try.prog C (fun v0 v4 H k => loopL M Try.prog hints C LP F.law_joined 0 [(0, v0), (4, v4)] H k) (fun v0 v10 v12 v15 H k => loopL M Try.prog hints C LP F.law_joined 1 [(0, v0), (10, v10), (12, v12), (15, v15)] H k) (fun v0 v10 v12 v15 v17 v19 v21 H k => loopL M Try.prog hints C LP F.law_joined 2 [(0, v0), (10, v10), (12, v12), (15, v15), (17, v17), (19, v19), (21, v21)] H k) (fun v0 v10 v12 v27 v28 H k => loopL M Try.prog hints C LP F.law_joined 3 [(0, v0), (10, v10), (12, v12), (27, v27), (28, v28)] H k) (fun v0 v10 v12 v27 v28 v29 v30 H k => loopL M Try.prog hints C LP F.law_joined 4 [(0, v0), (10, v10), (12, v12), (27, v27), (28, v28), (29, v29), (30, v30)] H k) v0 v10 v12 v27 v28 H k := by kernel_rfl

theorem s_law_joined_b4_eq (M : CombL) (C : CallF) (LP : LoopH) (v0 : Value) (v10 : Value) (v12 : Value) (v27 : Value) (v28 : Value) (v29 : Value) (v30 : Value) (H : AHeap) (k : K) : bodyL M Try.prog hints C LP F.law_joined 4 [(0, v0), (10, v10), (12, v12), (27, v27), (28, v28), (29, v29), (30, v30)] H (afterK [0, 10, 12, 27, 28, 29, 30] k) = s_law_joined_b4 M.b.g M.c M.s Try.prog C (fun v0 v4 H k => loopL M Try.prog hints C LP F.law_joined 0 [(0, v0), (4, v4)] H k) (fun v0 v10 v12 v15 H k => loopL M Try.prog hints C LP F.law_joined 1 [(0, v0), (10, v10), (12, v12), (15, v15)] H k) (fun v0 v10 v12 v15 v17 v19 v21 H k => loopL M Try.prog hints C LP F.law_joined 2 [(0, v0), (10, v10), (12, v12), (15, v15), (17, v17), (19, v19), (21, v21)] H k) (fun v0 v10 v12 v27 v28 H k => loopL M Try.prog hints C LP F.law_joined 3 [(0, v0), (10, v10), (12, v12), (27, v27), (28, v28)] H k) (fun v0 v10 v12 v27 v28 v29 v30 H k => loopL M Try.prog hints C LP F.law_joined 4 [(0, v0), (10, v10), (12, v12), (27, v27), (28, v28), (29, v29), (30, v30)] H k) v0 v10 v12 v27 v28 v29 v30 H k := by kernel_rfl

/-! ticketline.backup.Cut -/

noncomputable def s_backup_Cut (mg : GT) (mc : CT) (ms : ST) (P : Program) (C : CallF) (L0 : Value → Value → Value → Value → Value → Value → AHeap → K → Res) (a0 : Value) (a1 : Value) (H : AHeap) (K0 : K) : Res :=
ms (fun k1 =>
bareK (xbin P .lss T.int (.tmp 13) (.const (.int .i64 1)) a1 (.int .i64 1)) H fun t14 h1 =>
mg t14 false (fun o2 => o2 a1 h1) h1 fun t16 h2 =>
mg t14 false (fun o3 => bareK (xbin P .gtr T.int (.tmp 16) (.const (.int .i64 65536)) t16 (.int .i64 65536)) h2 o3) h2 fun t17 h3 =>
pickK t14 (.bool true) t17 fun t18 =>
mc t18 (fun k4 => k4 .ret [(4, (.slice none 0 0)), (5, (.int .i64 2))] h3) (fun k4 =>
bareK (lenS a0) h3 fun t21 h4 =>
bareK (xbin P .gtr T.int (.tmp 21) (.const (.int .i64 4194304)) t21 (.int .i64 4194304)) h4 fun t22 h5 =>
mc t22 (fun k5 => k5 .ret [(4, (.slice none 0 0)), (5, (.int .i64 5))] h5) (fun k5 =>
k5 .normal [(0, a0), (1, a1)] h5) (afterK [0, 1] k4)) (blkK [0, 1] 0 k1)) (seqK (fun tT h6 =>
enterK C F.slices_Chunk_byte [(get tT 0), (get tT 1)] h6 fun t25 h7 =>
enterK C F.slices_Collect_byte [t25] h7 fun t26 h8 =>
bareK (lenS t26) h8 fun t28 h9 =>
bareK (xbin P .gtr T.int (.tmp 28) (.const (.int .i64 65535)) t28 (.int .i64 65535)) h9 fun t29 h10 =>
mc t29 (fun k6 => k6 .ret [(4, (.slice none 0 0)), (5, (.int .i64 5))] h10) (fun k6 =>
k6 .normal [(0, (get tT 0)), (6, t26)] h10) (seqK (fun tT_1 h11 =>
bareK (lenS (get tT_1 6)) h11 fun t31 h12 =>
bareK (xbin P .eql T.int (.tmp 31) (.const (.int .i64 0)) t31 (.int .i64 0)) h12 fun t32 h13 =>
mc t32 (fun k7 => bothK (bldL T.sl_uint8 [(.slice none 0 0)] 1 [(0, (.slice none 0 0))] h13) fun t33 h14 =>
k7 .normal [(0, (get tT_1 0)), (6, t33)] h14) (fun k7 =>
k7 .normal [(0, (get tT_1 0)), (6, (get tT_1 6))] h13) (seqK (fun tT_2 h15 =>
enterK C F.backup_Check [(get tT_2 0)] h15 fun t35 h16 =>
enterK C F.backup_four [t35] h16 fun t36 h17 =>
bareK (lenS (get tT_2 6)) h17 fun t38 h18 =>
ms (fun k8 =>
L0 (get tT_2 6) t36 (.slice none 0 0) (get tT_2 6) t38 (.int .i64 0) h18 (blkK [8] 1 k8)) (seqK (fun tT_3 h19 =>
K0 .ret [(4, (get tT_3 8)), (5, (.int .i64 0))] h19) K0)) K0)) K0)) K0)

noncomputable def s_backup_Cut_b0 (mg : GT) (mc : CT) (ms : ST) (P : Program) (C : CallF) (L0 : Value → Value → Value → Value → Value → Value → AHeap → K → Res) (v6 : Value) (v7 : Value) (v8 : Value) (v37 : Value) (v38 : Value) (v39 : Value) (H : AHeap) (k : K) : Res :=
bareK (xbin P .lss T.int (.tmp 39) (.tmp 38) v39 v38) H fun t40 h19 =>
mc t40 (fun k9 => k9 .normal [(6, v6), (7, v7), (8, v8), (37, v37), (38, v38), (39, v39)] h19) (fun k9 =>
k9 (.exit 1) [(40, t40), (6, v6), (7, v7), (8, v8), (37, v37), (38, v38), (39, v39)] h19) (seqK (fun tT h20 =>
ms (fun k10 =>
bareK (ixS 1 (get tT 37) (get tT 39)) h20 fun t42 h21 =>
bareK (ld1 h21 t42) h21 fun t43 h22 =>
enterK C F.slices_Clone_byte [(get tT 7)] h22 fun t45 h23 =>
bareK (xbin P .shr T.int (.tmp 46) (.const (.int .u64 8)) (get tT 39) (.int .u64 8)) h23 fun t47 h24 =>
bothK (xconv P T.int T.uint8 t47 h24) fun t48 h25 =>
bothK (xconv P T.int T.uint8 (get tT 39) h25) fun t50 h26 =>
bareK (lenS (get tT 6)) h26 fun t52 h27 =>
bareK (xbin P .shr T.int (.tmp 52) (.const (.int .u64 8)) t52 (.int .u64 8)) h27 fun t53 h28 =>
bothK (xconv P T.int T.uint8 t53 h28) fun t54 h29 =>
bareK (lenS (get tT 6)) h29 fun t56 h30 =>
bothK (xconv P T.int T.uint8 t56 h30) fun t57 h31 =>
bothK (bldL T.uint8 [(.int .u8 0)] 4 [(0, t48), (1, t50), (2, t54), (3, t57)] h31) fun t58 h32 =>
bothK (app T.uint8 1 1 t45 (srcS 1 t58 h32) h32) fun t59 h33 =>
bothK (app T.uint8 1 1 t59 (srcS 1 t43 h33) h33) fun t63 h34 =>
bothK (bldL T.sl_uint8 [(.slice none 0 0)] 1 [(0, t63)] h34) fun t64 h35 =>
bothK (app T.sl_uint8 1 24 (get tT 8) (srcS 1 t64 h35) h35) fun t65 h36 =>
k10 .normal [(6, (get tT 6)), (7, (get tT 7)), (8, t65), (37, (get tT 37)), (38, (get tT 38)), (39, (get tT 39))] h36) (seqK (fun tT_1 h37 =>
bareK (xbin P .add T.int (.tmp 39) (.const (.int .i64 1)) (get tT_1 39) (.int .i64 1)) h37 fun t66 h38 =>
k .normal [(6, (get tT_1 6)), (7, (get tT_1 7)), (8, (get tT_1 8)), (37, (get tT_1 37)), (38, (get tT_1 38)), (39, t66)] h38) (afterK [6, 7, 8, 37, 38, 39] k))) (afterK [6, 7, 8, 37, 38, 39] k))

theorem s_backup_Cut_eq (M : CombL) (C : CallF) (LP : LoopH) (a0 : Value) (a1 : Value) (H : AHeap) : dBodyL M Try.prog hints C LP F.backup_Cut [a0, a1] H = s_backup_Cut M.b.g M.c M.s Try.prog C (fun v6 v7 v8 v37 v38 v39 H k => loopL M Try.prog hints C LP F.backup_Cut 0 [(6, v6), (7, v7), (8, v8), (37, v37), (38, v38), (39, v39)] H k) a0 a1 H (endK Try.prog [.tmp 4, .tmp 5]) := by kernel_rfl

theorem s_backup_Cut_b0_eq (M : CombL) (C : CallF) (LP : LoopH) (v6 : Value) (v7 : Value) (v8 : Value) (v37 : Value) (v38 : Value) (v39 : Value) (H : AHeap) (k : K) : bodyL M Try.prog hints C LP F.backup_Cut 0 [(6, v6), (7, v7), (8, v8), (37, v37), (38, v38), (39, v39)] H (afterK [6, 7, 8, 37, 38, 39] k) = s_backup_Cut_b0 M.b.g M.c M.s Try.prog C (fun v6 v7 v8 v37 v38 v39 H k => loopL M Try.prog hints C LP F.backup_Cut 0 [(6, v6), (7, v7), (8, v8), (37, v37), (38, v38), (39, v39)] H k) v6 v7 v8 v37 v38 v39 H k := by kernel_rfl

/-! ticketline.ticketlinelaw48.decodes -/

noncomputable def s_law_decodes (mg : GT) (mc : CT) (ms : ST) (P : Program) (C : CallF) (a0 : Value) (a1 : Value) (a2 : Value) (H : AHeap) (K0 : K) : Res :=
enterK C F.backup_Decode [a0] H fun t11 h1 =>
bareK (xextract t11 0) h1 fun t12 h2 =>
bareK (xextract t11 1) h2 fun t13 h3 =>
bareK (xbin P .neq T.int (.tmp 14) (.tmp 15) t13 a2) h3 fun t16 h4 =>
mg t16 false (fun o1 => o1 a1 h4) h4 fun t18 h5 =>
mg t16 false (fun o2 => bareK (xbin P .eql T.p_model_Model (.tmp 18) (.const (.pointer none)) t18 (.pointer none)) h5 o2) h5 fun t19 h6 =>
pickK t16 (.bool true) t19 fun t20 =>
mc t20 (fun k3 => bareK (xbin P .eql T.p_model_Model (.tmp 21) (.const (.pointer none)) t12 (.pointer none)) h6 fun t22 h7 =>
mg t22 true (fun o4 => o4 t13 h7) h7 fun t24 h8 =>
mg t22 true (fun o5 => o5 a2 h8) h8 fun t25 h9 =>
mg t22 true (fun o6 => bareK (xbin P .eql T.int (.tmp 24) (.tmp 25) t24 t25) h9 o6) h9 fun t26 h10 =>
pickK t22 t26 (.bool false) fun t27 =>
k3 .ret [(6, t27)] h10) (fun k3 =>
k3 .normal [(1, a1), (7, t12)] h6) (seqK (fun tT h11 =>
bareK (xbin P .neq T.p_model_Model (.tmp 28) (.const (.pointer none)) (get tT 7) (.pointer none)) h11 fun t29 h12 =>
mg t29 true (fun o7 => o7 (get tT 7) h12) h12 fun t31 h13 =>
mg t29 true (fun o8 => o8 (get tT 1) h13) h13 fun t32 h14 =>
mg t29 true (fun o9 => enterK C F.model_Equal [t31, t32] h14 o9) h14 fun t33 h15 =>
pickK t29 t33 (.bool false) fun t34 =>
K0 .ret [(6, t34)] h15) K0)

theorem s_law_decodes_eq (M : CombL) (C : CallF) (LP : LoopH) (a0 : Value) (a1 : Value) (a2 : Value) (H : AHeap) : dBodyL M Try.prog hints C LP F.law_decodes [a0, a1, a2] H = s_law_decodes M.b.g M.c M.s Try.prog C a0 a1 a2 H (endK Try.prog [.tmp 6]) := by kernel_rfl

/-! ticketline.ticketlinelaw48.small -/

noncomputable def s_law_small (mg : GT) (mc : CT) (ms : ST) (P : Program) (C : CallF) (L0 : Value → Value → AHeap → K → Res) (a0 : Value) (H : AHeap) (K0 : K) : Res :=
ms (fun k1 =>
L0 a0 (.int .i64 0) H (blkK [0] 0 k1)) (seqK (fun tT h1 =>
bareK (lenS (get tT 0)) h1 fun t31 h2 =>
bareK (xbin P .leq T.int (.tmp 31) (.const (.int .i64 30)) t31 (.int .i64 30)) h2 fun t32 h3 =>
K0 .ret [(2, t32)] h3) K0)

noncomputable def s_law_small_b0 (mg : GT) (mc : CT) (ms : ST) (P : Program) (C : CallF) (L0 : Value → Value → AHeap → K → Res) (v0 : Value) (v3 : Value) (H : AHeap) (k : K) : Res :=
bareK (lenS v0) H fun t6 h1 =>
bareK (xbin P .lss T.int (.tmp 4) (.tmp 6) v3 t6) h1 fun t7 h2 =>
mg t7 true (fun o2 => o2 v3 h2) h2 fun t9 h3 =>
mg t7 true (fun o3 => bareK (xbin P .lss T.int (.tmp 9) (.const (.int .i64 31)) t9 (.int .i64 31)) h3 o3) h3 fun t10 h4 =>
pickK t7 t10 (.bool false) fun t11 =>
mc t11 (fun k4 => k4 .normal [(0, v0), (3, v3)] h4) (fun k4 =>
k4 (.exit 0) [(11, t11), (10, t10), (9, t9), (8, t7), (7, t7), (6, t6), (5, v0), (4, v3), (0, v0), (3, v3)] h4) (seqK (fun tT h5 =>
ms (fun k5 =>
bareK (ixS 2 (get tT 0) (get tT 3)) h5 fun t16 h6 =>
bareK (fad 0 t16) h6 fun t17 h7 =>
bareK (ld1 h7 t17) h7 fun t18 h8 =>
bareK (lenT t18) h8 fun t19 h9 =>
bareK (xbin P .gtr T.int (.tmp 19) (.const (.int .i64 30)) t19 (.int .i64 30)) h9 fun t20 h10 =>
mg t20 false (fun o6 => o6 (get tT 0) h10) h10 fun t22 h11 =>
mg t20 false (fun o7 => o7 (get tT 3) h11) h11 fun t23 h12 =>
mg t20 false (fun o8 => bareK (ixS 2 t22 t23) h12 o8) h12 fun t24 h13 =>
mg t20 false (fun o9 => bareK (fad 1 t24) h13 o9) h13 fun t25 h14 =>
mg t20 false (fun o10 => bareK (ld1 h14 t25) h14 o10) h14 fun t26 h15 =>
mg t20 false (fun o11 => bareK (lenT t26) h15 o11) h15 fun t27 h16 =>
mg t20 false (fun o12 => bareK (xbin P .gtr T.int (.tmp 27) (.const (.int .i64 44)) t27 (.int .i64 44)) h16 o12) h16 fun t28 h17 =>
pickK t20 (.bool true) t28 fun t29 =>
mc t29 (fun k13 => k13 .ret [(2, (.bool false))] h17) (fun k13 =>
k13 .normal [(0, (get tT 0)), (3, (get tT 3))] h17) (blkK [0, 3] 1 k5)) (seqK (fun tT_1 h18 =>
bareK (xbin P .add T.int (.tmp 12) (.const (.int .i64 1)) (get tT_1 3) (.int .i64 1)) h18 fun t13 h19 =>
k .normal [(0, (get tT_1 0)), (3, t13)] h19) (afterK [0, 3] k))) (afterK [0, 3] k))

theorem s_law_small_eq (M : CombL) (C : CallF) (LP : LoopH) (a0 : Value) (H : AHeap) : dBodyL M Try.prog hints C LP F.law_small [a0] H = s_law_small M.b.g M.c M.s Try.prog C (fun v0 v3 H k => loopL M Try.prog hints C LP F.law_small 0 [(0, v0), (3, v3)] H k) a0 H (endK Try.prog [.tmp 2]) := by kernel_rfl

theorem s_law_small_b0_eq (M : CombL) (C : CallF) (LP : LoopH) (v0 : Value) (v3 : Value) (H : AHeap) (k : K) : bodyL M Try.prog hints C LP F.law_small 0 [(0, v0), (3, v3)] H (afterK [0, 3] k) = s_law_small_b0 M.b.g M.c M.s Try.prog C (fun v0 v3 H k => loopL M Try.prog hints C LP F.law_small 0 [(0, v0), (3, v3)] H k) v0 v3 H k := by kernel_rfl

/-! ticketline.ticketlinelaw48.filled -/

noncomputable def s_law_filled (mg : GT) (mc : CT) (ms : ST) (P : Program) (C : CallF) (L0 : Value → Value → Value → AHeap → K → Res) (a0 : Value) (H : AHeap) (K0 : K) : Res :=
bareK (bldS #[(.slice none 0 0)] [(0, 1)] []) H fun t5 h1 =>
bothK (newv T.model_Model t5 h1) fun t6 h2 =>
ms (fun k1 =>
L0 a0 t6 (.int .i64 0) h2 (blkK [3] 0 k1)) (seqK (fun tT h3 =>
K0 .ret [(2, (get tT 3))] h3) K0)

noncomputable def s_law_filled_b0 (mg : GT) (mc : CT) (ms : ST) (P : Program) (C : CallF) (L0 : Value → Value → Value → AHeap → K → Res) (v0 : Value) (v3 : Value) (v4 : Value) (H : AHeap) (k : K) : Res :=
bareK (lenS v0) H fun t9 h3 =>
bareK (xbin P .lss T.int (.tmp 7) (.tmp 9) v4 t9) h3 fun t10 h4 =>
mc t10 (fun k2 => k2 .normal [(0, v0), (3, v3), (4, v4)] h4) (fun k2 =>
k2 (.exit 0) [(10, t10), (9, t9), (8, v0), (7, v4), (0, v0), (3, v3), (4, v4)] h4) (seqK (fun tT h5 =>
ms (fun k3 =>
bareK (ixS 2 (get tT 0) (get tT 4)) h5 fun t16 h6 =>
bareK (fad 0 t16) h6 fun t17 h7 =>
bareK (ld1 h7 t17) h7 fun t18 h8 =>
bareK (ixS 2 (get tT 0) (get tT 4)) h8 fun t21 h9 =>
bareK (fad 1 t21) h9 fun t22 h10 =>
bareK (ld1 h10 t22) h10 fun t23 h11 =>
enterK C F.model_Model_Put [(get tT 3), t18, t23] h11 fun t24 h12 =>
checkK true <|
k3 .normal [(0, (get tT 0)), (3, (get tT 3)), (4, (get tT 4))] h12) (seqK (fun tT_1 h13 =>
bareK (xbin P .add T.int (.tmp 11) (.const (.int .i64 1)) (get tT_1 4) (.int .i64 1)) h13 fun t12 h14 =>
k .normal [(0, (get tT_1 0)), (3, (get tT_1 3)), (4, t12)] h14) (afterK [0, 3, 4] k))) (afterK [0, 3, 4] k))

theorem s_law_filled_eq (M : CombL) (C : CallF) (LP : LoopH) (a0 : Value) (H : AHeap) : dBodyL M Try.prog hints C LP F.law_filled [a0] H = s_law_filled M.b.g M.c M.s Try.prog C (fun v0 v3 v4 H k => loopL M Try.prog hints C LP F.law_filled 0 [(0, v0), (3, v3), (4, v4)] H k) a0 H (endK Try.prog [.tmp 2]) := by kernel_rfl

theorem s_law_filled_b0_eq (M : CombL) (C : CallF) (LP : LoopH) (v0 : Value) (v3 : Value) (v4 : Value) (H : AHeap) (k : K) : bodyL M Try.prog hints C LP F.law_filled 0 [(0, v0), (3, v3), (4, v4)] H (afterK [0, 3, 4] k) = s_law_filled_b0 M.b.g M.c M.s Try.prog C (fun v0 v3 v4 H k => loopL M Try.prog hints C LP F.law_filled 0 [(0, v0), (3, v3), (4, v4)] H k) v0 v3 v4 H k := by kernel_rfl

/-! ticketline.ticketlinelaw48.bytesOf -/

noncomputable def s_law_bytesOf (mg : GT) (mc : CT) (ms : ST) (P : Program) (C : CallF) (L0 : Value → Value → Value → AHeap → K → Res) (L1 : Value → Value → Value → Value → AHeap → K → Res) (a0 : Value) (H : AHeap) (K0 : K) : Res :=
bothK (bldL T.uint8 [(.int .u8 0)] 3 [(0, (.int .u8 84)), (1, (.int .u8 76)), (2, (.int .u8 1))] H) fun t6 h1 =>
bareK (lenS a0) h1 fun t8 h2 =>
enterK C F.law_many [t8, (.int .i64 4)] h2 fun t9 h3 =>
bothK (app T.uint8 1 1 t6 (srcS 1 t9 h3) h3) fun t10 h4 =>
ms (fun k1 =>
L0 a0 t10 (.int .i64 0) h4 (blkK [3] 0 k1)) (seqK (fun tT h5 =>
enterK C F.law_check [(get tT 3)] h5 fun t100 h6 =>
enterK C F.law_many [t100, (.int .i64 4)] h6 fun t101 h7 =>
bothK (app T.uint8 1 1 (get tT 3) (srcS 1 t101 h7) h7) fun t102 h8 =>
K0 .ret [(2, t102)] h8) K0)

noncomputable def s_law_bytesOf_b0 (mg : GT) (mc : CT) (ms : ST) (P : Program) (C : CallF) (L0 : Value → Value → Value → AHeap → K → Res) (L1 : Value → Value → Value → Value → AHeap → K → Res) (v0 : Value) (v3 : Value) (v4 : Value) (H : AHeap) (k : K) : Res :=
bareK (lenS v0) H fun t13 h5 =>
bareK (xbin P .lss T.int (.tmp 11) (.tmp 13) v4 t13) h5 fun t14 h6 =>
mc t14 (fun k2 => k2 .normal [(0, v0), (3, v3), (4, v4)] h6) (fun k2 =>
k2 (.exit 0) [(14, t14), (13, t13), (12, v0), (11, v4), (0, v0), (3, v3), (4, v4)] h6) (seqK (fun tT h7 =>
ms (fun k3 =>
ms (fun k4 =>
L1 (get tT 0) (get tT 3) (get tT 4) (.int .i64 0) h7 (blkK [0, 3, 4, 5] 2 k4)) (seqK (fun tT_1 h8 =>
bothK (xconv P T.int T.uint8 (get tT_1 5) h8) fun t62 h9 =>
bareK (ixS 2 (get tT_1 0) (get tT_1 4)) h9 fun t65 h10 =>
bareK (fad 0 t65) h10 fun t66 h11 =>
bareK (ld1 h11 t66) h11 fun t67 h12 =>
bareK (lenT t67) h12 fun t68 h13 =>
bareK (xbin P .sub T.int (.tmp 68) (.tmp 69) t68 (get tT_1 5)) h13 fun t70 h14 =>
bothK (xconv P T.int T.uint8 t70 h14) fun t71 h15 =>
bothK (bldL T.uint8 [(.int .u8 0)] 2 [(0, t62), (1, t71)] h15) fun t72 h16 =>
bothK (app T.uint8 1 1 (get tT_1 3) (srcS 1 t72 h16) h16) fun t73 h17 =>
bareK (ixS 2 (get tT_1 0) (get tT_1 4)) h17 fun t76 h18 =>
bareK (fad 0 t76) h18 fun t77 h19 =>
bareK (ld1 h19 t77) h19 fun t78 h20 =>
bareK (slT t78 (some (get tT_1 5)) none) h20 fun t80 h21 =>
bothK (app T.uint8 1 1 t73 (srcT t80) h21) fun t81 h22 =>
checkK (okV (some true) none h16 h17 h17 h17 && (okV (some true) none h16 h17 h17 h17 && (okV (some true) none h16 h17 h17 h18 && (okV (some true) none h16 h17 h18 h19 && (okV (some true) (blockOf t77) h16 h17 h19 h20 && (okV (some true) none h16 h17 h20 h20 && (okV (some true) (blockOf t78) h16 h17 h20 h21 && true))))))) <|
bareK (ixS 2 (get tT_1 0) (get tT_1 4)) h22 fun t85 h23 =>
bareK (fad 1 t85) h23 fun t86 h24 =>
bareK (ld1 h24 t86) h24 fun t87 h25 =>
bareK (lenT t87) h25 fun t88 h26 =>
bothK (xconv P T.int T.uint8 t88 h26) fun t89 h27 =>
bothK (bldL T.uint8 [(.int .u8 0)] 1 [(0, t89)] h27) fun t90 h28 =>
bothK (app T.uint8 1 1 t81 (srcS 1 t90 h28) h28) fun t91 h29 =>
bareK (ixS 2 (get tT_1 0) (get tT_1 4)) h29 fun t94 h30 =>
bareK (fad 1 t94) h30 fun t95 h31 =>
bareK (ld1 h31 t95) h31 fun t96 h32 =>
bothK (app T.uint8 1 1 t91 (srcT t96) h32) fun t97 h33 =>
checkK (okV (some true) none h28 h29 h29 h29 && (okV (some true) none h28 h29 h29 h29 && (okV (some true) none h28 h29 h29 h30 && (okV (some true) none h28 h29 h30 h31 && (okV (some true) (blockOf t95) h28 h29 h31 h32 && true))))) <|
k3 .normal [(0, (get tT_1 0)), (3, t97), (4, (get tT_1 4))] h33) (blkK [0, 3, 4] 1 k3))) (seqK (fun tT_2 h34 =>
bareK (xbin P .add T.int (.tmp 15) (.const (.int .i64 1)) (get tT_2 4) (.int .i64 1)) h34 fun t16 h35 =>
k .normal [(0, (get tT_2 0)), (3, (get tT_2 3)), (4, t16)] h35) (afterK [0, 3, 4] k))) (afterK [0, 3, 4] k))

noncomputable def s_law_bytesOf_b1 (mg : GT) (mc : CT) (ms : ST) (P : Program) (C : CallF) (L0 : Value → Value → Value → AHeap → K → Res) (L1 : Value → Value → Value → Value → AHeap → K → Res) (v0 : Value) (v3 : Value) (v4 : Value) (v5 : Value) (H : AHeap) (k : K) : Res :=
bareK (xbin P .gtr T.int (.tmp 17) (.const (.int .i64 0)) v4 (.int .i64 0)) H fun t18 h8 =>
mg t18 true (fun o5 => o5 v5 h8) h8 fun t20 h9 =>
mg t18 true (fun o6 => o6 v0 h9) h9 fun t21 h10 =>
mg t18 true (fun o7 => o7 v4 h10) h10 fun t22 h11 =>
mg t18 true (fun o8 => bareK (ixS 2 t21 t22) h11 o8) h11 fun t23 h12 =>
mg t18 true (fun o9 => bareK (fad 0 t23) h12 o9) h12 fun t24 h13 =>
mg t18 true (fun o10 => bareK (ld1 h13 t24) h13 o10) h13 fun t25 h14 =>
mg t18 true (fun o11 => bareK (lenT t25) h14 o11) h14 fun t26 h15 =>
mg t18 true (fun o12 => bareK (xbin P .lss T.int (.tmp 20) (.tmp 26) t20 t26) h15 o12) h15 fun t27 h16 =>
pickK t18 t27 (.bool false) fun t28 =>
mg t28 true (fun o13 => o13 v5 h16) h16 fun t30 h17 =>
mg t28 true (fun o14 => o14 v0 h17) h17 fun t31 h18 =>
mg t28 true (fun o15 => o15 v4 h18) h18 fun t32 h19 =>
mg t28 true (fun o16 => bareK (xbin P .sub T.int (.tmp 32) (.const (.int .i64 1)) t32 (.int .i64 1)) h19 o16) h19 fun t33 h20 =>
mg t28 true (fun o17 => bareK (ixS 2 t31 t33) h20 o17) h20 fun t34 h21 =>
mg t28 true (fun o18 => bareK (fad 0 t34) h21 o18) h21 fun t35 h22 =>
mg t28 true (fun o19 => bareK (ld1 h22 t35) h22 o19) h22 fun t36 h23 =>
mg t28 true (fun o20 => bareK (lenT t36) h23 o20) h23 fun t37 h24 =>
mg t28 true (fun o21 => bareK (xbin P .lss T.int (.tmp 30) (.tmp 37) t30 t37) h24 o21) h24 fun t38 h25 =>
pickK t28 t38 (.bool false) fun t39 =>
mg t39 true (fun o22 => o22 v0 h25) h25 fun t41 h26 =>
mg t39 true (fun o23 => o23 v4 h26) h26 fun t42 h27 =>
mg t39 true (fun o24 => bareK (ixS 2 t41 t42) h27 o24) h27 fun t43 h28 =>
mg t39 true (fun o25 => bareK (fad 0 t43) h28 o25) h28 fun t44 h29 =>
mg t39 true (fun o26 => bareK (ld1 h29 t44) h29 o26) h29 fun t45 h30 =>
mg t39 true (fun o27 => o27 v5 h30) h30 fun t46 h31 =>
mg t39 true (fun o28 => bareK (xindex P T.string t45 t46) h31 o28) h31 fun t47 h32 =>
mg t39 true (fun o29 => o29 v0 h32) h32 fun t48 h33 =>
mg t39 true (fun o30 => o30 v4 h33) h33 fun t49 h34 =>
mg t39 true (fun o31 => bareK (xbin P .sub T.int (.tmp 49) (.const (.int .i64 1)) t49 (.int .i64 1)) h34 o31) h34 fun t50 h35 =>
mg t39 true (fun o32 => bareK (ixS 2 t48 t50) h35 o32) h35 fun t51 h36 =>
mg t39 true (fun o33 => bareK (fad 0 t51) h36 o33) h36 fun t52 h37 =>
mg t39 true (fun o34 => bareK (ld1 h37 t52) h37 o34) h37 fun t53 h38 =>
mg t39 true (fun o35 => o35 v5 h38) h38 fun t54 h39 =>
mg t39 true (fun o36 => bareK (xindex P T.string t53 t54) h39 o36) h39 fun t55 h40 =>
mg t39 true (fun o37 => bareK (xbin P .eql T.uint8 (.tmp 47) (.tmp 55) t47 t55) h40 o37) h40 fun t56 h41 =>
pickK t39 t56 (.bool false) fun t57 =>
checkK true <|
mc t57 (fun k38 => k38 .normal [(0, v0), (3, v3), (4, v4), (5, v5)] h41) (fun k38 =>
k38 (.exit 2) [(57, t57), (56, t56), (55, t55), (54, t54), (53, t53), (52, t52), (51, t51), (50, t50), (49, t49), (48, t48), (47, t47), (46, t46), (45, t45), (44, t44), (43, t43), (42, t42), (41, t41), (40, t39), (39, t39), (38, t38), (37, t37), (36, t36), (35, t35), (34, t34), (33, t33), (32, t32), (31, t31), (30, t30), (29, t28), (28, t28), (27, t27), (26, t26), (25, t25), (24, t24), (23, t23), (22, t22), (21, t21), (20, t20), (19, t18), (18, t18), (17, v4), (0, v0), (3, v3), (4, v4), (5, v5)] h41) (seqK (fun tT h42 =>
ms (fun k39 =>
bareK (xbin P .add T.int (.tmp 58) (.const (.int .i64 1)) (get tT 5) (.int .i64 1)) h42 fun t59 h43 =>
k39 .normal [(0, (get tT 0)), (3, (get tT 3)), (4, (get tT 4)), (5, t59)] h43) (afterK [0, 3, 4, 5] k)) (afterK [0, 3, 4, 5] k))

theorem s_law_bytesOf_eq (M : CombL) (C : CallF) (LP : LoopH) (a0 : Value) (H : AHeap) : dBodyL M Try.prog hints C LP F.law_bytesOf [a0] H = s_law_bytesOf M.b.g M.c M.s Try.prog C (fun v0 v3 v4 H k => loopL M Try.prog hints C LP F.law_bytesOf 0 [(0, v0), (3, v3), (4, v4)] H k) (fun v0 v3 v4 v5 H k => loopL M Try.prog hints C LP F.law_bytesOf 1 [(0, v0), (3, v3), (4, v4), (5, v5)] H k) a0 H (endK Try.prog [.tmp 2]) := by kernel_rfl

theorem s_law_bytesOf_b0_eq (M : CombL) (C : CallF) (LP : LoopH) (v0 : Value) (v3 : Value) (v4 : Value) (H : AHeap) (k : K) : bodyL M Try.prog hints C LP F.law_bytesOf 0 [(0, v0), (3, v3), (4, v4)] H (afterK [0, 3, 4] k) = s_law_bytesOf_b0 M.b.g M.c M.s Try.prog C (fun v0 v3 v4 H k => loopL M Try.prog hints C LP F.law_bytesOf 0 [(0, v0), (3, v3), (4, v4)] H k) (fun v0 v3 v4 v5 H k => loopL M Try.prog hints C LP F.law_bytesOf 1 [(0, v0), (3, v3), (4, v4), (5, v5)] H k) v0 v3 v4 H k := by kernel_rfl

theorem s_law_bytesOf_b1_eq (M : CombL) (C : CallF) (LP : LoopH) (v0 : Value) (v3 : Value) (v4 : Value) (v5 : Value) (H : AHeap) (k : K) : bodyL M Try.prog hints C LP F.law_bytesOf 1 [(0, v0), (3, v3), (4, v4), (5, v5)] H (afterK [0, 3, 4, 5] k) = s_law_bytesOf_b1 M.b.g M.c M.s Try.prog C (fun v0 v3 v4 H k => loopL M Try.prog hints C LP F.law_bytesOf 0 [(0, v0), (3, v3), (4, v4)] H k) (fun v0 v3 v4 v5 H k => loopL M Try.prog hints C LP F.law_bytesOf 1 [(0, v0), (3, v3), (4, v4), (5, v5)] H k) v0 v3 v4 v5 H k := by kernel_rfl

/-! (*ticketline.model.Model).Pairs -/

noncomputable def s_model_Model_Pairs (mg : GT) (mc : CT) (ms : ST) (P : Program) (C : CallF) (a0 : Value) (H : AHeap) (K0 : K) : Res :=
bareK (xbin P .eql T.p_model_Model (.tmp 3) (.const (.pointer none)) a0 (.pointer none)) H fun t4 h1 =>
mc t4 (fun k1 => k1 .ret [(2, (.slice none 0 0))] h1) (fun k1 =>
k1 .normal [(0, a0)] h1) (seqK (fun tT h2 =>
bareK (xnilCheck (get tT 0)) h2 fun t6 h3 =>
bareK (fad 0 t6) h3 fun t7 h4 =>
bareK (ld1 h4 t7) h4 fun t8 h5 =>
enterK C F.slices_Clone_Pair [t8] h5 fun t9 h6 =>
K0 .ret [(2, t9)] h6) K0)

theorem s_model_Model_Pairs_eq (M : CombL) (C : CallF) (LP : LoopH) (a0 : Value) (H : AHeap) : dBodyL M Try.prog hints C LP F.model_Model_Pairs [a0] H = s_model_Model_Pairs M.b.g M.c M.s Try.prog C a0 H (endK Try.prog [.tmp 2]) := by kernel_rfl

/-! ticketline.backup.Check -/

noncomputable def s_backup_Check (mg : GT) (mc : CT) (ms : ST) (P : Program) (C : CallF) (L0 : Value → Value → Value → Value → Value → AHeap → K → Res) (a0 : Value) (H : AHeap) (K0 : K) : Res :=
bareK (lenS a0) H fun t8 h1 =>
ms (fun k1 =>
L0 (.int .u32 1) (.int .u32 0) a0 t8 (.int .i64 0) h1 (blkK [3, 4] 0 k1)) (seqK (fun tT h2 =>
bareK (xbin P .shl T.uint32 (.tmp 23) (.const (.int .u64 16)) (get tT 4) (.int .u64 16)) h2 fun t24 h3 =>
bareK (xbin P .or T.uint32 (.tmp 24) (.tmp 25) t24 (get tT 3)) h3 fun t26 h4 =>
K0 .ret [(2, t26)] h4) K0)

noncomputable def s_backup_Check_b0 (mg : GT) (mc : CT) (ms : ST) (P : Program) (C : CallF) (L0 : Value → Value → Value → Value → Value → AHeap → K → Res) (v3 : Value) (v4 : Value) (v7 : Value) (v8 : Value) (v9 : Value) (H : AHeap) (k : K) : Res :=
bareK (xbin P .lss T.int (.tmp 9) (.tmp 8) v9 v8) H fun t10 h2 =>
mc t10 (fun k2 => k2 .normal [(3, v3), (4, v4), (7, v7), (8, v8), (9, v9)] h2) (fun k2 =>
k2 (.exit 0) [(10, t10), (3, v3), (4, v4), (7, v7), (8, v8), (9, v9)] h2) (seqK (fun tT h3 =>
ms (fun k3 =>
bareK (ixS 1 (get tT 7) (get tT 9)) h3 fun t11 h4 =>
bareK (ld1 h4 t11) h4 fun t12 h5 =>
bothK (xconv P T.uint8 T.uint32 t12 h5) fun t15 h6 =>
bareK (xbin P .add T.uint32 (.tmp 13) (.tmp 15) (get tT 3) t15) h6 fun t16 h7 =>
bareK (xbin P .rem T.uint32 (.tmp 16) (.const (.int .u32 65521)) t16 (.int .u32 65521)) h7 fun t17 h8 =>
bareK (xbin P .add T.uint32 (.tmp 18) (.tmp 19) (get tT 4) t17) h8 fun t20 h9 =>
bareK (xbin P .rem T.uint32 (.tmp 20) (.const (.int .u32 65521)) t20 (.int .u32 65521)) h9 fun t21 h10 =>
k3 .normal [(3, t17), (4, t21), (7, (get tT 7)), (8, (get tT 8)), (9, (get tT 9))] h10) (seqK (fun tT_1 h11 =>
bareK (xbin P .add T.int (.tmp 9) (.const (.int .i64 1)) (get tT_1 9) (.int .i64 1)) h11 fun t22 h12 =>
k .normal [(3, (get tT_1 3)), (4, (get tT_1 4)), (7, (get tT_1 7)), (8, (get tT_1 8)), (9, t22)] h12) (afterK [3, 4, 7, 8, 9] k))) (afterK [3, 4, 7, 8, 9] k))

theorem s_backup_Check_eq (M : CombL) (C : CallF) (LP : LoopH) (a0 : Value) (H : AHeap) : dBodyL M Try.prog hints C LP F.backup_Check [a0] H = s_backup_Check M.b.g M.c M.s Try.prog C (fun v3 v4 v7 v8 v9 H k => loopL M Try.prog hints C LP F.backup_Check 0 [(3, v3), (4, v4), (7, v7), (8, v8), (9, v9)] H k) a0 H (endK Try.prog [.tmp 2]) := by kernel_rfl

theorem s_backup_Check_b0_eq (M : CombL) (C : CallF) (LP : LoopH) (v3 : Value) (v4 : Value) (v7 : Value) (v8 : Value) (v9 : Value) (H : AHeap) (k : K) : bodyL M Try.prog hints C LP F.backup_Check 0 [(3, v3), (4, v4), (7, v7), (8, v8), (9, v9)] H (afterK [3, 4, 7, 8, 9] k) = s_backup_Check_b0 M.b.g M.c M.s Try.prog C (fun v3 v4 v7 v8 v9 H k => loopL M Try.prog hints C LP F.backup_Check 0 [(3, v3), (4, v4), (7, v7), (8, v8), (9, v9)] H k) v3 v4 v7 v8 v9 H k := by kernel_rfl

/-! ticketline.ticketlinelaw48.check -/

noncomputable def s_law_check (mg : GT) (mc : CT) (ms : ST) (P : Program) (C : CallF) (L0 : Value → Value → Value → Value → AHeap → K → Res) (a0 : Value) (H : AHeap) (K0 : K) : Res :=
ms (fun k1 =>
L0 a0 (.int .i64 1) (.int .i64 0) (.int .i64 0) H (blkK [3, 4] 0 k1)) (seqK (fun tT h1 =>
bareK (xbin P .mul T.int (.const (.int .i64 65536)) (.tmp 24) (.int .i64 65536) (get tT 4)) h1 fun t25 h2 =>
bareK (xbin P .add T.int (.tmp 25) (.tmp 26) t25 (get tT 3)) h2 fun t27 h3 =>
K0 .ret [(2, t27)] h3) K0)

noncomputable def s_law_check_b0 (mg : GT) (mc : CT) (ms : ST) (P : Program) (C : CallF) (L0 : Value → Value → Value → Value → AHeap → K → Res) (v0 : Value) (v3 : Value) (v4 : Value) (v5 : Value) (H : AHeap) (k : K) : Res :=
bareK (lenS v0) H fun t8 h1 =>
bareK (xbin P .lss T.int (.tmp 6) (.tmp 8) v5 t8) h1 fun t9 h2 =>
mc t9 (fun k2 => k2 .normal [(0, v0), (3, v3), (4, v4), (5, v5)] h2) (fun k2 =>
k2 (.exit 0) [(9, t9), (8, t8), (7, v0), (6, v5), (0, v0), (3, v3), (4, v4), (5, v5)] h2) (seqK (fun tT h3 =>
ms (fun k3 =>
bareK (ixS 1 (get tT 0) (get tT 5)) h3 fun t15 h4 =>
bareK (ld1 h4 t15) h4 fun t16 h5 =>
bothK (xconv P T.uint8 T.int t16 h5) fun t17 h6 =>
bareK (xbin P .add T.int (.tmp 12) (.tmp 17) (get tT 3) t17) h6 fun t18 h7 =>
bareK (xbin P .rem T.int (.tmp 18) (.const (.int .i64 65521)) t18 (.int .i64 65521)) h7 fun t19 h8 =>
bareK (xbin P .add T.int (.tmp 20) (.tmp 21) (get tT 4) t19) h8 fun t22 h9 =>
bareK (xbin P .rem T.int (.tmp 22) (.const (.int .i64 65521)) t22 (.int .i64 65521)) h9 fun t23 h10 =>
k3 .normal [(0, (get tT 0)), (3, t19), (4, t23), (5, (get tT 5))] h10) (seqK (fun tT_1 h11 =>
bareK (xbin P .add T.int (.tmp 10) (.const (.int .i64 1)) (get tT_1 5) (.int .i64 1)) h11 fun t11 h12 =>
k .normal [(0, (get tT_1 0)), (3, (get tT_1 3)), (4, (get tT_1 4)), (5, t11)] h12) (afterK [0, 3, 4, 5] k))) (afterK [0, 3, 4, 5] k))

theorem s_law_check_eq (M : CombL) (C : CallF) (LP : LoopH) (a0 : Value) (H : AHeap) : dBodyL M Try.prog hints C LP F.law_check [a0] H = s_law_check M.b.g M.c M.s Try.prog C (fun v0 v3 v4 v5 H k => loopL M Try.prog hints C LP F.law_check 0 [(0, v0), (3, v3), (4, v4), (5, v5)] H k) a0 H (endK Try.prog [.tmp 2]) := by kernel_rfl

theorem s_law_check_b0_eq (M : CombL) (C : CallF) (LP : LoopH) (v0 : Value) (v3 : Value) (v4 : Value) (v5 : Value) (H : AHeap) (k : K) : bodyL M Try.prog hints C LP F.law_check 0 [(0, v0), (3, v3), (4, v4), (5, v5)] H (afterK [0, 3, 4, 5] k) = s_law_check_b0 M.b.g M.c M.s Try.prog C (fun v0 v3 v4 v5 H k => loopL M Try.prog hints C LP F.law_check 0 [(0, v0), (3, v3), (4, v4), (5, v5)] H k) v0 v3 v4 v5 H k := by kernel_rfl

/-! ticketline.ticketlinelaw48.encodes -/

noncomputable def s_law_encodes (mg : GT) (mc : CT) (ms : ST) (P : Program) (C : CallF) (a0 : Value) (a1 : Value) (a2 : Value) (H : AHeap) (K0 : K) : Res :=
enterK C F.backup_Encode [a0] H fun t11 h1 =>
bareK (xextract t11 0) h1 fun t12 h2 =>
bareK (xextract t11 1) h2 fun t13 h3 =>
bothK (xconv P T.sl_uint8 T.string t12 h3) fun t15 h4 =>
bothK (xconv P T.sl_uint8 T.string a1 h4) fun t17 h5 =>
bareK (xbin P .eql T.string (.tmp 15) (.tmp 17) t15 t17) h5 fun t18 h6 =>
mg t18 true (fun o1 => o1 t13 h6) h6 fun t20 h7 =>
mg t18 true (fun o2 => o2 a2 h7) h7 fun t21 h8 =>
mg t18 true (fun o3 => bareK (xbin P .eql T.int (.tmp 20) (.tmp 21) t20 t21) h8 o3) h8 fun t22 h9 =>
pickK t18 t22 (.bool false) fun t23 =>
K0 .ret [(6, t23)] h9

theorem s_law_encodes_eq (M : CombL) (C : CallF) (LP : LoopH) (a0 : Value) (a1 : Value) (a2 : Value) (H : AHeap) : dBodyL M Try.prog hints C LP F.law_encodes [a0, a1, a2] H = s_law_encodes M.b.g M.c M.s Try.prog C a0 a1 a2 H (endK Try.prog [.tmp 6]) := by kernel_rfl

/-! ticketline.ticketlinelaw48.many -/

noncomputable def s_law_many (mg : GT) (mc : CT) (ms : ST) (P : Program) (C : CallF) (L0 : Value → Value → Value → AHeap → K → Res) (a0 : Value) (a1 : Value) (H : AHeap) (K0 : K) : Res :=
bothK (mkS T.uint8 [(.int .u8 0)] 1 a1 a1 H) fun t8 h1 =>
bareK (xbin P .sub T.int (.tmp 9) (.const (.int .i64 1)) a1 (.int .i64 1)) h1 fun t10 h2 =>
ms (fun k1 =>
L0 a0 t8 t10 h2 (blkK [5] 0 k1)) (seqK (fun tT h3 =>
K0 .ret [(4, (get tT 5))] h3) K0)

noncomputable def s_law_many_b0 (mg : GT) (mc : CT) (ms : ST) (P : Program) (C : CallF) (L0 : Value → Value → Value → AHeap → K → Res) (v0 : Value) (v5 : Value) (v6 : Value) (H : AHeap) (k : K) : Res :=
bareK (xbin P .geq T.int (.tmp 11) (.const (.int .i64 0)) v6 (.int .i64 0)) H fun t12 h3 =>
mc t12 (fun k2 => k2 .normal [(0, v0), (5, v5), (6, v6)] h3) (fun k2 =>
k2 (.exit 0) [(12, t12), (11, v6), (0, v0), (5, v5), (6, v6)] h3) (seqK (fun tT h4 =>
ms (fun k3 =>
bareK (xbin P .rem T.int (.tmp 17) (.const (.int .i64 256)) (get tT 0) (.int .i64 256)) h4 fun t18 h5 =>
bothK (xconv P T.int T.uint8 t18 h5) fun t19 h6 =>
bareK (ixS 1 (get tT 5) (get tT 6)) h6 fun t20 h7 =>
quietK (st1 h7 t20 t19) fun _ h8 =>
bareK (xbin P .quo T.int (.tmp 21) (.const (.int .i64 256)) (get tT 0) (.int .i64 256)) h8 fun t22 h9 =>
k3 .normal [(0, t22), (5, (get tT 5)), (6, (get tT 6))] h9) (seqK (fun tT_1 h10 =>
bareK (xbin P .sub T.int (.tmp 13) (.const (.int .i64 1)) (get tT_1 6) (.int .i64 1)) h10 fun t14 h11 =>
k .normal [(0, (get tT_1 0)), (5, (get tT_1 5)), (6, t14)] h11) (afterK [0, 5, 6] k))) (afterK [0, 5, 6] k))

theorem s_law_many_eq (M : CombL) (C : CallF) (LP : LoopH) (a0 : Value) (a1 : Value) (H : AHeap) : dBodyL M Try.prog hints C LP F.law_many [a0, a1] H = s_law_many M.b.g M.c M.s Try.prog C (fun v0 v5 v6 H k => loopL M Try.prog hints C LP F.law_many 0 [(0, v0), (5, v5), (6, v6)] H k) a0 a1 H (endK Try.prog [.tmp 4]) := by kernel_rfl

theorem s_law_many_b0_eq (M : CombL) (C : CallF) (LP : LoopH) (v0 : Value) (v5 : Value) (v6 : Value) (H : AHeap) (k : K) : bodyL M Try.prog hints C LP F.law_many 0 [(0, v0), (5, v5), (6, v6)] H (afterK [0, 5, 6] k) = s_law_many_b0 M.b.g M.c M.s Try.prog C (fun v0 v5 v6 H k => loopL M Try.prog hints C LP F.law_many 0 [(0, v0), (5, v5), (6, v6)] H k) v0 v5 v6 H k := by kernel_rfl

/-! ticketline.ticketlinelaw48.right -/

noncomputable def s_law_right (mg : GT) (mc : CT) (ms : ST) (P : Program) (C : CallF) (a0 : Value) (H : AHeap) (K0 : K) : Res :=
bothK (app T.uint8 1 1 (.slice none 0 0) (srcS 1 a0 H) H) fun t7 h1 =>
enterK C F.law_read [a0] h1 fun t10 h2 =>
bareK (xextract t10 0) h2 fun t11 h3 =>
bareK (xextract t10 1) h3 fun t12 h4 =>
bareK (xun P .not t12) h4 fun t14 h5 =>
mc t14 (fun k1 => enterK C F.law_decodes [t7, (.pointer none), (.int .i64 12)] h5 fun t16 h6 =>
mg t16 true (fun o2 => o2 t7 h6) h6 fun t18 h7 =>
mg t16 true (fun o3 => bothK (xconv P T.sl_uint8 T.string t18 h7) o3) h7 fun t19 h8 =>
mg t16 true (fun o4 => o4 a0 h8) h8 fun t20 h9 =>
mg t16 true (fun o5 => bothK (xconv P T.sl_uint8 T.string t20 h9) o5) h9 fun t21 h10 =>
mg t16 true (fun o6 => bareK (xbin P .eql T.string (.tmp 19) (.tmp 21) t19 t21) h10 o6) h10 fun t22 h11 =>
pickK t16 t22 (.bool false) fun t23 =>
k1 .ret [(2, t23)] h11) (fun k1 =>
k1 .normal [(0, a0), (3, t7), (4, t11)] h5) (seqK (fun tT h12 =>
enterK C F.law_filled [(get tT 4)] h12 fun t26 h13 =>
enterK C F.law_decodes [(get tT 3), t26, (.int .i64 0)] h13 fun t27 h14 =>
mg t27 true (fun o7 => o7 (get tT 3) h14) h14 fun t29 h15 =>
mg t27 true (fun o8 => bothK (xconv P T.sl_uint8 T.string t29 h15) o8) h15 fun t30 h16 =>
mg t27 true (fun o9 => o9 (get tT 0) h16) h16 fun t31 h17 =>
mg t27 true (fun o10 => bothK (xconv P T.sl_uint8 T.string t31 h17) o10) h17 fun t32 h18 =>
mg t27 true (fun o11 => bareK (xbin P .eql T.string (.tmp 30) (.tmp 32) t30 t32) h18 o11) h18 fun t33 h19 =>
pickK t27 t33 (.bool false) fun t34 =>
K0 .ret [(2, t34)] h19) K0)

theorem s_law_right_eq (M : CombL) (C : CallF) (LP : LoopH) (a0 : Value) (H : AHeap) : dBodyL M Try.prog hints C LP F.law_right [a0] H = s_law_right M.b.g M.c M.s Try.prog C a0 H (endK Try.prog [.tmp 2]) := by kernel_rfl

/-! ticketline.backup.Encode -/

noncomputable def s_backup_Encode (mg : GT) (mc : CT) (ms : ST) (P : Program) (C : CallF) (L0 : Value → Value → Value → Value → Value → AHeap → K → Res) (a0 : Value) (H : AHeap) (K0 : K) : Res :=
bareK (xbin P .eql T.p_model_Model (.tmp 10) (.const (.pointer none)) a0 (.pointer none)) H fun t11 h1 =>
mc t11 (fun k1 => k1 .ret [(2, (.slice none 0 0)), (3, (.int .i64 1))] h1) (fun k1 =>
k1 .normal [(0, a0)] h1) (seqK (fun tT h2 =>
enterK C F.model_Model_Pairs [(get tT 0)] h2 fun t13 h3 =>
bothK (bldL T.uint8 [(.int .u8 0)] 3 [(0, (.int .u8 84)), (1, (.int .u8 76)), (2, (.int .u8 1))] h3) fun t14 h4 =>
bareK (lenS t13) h4 fun t16 h5 =>
bothK (xconv P T.int T.uint32 t16 h5) fun t17 h6 =>
enterK C F.backup_four [t17] h6 fun t18 h7 =>
bothK (app T.uint8 1 1 t14 (srcS 1 t18 h7) h7) fun t19 h8 =>
bareK (lenS t13) h8 fun t21 h9 =>
ms (fun k2 =>
L0 t19 (.string (mk [])) t13 t21 (.int .i64 0) h9 (blkK [5] 0 k2)) (seqK (fun tT_1 h10 =>
enterK C F.backup_Check [(get tT_1 5)] h10 fun t63 h11 =>
enterK C F.backup_four [t63] h11 fun t64 h12 =>
bothK (app T.uint8 1 1 (get tT_1 5) (srcS 1 t64 h12) h12) fun t65 h13 =>
K0 .ret [(2, t65), (3, (.int .i64 0))] h13) K0)) K0)

noncomputable def s_backup_Encode_b0 (mg : GT) (mc : CT) (ms : ST) (P : Program) (C : CallF) (L0 : Value → Value → Value → Value → Value → AHeap → K → Res) (v5 : Value) (v6 : Value) (v20 : Value) (v21 : Value) (v22 : Value) (H : AHeap) (k : K) : Res :=
bareK (xbin P .lss T.int (.tmp 22) (.tmp 21) v22 v21) H fun t23 h10 =>
mc t23 (fun k3 => k3 .normal [(5, v5), (6, v6), (20, v20), (21, v21), (22, v22)] h10) (fun k3 =>
k3 (.exit 0) [(23, t23), (5, v5), (6, v6), (20, v20), (21, v21), (22, v22)] h10) (seqK (fun tT h11 =>
ms (fun k4 =>
bareK (ixS 2 (get tT 20) (get tT 22)) h11 fun t24 h12 =>
bareK (ldN 2 h12 t24) h12 fun t25 h13 =>
bothK (newv T.api_Pair (.agg #[(.string (mk [])), (.string (mk []))]) h13) fun t8 h14 =>
quietK (stN 2 h14 t8 t25) fun _ h15 =>
bareK (fad 0 t8) h15 fun t27 h16 =>
bareK (ld1 h16 t27) h16 fun t28 h17 =>
enterK C F.keys_Prefix [(get tT 6), t28] h17 fun t29 h18 =>
bothK (xconv P T.int T.uint8 t29 h18) fun t32 h19 =>
bareK (fad 0 t8) h19 fun t33 h20 =>
bareK (ld1 h20 t33) h20 fun t34 h21 =>
bareK (lenT t34) h21 fun t35 h22 =>
bareK (xbin P .sub T.int (.tmp 35) (.tmp 36) t35 t29) h22 fun t37 h23 =>
bothK (xconv P T.int T.uint8 t37 h23) fun t38 h24 =>
bothK (bldL T.uint8 [(.int .u8 0)] 2 [(0, t32), (1, t38)] h24) fun t39 h25 =>
bothK (app T.uint8 1 1 (get tT 5) (srcS 1 t39 h25) h25) fun t40 h26 =>
bareK (fad 0 t8) h26 fun t42 h27 =>
bareK (ld1 h27 t42) h27 fun t43 h28 =>
bareK (slT t43 (some t29) none) h28 fun t45 h29 =>
bothK (app T.uint8 1 1 t40 (srcT t45) h29) fun t46 h30 =>
bareK (fad 1 t8) h30 fun t48 h31 =>
bareK (ld1 h31 t48) h31 fun t49 h32 =>
bareK (lenT t49) h32 fun t50 h33 =>
bothK (xconv P T.int T.uint8 t50 h33) fun t51 h34 =>
bothK (bldL T.uint8 [(.int .u8 0)] 1 [(0, t51)] h34) fun t52 h35 =>
bothK (app T.uint8 1 1 t46 (srcS 1 t52 h35) h35) fun t53 h36 =>
bareK (fad 1 t8) h36 fun t55 h37 =>
bareK (ld1 h37 t55) h37 fun t56 h38 =>
bothK (app T.uint8 1 1 t53 (srcT t56) h38) fun t57 h39 =>
bareK (fad 0 t8) h39 fun t58 h40 =>
bareK (ld1 h40 t58) h40 fun t59 h41 =>
k4 .normal [(5, t57), (6, t59), (20, (get tT 20)), (21, (get tT 21)), (22, (get tT 22))] h41) (seqK (fun tT_1 h42 =>
bareK (xbin P .add T.int (.tmp 22) (.const (.int .i64 1)) (get tT_1 22) (.int .i64 1)) h42 fun t60 h43 =>
k .normal [(5, (get tT_1 5)), (6, (get tT_1 6)), (20, (get tT_1 20)), (21, (get tT_1 21)), (22, t60)] h43) (afterK [5, 6, 20, 21, 22] k))) (afterK [5, 6, 20, 21, 22] k))

theorem s_backup_Encode_eq (M : CombL) (C : CallF) (LP : LoopH) (a0 : Value) (H : AHeap) : dBodyL M Try.prog hints C LP F.backup_Encode [a0] H = s_backup_Encode M.b.g M.c M.s Try.prog C (fun v5 v6 v20 v21 v22 H k => loopL M Try.prog hints C LP F.backup_Encode 0 [(5, v5), (6, v6), (20, v20), (21, v21), (22, v22)] H k) a0 H (endK Try.prog [.tmp 2, .tmp 3]) := by kernel_rfl

theorem s_backup_Encode_b0_eq (M : CombL) (C : CallF) (LP : LoopH) (v5 : Value) (v6 : Value) (v20 : Value) (v21 : Value) (v22 : Value) (H : AHeap) (k : K) : bodyL M Try.prog hints C LP F.backup_Encode 0 [(5, v5), (6, v6), (20, v20), (21, v21), (22, v22)] H (afterK [5, 6, 20, 21, 22] k) = s_backup_Encode_b0 M.b.g M.c M.s Try.prog C (fun v5 v6 v20 v21 v22 H k => loopL M Try.prog hints C LP F.backup_Encode 0 [(5, v5), (6, v6), (20, v20), (21, v21), (22, v22)] H k) v5 v6 v20 v21 v22 H k := by kernel_rfl

/-! ticketline.model.Equal -/

noncomputable def s_model_Equal (mg : GT) (mc : CT) (ms : ST) (P : Program) (C : CallF) (a0 : Value) (a1 : Value) (H : AHeap) (K0 : K) : Res :=
bareK (xbin P .eql T.p_model_Model (.tmp 6) (.const (.pointer none)) a0 (.pointer none)) H fun t7 h1 =>
bareK (xbin P .eql T.p_model_Model (.tmp 8) (.const (.pointer none)) a1 (.pointer none)) h1 fun t9 h2 =>
bareK (xbin P .neq T.bool (.tmp 7) (.tmp 9) t7 t9) h2 fun t10 h3 =>
mg t10 false (fun o1 => o1 (.func (.func F.model_Model_Len) #[] #[]) h3) h3 fun t12 h4 =>
mg t10 false (fun o2 => o2 a0 h4) h4 fun t13 h5 =>
mg t10 false (fun o3 => callK P C t12 [t13] h5 o3) h5 fun t14 h6 =>
mg t10 false (fun o4 => o4 (.func (.func F.model_Model_Len) #[] #[]) h6) h6 fun t15 h7 =>
mg t10 false (fun o5 => o5 a1 h7) h7 fun t16 h8 =>
mg t10 false (fun o6 => callK P C t15 [t16] h8 o6) h8 fun t17 h9 =>
mg t10 false (fun o7 => bareK (xbin P .neq T.int (.tmp 14) (.tmp 17) t14 t17) h9 o7) h9 fun t18 h10 =>
pickK t10 (.bool true) t18 fun t19 =>
mc t19 (fun k8 => k8 .ret [(4, (.bool false))] h10) (fun k8 =>
k8 .normal [(0, a0), (1, a1)] h10) (seqK (fun tT h11 =>
enterK C F.model_Model_Pairs [(get tT 0)] h11 fun t21 h12 =>
enterK C F.model_Model_Pairs [(get tT 1)] h12 fun t23 h13 =>
enterK C F.slices_Equal_Pair [t21, t23] h13 fun t24 h14 =>
K0 .ret [(4, t24)] h14) K0)

theorem s_model_Equal_eq (M : CombL) (C : CallF) (LP : LoopH) (a0 : Value) (a1 : Value) (H : AHeap) : dBodyL M Try.prog hints C LP F.model_Equal [a0, a1] H = s_model_Equal M.b.g M.c M.s Try.prog C a0 a1 H (endK Try.prog [.tmp 4]) := by kernel_rfl

/-! ticketline.backup.Decode -/

noncomputable def s_backup_Decode (mg : GT) (mc : CT) (ms : ST) (P : Program) (C : CallF) (L0 : Value → Value → Value → Value → Value → Value → AHeap → K → Res) (a0 : Value) (H : AHeap) (K0 : K) : Res :=
bareK (lenS a0) H fun t15 h1 =>
bareK (xbin P .gtr T.int (.tmp 15) (.const (.int .i64 4194304)) t15 (.int .i64 4194304)) h1 fun t16 h2 =>
mc t16 (fun k1 => k1 .ret [(2, (.pointer none)), (3, (.int .i64 5))] h2) (fun k1 =>
k1 .normal [(0, a0)] h2) (seqK (fun tT h3 =>
bareK (lenS (get tT 0)) h3 fun t18 h4 =>
bareK (xbin P .lss T.int (.tmp 18) (.const (.int .i64 7)) t18 (.int .i64 7)) h4 fun t19 h5 =>
mc t19 (fun k2 => k2 .ret [(2, (.pointer none)), (3, (.int .i64 12))] h5) (fun k2 =>
k2 .normal [(0, (get tT 0))] h5) (seqK (fun tT_1 h6 =>
bareK (bldS #[(.slice none 0 0)] [(0, 1)] []) h6 fun t20 h7 =>
bothK (newv T.model_Model t20 h7) fun t21 h8 =>
bareK (slS T.uint8 1 (get tT_1 0) (some (.int .i64 7)) none none h8) h8 fun t23 h9 =>
bareK (slS T.uint8 1 (get tT_1 0) (some (.int .i64 3)) (some (.int .i64 7)) none h9) h9 fun t25 h10 =>
enterK C F.backup_number [t25] h10 fun t26 h11 =>
ms (fun k3 =>
L0 (get tT_1 0) t21 t23 (.string (mk [])) t26 (.int .u32 0) h11 (blkK [0, 4] 0 k3)) (seqK (fun tT_2 h12 =>
enterK C F.backup_Encode [(get tT_2 4)] h12 fun t79 h13 =>
bareK (xextract t79 0) h13 fun t80 h14 =>
bareK (xextract t79 1) h14 fun t81 h15 =>
bareK (xbin P .neq T.api_Errno (.tmp 82) (.const (.int .i64 0)) t81 (.int .i64 0)) h15 fun t83 h16 =>
mg t83 false (fun o4 => o4 t80 h16) h16 fun t85 h17 =>
mg t83 false (fun o5 => o5 (get tT_2 0) h17) h17 fun t86 h18 =>
mg t83 false (fun o6 => enterK C F.bytes_Equal [t85, t86] h18 o6) h18 fun t87 h19 =>
mg t83 false (fun o7 => bareK (xun P .not t87) h19 o7) h19 fun t88 h20 =>
pickK t83 (.bool true) t88 fun t89 =>
mc t89 (fun k8 => k8 .ret [(2, (.pointer none)), (3, (.int .i64 12))] h20) (fun k8 =>
k8 .normal [(4, (get tT_2 4))] h20) (seqK (fun tT_3 h21 =>
K0 .ret [(2, (get tT_3 4)), (3, (.int .i64 0))] h21) K0)) K0)) K0)) K0)

noncomputable def s_backup_Decode_b0 (mg : GT) (mc : CT) (ms : ST) (P : Program) (C : CallF) (L0 : Value → Value → Value → Value → Value → Value → AHeap → K → Res) (v0 : Value) (v4 : Value) (v5 : Value) (v6 : Value) (v26 : Value) (v27 : Value) (H : AHeap) (k : K) : Res :=
bareK (xbin P .lss T.uint32 (.tmp 27) (.tmp 26) v27 v26) H fun t28 h12 =>
mc t28 (fun k4 => k4 .normal [(0, v0), (4, v4), (5, v5), (6, v6), (26, v26), (27, v27)] h12) (fun k4 =>
k4 (.exit 0) [(28, t28), (0, v0), (4, v4), (5, v5), (6, v6), (26, v26), (27, v27)] h12) (seqK (fun tT h13 =>
ms (fun k5 =>
bareK (lenS (get tT 5)) h13 fun t30 h14 =>
bareK (xbin P .eql T.int (.tmp 30) (.const (.int .i64 0)) t30 (.int .i64 0)) h14 fun t31 h15 =>
mg t31 false (fun o6 => o6 (get tT 5) h15) h15 fun t33 h16 =>
mg t31 false (fun o7 => bareK (ixS 1 t33 (.int .i64 0)) h16 o7) h16 fun t34 h17 =>
mg t31 false (fun o8 => bareK (ld1 h17 t34) h17 o8) h17 fun t35 h18 =>
mg t31 false (fun o9 => bothK (xconv P T.uint8 T.int t35 h18) o9) h18 fun t36 h19 =>
mg t31 false (fun o10 => o10 (get tT 6) h19) h19 fun t37 h20 =>
mg t31 false (fun o11 => bareK (lenT t37) h20 o11) h20 fun t38 h21 =>
mg t31 false (fun o12 => bareK (xbin P .gtr T.int (.tmp 36) (.tmp 38) t36 t38) h21 o12) h21 fun t39 h22 =>
pickK t31 (.bool true) t39 fun t40 =>
mc t40 (fun k13 => k13 .ret [(2, (.pointer none)), (3, (.int .i64 12))] h22) (fun k13 =>
k13 .normal [(0, (get tT 0)), (4, (get tT 4)), (5, (get tT 5)), (6, (get tT 6)), (26, (get tT 26)), (27, (get tT 27))] h22) (seqK (fun tT_1 h23 =>
bareK (ixS 1 (get tT_1 5) (.int .i64 0)) h23 fun t43 h24 =>
bareK (ld1 h24 t43) h24 fun t44 h25 =>
bareK (slT (get tT_1 6) none (some t44)) h25 fun t45 h26 =>
bareK (slS T.uint8 1 (get tT_1 5) (some (.int .i64 1)) none none h26) h26 fun t48 h27 =>
enterK C F.backup_take [t48] h27 fun t49 h28 =>
bareK (xextract t49 0) h28 fun t50 h29 =>
bareK (xextract t49 1) h29 fun t51 h30 =>
bareK (xextract t49 2) h30 fun t52 h31 =>
bareK (xun P .not t52) h31 fun t54 h32 =>
mc t54 (fun k14 => k14 .ret [(2, (.pointer none)), (3, (.int .i64 12))] h32) (fun k14 =>
k14 .normal [(0, (get tT_1 0)), (4, (get tT_1 4)), (7, t45), (8, t50), (9, t51), (26, (get tT_1 26)), (27, (get tT_1 27))] h32) (seqK (fun tT_2 h33 =>
enterK C F.backup_take [(get tT_2 9)] h33 fun t57 h34 =>
bareK (xextract t57 0) h34 fun t58 h35 =>
bareK (xextract t57 1) h35 fun t59 h36 =>
bareK (xextract t57 2) h36 fun t60 h37 =>
bareK (xun P .not t60) h37 fun t62 h38 =>
mg t62 false (fun o15 => o15 (get tT_2 4) h38) h38 fun t64 h39 =>
mg t62 false (fun o16 => o16 (get tT_2 7) h39) h39 fun t65 h40 =>
mg t62 false (fun o17 => o17 (get tT_2 8) h40) h40 fun t66 h41 =>
mg t62 false (fun o18 => bareK (xbin P .add T.string (.tmp 65) (.tmp 66) t65 t66) h41 o18) h41 fun t67 h42 =>
mg t62 false (fun o19 => o19 t58 h42) h42 fun t68 h43 =>
mg t62 false (fun o20 => enterK C F.model_Model_Insert [t64, t67, t68] h43 o20) h43 fun t69 h44 =>
mg t62 false (fun o21 => bareK (xbin P .neq T.api_Errno (.tmp 69) (.const (.int .i64 0)) t69 (.int .i64 0)) h44 o21) h44 fun t70 h45 =>
pickK t62 (.bool true) t70 fun t71 =>
mc t71 (fun k22 => k22 .ret [(2, (.pointer none)), (3, (.int .i64 12))] h45) (fun k22 =>
k22 .normal [(0, (get tT_2 0)), (4, (get tT_2 4)), (7, (get tT_2 7)), (8, (get tT_2 8)), (9, t59), (26, (get tT_2 26)), (27, (get tT_2 27))] h45) (seqK (fun tT_3 h46 =>
bareK (xbin P .add T.string (.tmp 73) (.tmp 74) (get tT_3 7) (get tT_3 8)) h46 fun t75 h47 =>
k5 .normal [(0, (get tT_3 0)), (4, (get tT_3 4)), (5, (get tT_3 9)), (6, t75), (26, (get tT_3 26)), (27, (get tT_3 27))] h47) (blkK [0, 4, 5, 6, 26, 27] 1 k5))) (blkK [0, 4, 5, 6, 26, 27] 1 k5))) (blkK [0, 4, 5, 6, 26, 27] 1 k5))) (seqK (fun tT_4 h48 =>
bareK (xbin P .add T.uint32 (.tmp 27) (.const (.int .u32 1)) (get tT_4 27) (.int .u32 1)) h48 fun t76 h49 =>
k .normal [(0, (get tT_4 0)), (4, (get tT_4 4)), (5, (get tT_4 5)), (6, (get tT_4 6)), (26, (get tT_4 26)), (27, t76)] h49) (afterK [0, 4, 5, 6, 26, 27] k))) (afterK [0, 4, 5, 6, 26, 27] k))

theorem s_backup_Decode_eq (M : CombL) (C : CallF) (LP : LoopH) (a0 : Value) (H : AHeap) : dBodyL M Try.prog hints C LP F.backup_Decode [a0] H = s_backup_Decode M.b.g M.c M.s Try.prog C (fun v0 v4 v5 v6 v26 v27 H k => loopL M Try.prog hints C LP F.backup_Decode 0 [(0, v0), (4, v4), (5, v5), (6, v6), (26, v26), (27, v27)] H k) a0 H (endK Try.prog [.tmp 2, .tmp 3]) := by kernel_rfl

theorem s_backup_Decode_b0_eq (M : CombL) (C : CallF) (LP : LoopH) (v0 : Value) (v4 : Value) (v5 : Value) (v6 : Value) (v26 : Value) (v27 : Value) (H : AHeap) (k : K) : bodyL M Try.prog hints C LP F.backup_Decode 0 [(0, v0), (4, v4), (5, v5), (6, v6), (26, v26), (27, v27)] H (afterK [0, 4, 5, 6, 26, 27] k) = s_backup_Decode_b0 M.b.g M.c M.s Try.prog C (fun v0 v4 v5 v6 v26 v27 H k => loopL M Try.prog hints C LP F.backup_Decode 0 [(0, v0), (4, v4), (5, v5), (6, v6), (26, v26), (27, v27)] H k) v0 v4 v5 v6 v26 v27 H k := by kernel_rfl

/-! ticketline.model.Of -/

noncomputable def s_model_Of (mg : GT) (mc : CT) (ms : ST) (P : Program) (C : CallF) (L0 : Value → Value → Value → Value → AHeap → K → Res) (a0 : Value) (H : AHeap) (K0 : K) : Res :=
bareK (lenS a0) H fun t8 h1 =>
ms (fun k1 =>
L0 a0 a0 t8 (.int .i64 0) h1 (blkK [0] 0 k1)) (seqK (fun tT h2 =>
bareK (lenS (get tT 0)) h2 fun t39 h3 =>
bareK (xbin P .gtr T.int (.tmp 39) (.const (.int .i64 20000)) t39 (.int .i64 20000)) h3 fun t40 h4 =>
mc t40 (fun k2 => k2 .ret [(2, (.pointer none)), (3, (.int .i64 7))] h4) (fun k2 =>
k2 .normal [(0, (get tT 0))] h4) (seqK (fun tT_1 h5 =>
enterK C F.slices_Clone_Pair [(get tT_1 0)] h5 fun t42 h6 =>
bareK (bldS #[(.slice none 0 0)] [(0, 1)] [(0, t42)]) h6 fun t43 h7 =>
bothK (newv T.model_Model t43 h7) fun t44 h8 =>
K0 .ret [(2, t44), (3, (.int .i64 0))] h8) K0)) K0)

noncomputable def s_model_Of_b0 (mg : GT) (mc : CT) (ms : ST) (P : Program) (C : CallF) (L0 : Value → Value → Value → Value → AHeap → K → Res) (v0 : Value) (v7 : Value) (v8 : Value) (v9 : Value) (H : AHeap) (k : K) : Res :=
bareK (xbin P .lss T.int (.tmp 9) (.tmp 8) v9 v8) H fun t10 h2 =>
mc t10 (fun k2 => k2 .normal [(0, v0), (7, v7), (8, v8), (9, v9)] h2) (fun k2 =>
k2 (.exit 0) [(10, t10), (0, v0), (7, v7), (8, v8), (9, v9)] h2) (seqK (fun tT h3 =>
ms (fun k3 =>
bareK (ixS 2 (get tT 7) (get tT 9)) h3 fun t12 h4 =>
bareK (ldN 2 h4 t12) h4 fun t13 h5 =>
bothK (newv T.api_Pair (.agg #[(.string (mk [])), (.string (mk []))]) h5) fun t5 h6 =>
quietK (stN 2 h6 t5 t13) fun _ h7 =>
bareK (fad 0 t5) h7 fun t14 h8 =>
bareK (ld1 h8 t14) h8 fun t15 h9 =>
bareK (fad 1 t5) h9 fun t16 h10 =>
bareK (ld1 h10 t16) h10 fun t17 h11 =>
bothK (bldL T.string [(.string (mk []))] 1 [(0, t17)] h11) fun t18 h12 =>
enterK C F.model_check [t15, t18] h12 fun t19 h13 =>
bareK (xbin P .neq T.api_Errno (.tmp 20) (.const (.int .i64 0)) t19 (.int .i64 0)) h13 fun t21 h14 =>
mc t21 (fun k4 => k4 .ret [(2, (.pointer none)), (3, t19)] h14) (fun k4 =>
k4 .normal [(0, (get tT 0)), (4, (get tT 9)), (5, t5), (7, (get tT 7)), (8, (get tT 8)), (9, (get tT 9))] h14) (seqK (fun tT_1 h15 =>
bareK (xbin P .gtr T.int (.tmp 23) (.const (.int .i64 0)) (get tT_1 4) (.int .i64 0)) h15 fun t24 h16 =>
mg t24 true (fun o5 => o5 (get tT_1 0) h16) h16 fun t26 h17 =>
mg t24 true (fun o6 => o6 (get tT_1 4) h17) h17 fun t27 h18 =>
mg t24 true (fun o7 => bareK (xbin P .sub T.int (.tmp 27) (.const (.int .i64 1)) t27 (.int .i64 1)) h18 o7) h18 fun t28 h19 =>
mg t24 true (fun o8 => bareK (ixS 2 t26 t28) h19 o8) h19 fun t29 h20 =>
mg t24 true (fun o9 => bareK (fad 0 t29) h20 o9) h20 fun t30 h21 =>
mg t24 true (fun o10 => bareK (ld1 h21 t30) h21 o10) h21 fun t31 h22 =>
mg t24 true (fun o11 => bareK (fad 0 (get tT_1 5)) h22 o11) h22 fun t32 h23 =>
mg t24 true (fun o12 => bareK (ld1 h23 t32) h23 o12) h23 fun t33 h24 =>
mg t24 true (fun o13 => enterK C F.keys_Compare [t31, t33] h24 o13) h24 fun t34 h25 =>
mg t24 true (fun o14 => bareK (xbin P .geq T.int (.tmp 34) (.const (.int .i64 0)) t34 (.int .i64 0)) h25 o14) h25 fun t35 h26 =>
pickK t24 t35 (.bool false) fun t36 =>
checkK true <|
mc t36 (fun k15 => k15 .ret [(2, (.pointer none)), (3, (.int .i64 13))] h26) (fun k15 =>
k15 .normal [(0, (get tT_1 0)), (7, (get tT_1 7)), (8, (get tT_1 8)), (9, (get tT_1 9))] h26) (blkK [0, 7, 8, 9] 1 k3)) (blkK [0, 7, 8, 9] 1 k3))) (seqK (fun tT_2 h27 =>
bareK (xbin P .add T.int (.tmp 9) (.const (.int .i64 1)) (get tT_2 9) (.int .i64 1)) h27 fun t37 h28 =>
k .normal [(0, (get tT_2 0)), (7, (get tT_2 7)), (8, (get tT_2 8)), (9, t37)] h28) (afterK [0, 7, 8, 9] k))) (afterK [0, 7, 8, 9] k))

theorem s_model_Of_eq (M : CombL) (C : CallF) (LP : LoopH) (a0 : Value) (H : AHeap) : dBodyL M Try.prog hints C LP F.model_Of [a0] H = s_model_Of M.b.g M.c M.s Try.prog C (fun v0 v7 v8 v9 H k => loopL M Try.prog hints C LP F.model_Of 0 [(0, v0), (7, v7), (8, v8), (9, v9)] H k) a0 H (endK Try.prog [.tmp 2, .tmp 3]) := by kernel_rfl

theorem s_model_Of_b0_eq (M : CombL) (C : CallF) (LP : LoopH) (v0 : Value) (v7 : Value) (v8 : Value) (v9 : Value) (H : AHeap) (k : K) : bodyL M Try.prog hints C LP F.model_Of 0 [(0, v0), (7, v7), (8, v8), (9, v9)] H (afterK [0, 7, 8, 9] k) = s_model_Of_b0 M.b.g M.c M.s Try.prog C (fun v0 v7 v8 v9 H k => loopL M Try.prog hints C LP F.model_Of 0 [(0, v0), (7, v7), (8, v8), (9, v9)] H k) v0 v7 v8 v9 H k := by kernel_rfl

/-! ticketline.ticketlinelaw48.same -/

noncomputable def s_law_same (mg : GT) (mc : CT) (ms : ST) (P : Program) (C : CallF) (L0 : Value → Value → Value → AHeap → K → Res) (a0 : Value) (a1 : Value) (H : AHeap) (K0 : K) : Res :=
bareK (lenS a0) H fun t7 h1 =>
bareK (lenS a1) h1 fun t9 h2 =>
bareK (xbin P .neq T.int (.tmp 7) (.tmp 9) t7 t9) h2 fun t10 h3 =>
mc t10 (fun k1 => k1 .ret [(4, (.bool false))] h3) (fun k1 =>
k1 .normal [(0, a0), (1, a1)] h3) (seqK (fun tT h4 =>
ms (fun k2 =>
L0 (get tT 0) (get tT 1) (.int .i64 0) h4 (blkK [] 0 k2)) (seqK (fun tT_1 h5 =>
K0 .ret [(4, (.bool true))] h5) K0)) K0)

noncomputable def s_law_same_b0 (mg : GT) (mc : CT) (ms : ST) (P : Program) (C : CallF) (L0 : Value → Value → Value → AHeap → K → Res) (v0 : Value) (v1 : Value) (v5 : Value) (H : AHeap) (k : K) : Res :=
bareK (lenS v0) H fun t13 h5 =>
bareK (xbin P .lss T.int (.tmp 11) (.tmp 13) v5 t13) h5 fun t14 h6 =>
mc t14 (fun k3 => k3 .normal [(0, v0), (1, v1), (5, v5)] h6) (fun k3 =>
k3 (.exit 0) [(14, t14), (13, t13), (12, v0), (11, v5), (0, v0), (1, v1), (5, v5)] h6) (seqK (fun tT h7 =>
ms (fun k4 =>
bareK (ixS 1 (get tT 0) (get tT 5)) h7 fun t19 h8 =>
bareK (ld1 h8 t19) h8 fun t20 h9 =>
bothK (xconv P T.sl_uint8 T.string t20 h9) fun t21 h10 =>
bareK (ixS 1 (get tT 1) (get tT 5)) h10 fun t24 h11 =>
bareK (ld1 h11 t24) h11 fun t25 h12 =>
bothK (xconv P T.sl_uint8 T.string t25 h12) fun t26 h13 =>
bareK (xbin P .neq T.string (.tmp 21) (.tmp 26) t21 t26) h13 fun t27 h14 =>
checkK true <|
mc t27 (fun k5 => k5 .ret [(4, (.bool false))] h14) (fun k5 =>
k5 .normal [(0, (get tT 0)), (1, (get tT 1)), (5, (get tT 5))] h14) (blkK [0, 1, 5] 1 k4)) (seqK (fun tT_1 h15 =>
bareK (xbin P .add T.int (.tmp 15) (.const (.int .i64 1)) (get tT_1 5) (.int .i64 1)) h15 fun t16 h16 =>
k .normal [(0, (get tT_1 0)), (1, (get tT_1 1)), (5, t16)] h16) (afterK [0, 1, 5] k))) (afterK [0, 1, 5] k))

theorem s_law_same_eq (M : CombL) (C : CallF) (LP : LoopH) (a0 : Value) (a1 : Value) (H : AHeap) : dBodyL M Try.prog hints C LP F.law_same [a0, a1] H = s_law_same M.b.g M.c M.s Try.prog C (fun v0 v1 v5 H k => loopL M Try.prog hints C LP F.law_same 0 [(0, v0), (1, v1), (5, v5)] H k) a0 a1 H (endK Try.prog [.tmp 4]) := by kernel_rfl

theorem s_law_same_b0_eq (M : CombL) (C : CallF) (LP : LoopH) (v0 : Value) (v1 : Value) (v5 : Value) (H : AHeap) (k : K) : bodyL M Try.prog hints C LP F.law_same 0 [(0, v0), (1, v1), (5, v5)] H (afterK [0, 1, 5] k) = s_law_same_b0 M.b.g M.c M.s Try.prog C (fun v0 v1 v5 H k => loopL M Try.prog hints C LP F.law_same 0 [(0, v0), (1, v1), (5, v5)] H k) v0 v1 v5 H k := by kernel_rfl

/-! ticketline.backup.Join -/

noncomputable def s_backup_Join (mg : GT) (mc : CT) (ms : ST) (P : Program) (C : CallF) (L0 : Value → Value → Value → Value → Value → AHeap → K → Res) (L1 : Value → Value → Value → Value → AHeap → K → Res) (L2 : Value → Value → Value → Value → Value → AHeap → K → Res) (L3 : Value → Value → Value → Value → Value → AHeap → K → Res) (a0 : Value) (H : AHeap) (K0 : K) : Res :=
bareK (lenS a0) H fun t18 h1 =>
bareK (xbin P .gtr T.int (.tmp 18) (.const (.int .i64 65535)) t18 (.int .i64 65535)) h1 fun t19 h2 =>
mc t19 (fun k1 => k1 .ret [(2, (.slice none 0 0)), (3, (.int .i64 5))] h2) (fun k1 =>
k1 .normal [(0, a0)] h2) (seqK (fun tT h3 =>
bareK (lenS (get tT 0)) h3 fun t21 h4 =>
ms (fun k2 =>
L0 (get tT 0) (.int .i64 0) (get tT 0) t21 (.int .i64 0) h4 (blkK [0, 4] 0 k2)) (seqK (fun tT_1 h5 =>
bareK (xbin P .gtr T.int (.tmp 33) (.const (.int .i64 4194304)) (get tT_1 4) (.int .i64 4194304)) h5 fun t34 h6 =>
mc t34 (fun k3 => k3 .ret [(2, (.slice none 0 0)), (3, (.int .i64 5))] h6) (fun k3 =>
k3 .normal [(0, (get tT_1 0))] h6) (seqK (fun tT_2 h7 =>
bareK (lenS (get tT_2 0)) h7 fun t36 h8 =>
ms (fun k4 =>
L1 (get tT_2 0) (get tT_2 0) t36 (.int .i64 0) h8 (blkK [0] 2 k4)) (seqK (fun tT_3 h9 =>
bareK (lenS (get tT_3 0)) h9 fun t55 h10 =>
bareK (xbin P .eql T.int (.tmp 55) (.const (.int .i64 0)) t55 (.int .i64 0)) h10 fun t56 h11 =>
mc t56 (fun k5 => k5 .ret [(2, (.slice none 0 0)), (3, (.int .i64 4))] h11) (fun k5 =>
k5 .normal [(0, (get tT_3 0))] h11) (seqK (fun tT_4 h12 =>
bothK (xmakeMap P T.map_uint32_uint8 none h12) fun t57 h13 =>
bareK (lenS (get tT_4 0)) h13 fun t59 h14 =>
ms (fun k6 =>
L2 (get tT_4 0) t57 (get tT_4 0) t59 (.int .i64 0) h14 (blkK [0, 9] 4 k6)) (seqK (fun tT_5 h15 =>
bareK (xlenM P [T.map_uint32_uint8] (get tT_5 9) h15) h15 fun t109 h16 =>
bareK (ixS 1 (get tT_5 0) (.int .i64 0)) h16 fun t111 h17 =>
bareK (ld1 h17 t111) h17 fun t112 h18 =>
bareK (slS T.uint8 1 t112 (some (.int .i64 6)) (some (.int .i64 8)) none h18) h18 fun t113 h19 =>
enterK C F.backup_number [t113] h19 fun t114 h20 =>
bothK (xconv P T.uint32 T.int t114 h20) fun t115 h21 =>
bareK (xbin P .lss T.int (.tmp 109) (.tmp 115) t109 t115) h21 fun t116 h22 =>
checkK true <|
mc t116 (fun k7 => k7 .ret [(2, (.slice none 0 0)), (3, (.int .i64 4))] h22) (fun k7 =>
k7 .normal [(0, (get tT_5 0)), (9, (get tT_5 9))] h22) (seqK (fun tT_6 h23 =>
bareK (xlenM P [T.map_uint32_uint8] (get tT_6 9) h23) h23 fun t118 h24 =>
ms (fun k8 =>
L3 (get tT_6 0) (get tT_6 9) (.slice none 0 0) t118 (.int .i64 0) h24 (blkK [0, 15] 6 k8)) (seqK (fun tT_7 h25 =>
enterK C F.backup_Check [(get tT_7 15)] h25 fun t130 h26 =>
bareK (ixS 1 (get tT_7 0) (.int .i64 0)) h26 fun t132 h27 =>
bareK (ld1 h27 t132) h27 fun t133 h28 =>
bareK (slS T.uint8 1 t133 none (some (.int .i64 4)) none h28) h28 fun t134 h29 =>
enterK C F.backup_number [t134] h29 fun t135 h30 =>
bareK (xbin P .neq T.uint32 (.tmp 130) (.tmp 135) t130 t135) h30 fun t136 h31 =>
checkK (okV (some true) none h25 h26 h26 h26 && (okV (some true) none h25 h26 h26 h27 && (okV (some true) (blockOf t132) h25 h26 h27 h28 && (okV (some true) (blockOf t133) h25 h26 h28 h29 && true)))) <|
mc t136 (fun k9 => k9 .ret [(2, (.slice none 0 0)), (3, (.int .i64 10))] h31) (fun k9 =>
k9 .normal [(15, (get tT_7 15))] h31) (seqK (fun tT_8 h32 =>
K0 .ret [(2, (get tT_8 15)), (3, (.int .i64 0))] h32) K0)) K0)) K0)) K0)) K0)) K0)) K0)) K0)) K0)

noncomputable def s_backup_Join_b0 (mg : GT) (mc : CT) (ms : ST) (P : Program) (C : CallF) (L0 : Value → Value → Value → Value → Value → AHeap → K → Res) (L1 : Value → Value → Value → Value → AHeap → K → Res) (L2 : Value → Value → Value → Value → Value → AHeap → K → Res) (L3 : Value → Value → Value → Value → Value → AHeap → K → Res) (v0 : Value) (v4 : Value) (v20 : Value) (v21 : Value) (v22 : Value) (H : AHeap) (k : K) : Res :=
bareK (xbin P .lss T.int (.tmp 22) (.tmp 21) v22 v21) H fun t23 h5 =>
mc t23 (fun k3 => k3 .normal [(0, v0), (4, v4), (20, v20), (21, v21), (22, v22)] h5) (fun k3 =>
k3 (.exit 0) [(23, t23), (0, v0), (4, v4), (20, v20), (21, v21), (22, v22)] h5) (seqK (fun tT h6 =>
ms (fun k4 =>
bareK (ixS 1 (get tT 20) (get tT 22)) h6 fun t24 h7 =>
bareK (ld1 h7 t24) h7 fun t25 h8 =>
bareK (lenS t25) h8 fun t28 h9 =>
bareK (xbin P .sub T.int (.tmp 28) (.const (.int .i64 8)) t28 (.int .i64 8)) h9 fun t29 h10 =>
nextK C h10 (xbuiltin P .max [T.int, T.int] [(.int .i64 0), t29] h10) fun t30 h11 =>
bareK (xbin P .add T.int (.tmp 26) (.tmp 30) (get tT 4) t30) h11 fun t31 h12 =>
k4 .normal [(0, (get tT 0)), (4, t31), (20, (get tT 20)), (21, (get tT 21)), (22, (get tT 22))] h12) (seqK (fun tT_1 h13 =>
bareK (xbin P .add T.int (.tmp 22) (.const (.int .i64 1)) (get tT_1 22) (.int .i64 1)) h13 fun t32 h14 =>
k .normal [(0, (get tT_1 0)), (4, (get tT_1 4)), (20, (get tT_1 20)), (21, (get tT_1 21)), (22, t32)] h14) (afterK [0, 4, 20, 21, 22] k))) (afterK [0, 4, 20, 21, 22] k))

noncomputable def s_backup_Join_b1 (mg : GT) (mc : CT) (ms : ST) (P : Program) (C : CallF) (L0 : Value → Value → Value → Value → Value → AHeap → K → Res) (L1 : Value → Value → Value → Value → AHeap → K → Res) (L2 : Value → Value → Value → Value → Value → AHeap → K → Res) (L3 : Value → Value → Value → Value → Value → AHeap → K → Res) (v0 : Value) (v35 : Value) (v36 : Value) (v37 : Value) (H : AHeap) (k : K) : Res :=
bareK (xbin P .lss T.int (.tmp 37) (.tmp 36) v37 v36) H fun t38 h9 =>
mc t38 (fun k5 => k5 .normal [(0, v0), (35, v35), (36, v36), (37, v37)] h9) (fun k5 =>
k5 (.exit 2) [(38, t38), (0, v0), (35, v35), (36, v36), (37, v37)] h9) (seqK (fun tT h10 =>
ms (fun k6 =>
bareK (ixS 1 (get tT 35) (get tT 37)) h10 fun t39 h11 =>
bareK (ld1 h11 t39) h11 fun t40 h12 =>
bareK (lenS t40) h12 fun t42 h13 =>
bareK (xbin P .lss T.int (.tmp 42) (.const (.int .i64 8)) t42 (.int .i64 8)) h13 fun t43 h14 =>
mg t43 false (fun o7 => o7 t40 h14) h14 fun t45 h15 =>
mg t43 false (fun o8 => bareK (slS T.uint8 1 t45 (some (.int .i64 4)) (some (.int .i64 6)) none h15) h15 o8) h15 fun t46 h16 =>
mg t43 false (fun o9 => enterK C F.backup_number [t46] h16 o9) h16 fun t47 h17 =>
mg t43 false (fun o10 => o10 t40 h17) h17 fun t48 h18 =>
mg t43 false (fun o11 => bareK (slS T.uint8 1 t48 (some (.int .i64 6)) (some (.int .i64 8)) none h18) h18 o11) h18 fun t49 h19 =>
mg t43 false (fun o12 => enterK C F.backup_number [t49] h19 o12) h19 fun t50 h20 =>
mg t43 false (fun o13 => bareK (xbin P .geq T.uint32 (.tmp 47) (.tmp 50) t47 t50) h20 o13) h20 fun t51 h21 =>
pickK t43 (.bool true) t51 fun t52 =>
checkK (okV (goesV t43 false) none h16 h17 h17 h18 && (okV (goesV t43 false) (blockOf t48) h16 h17 h18 h19 && true)) <|
mc t52 (fun k14 => k14 .ret [(2, (.slice none 0 0)), (3, (.int .i64 12))] h21) (fun k14 =>
k14 .normal [(0, (get tT 0)), (35, (get tT 35)), (36, (get tT 36)), (37, (get tT 37))] h21) (blkK [0, 35, 36, 37] 3 k6)) (seqK (fun tT_1 h22 =>
bareK (xbin P .add T.int (.tmp 37) (.const (.int .i64 1)) (get tT_1 37) (.int .i64 1)) h22 fun t53 h23 =>
k .normal [(0, (get tT_1 0)), (35, (get tT_1 35)), (36, (get tT_1 36)), (37, t53)] h23) (afterK [0, 35, 36, 37] k))) (afterK [0, 35, 36, 37] k))

noncomputable def s_backup_Join_b2 (mg : GT) (mc : CT) (ms : ST) (P : Program) (C : CallF) (L0 : Value → Value → Value → Value → Value → AHeap → K → Res) (L1 : Value → Value → Value → Value → AHeap → K → Res) (L2 : Value → Value → Value → Value → Value → AHeap → K → Res) (L3 : Value → Value → Value → Value → Value → AHeap → K → Res) (v0 : Value) (v9 : Value) (v58 : Value) (v59 : Value) (v60 : Value) (H : AHeap) (k : K) : Res :=
bareK (xbin P .lss T.int (.tmp 60) (.tmp 59) v60 v59) H fun t61 h15 =>
mc t61 (fun k7 => k7 .normal [(0, v0), (9, v9), (58, v58), (59, v59), (60, v60)] h15) (fun k7 =>
k7 (.exit 4) [(61, t61), (0, v0), (9, v9), (58, v58), (59, v59), (60, v60)] h15) (seqK (fun tT h16 =>
ms (fun k8 =>
bareK (ixS 1 (get tT 58) (get tT 60)) h16 fun t62 h17 =>
bareK (ld1 h17 t62) h17 fun t63 h18 =>
bareK (slS T.uint8 1 t63 (some (.int .i64 4)) (some (.int .i64 6)) none h18) h18 fun t65 h19 =>
enterK C F.backup_number [t65] h19 fun t66 h20 =>
bareK (xlookup P T.map_uint32_uint8 (get tT 9) t66 true h20) h20 fun t70 h21 =>
bareK (xextract t70 0) h21 fun t71 h22 =>
bareK (xextract t70 1) h22 fun t72 h23 =>
bareK (slS T.uint8 1 t63 none (some (.int .i64 4)) none h23) h23 fun t74 h24 =>
enterK C F.backup_number [t74] h24 fun t75 h25 =>
bareK (ixS 1 (get tT 0) (.int .i64 0)) h25 fun t77 h26 =>
bareK (ld1 h26 t77) h26 fun t78 h27 =>
bareK (slS T.uint8 1 t78 none (some (.int .i64 4)) none h27) h27 fun t79 h28 =>
enterK C F.backup_number [t79] h28 fun t80 h29 =>
bareK (xbin P .neq T.uint32 (.tmp 75) (.tmp 80) t75 t80) h29 fun t81 h30 =>
mg t81 false (fun o9 => o9 t63 h30) h30 fun t83 h31 =>
mg t81 false (fun o10 => bareK (slS T.uint8 1 t83 (some (.int .i64 6)) (some (.int .i64 8)) none h31) h31 o10) h31 fun t84 h32 =>
mg t81 false (fun o11 => enterK C F.backup_number [t84] h32 o11) h32 fun t85 h33 =>
mg t81 false (fun o12 => o12 (get tT 0) h33) h33 fun t86 h34 =>
mg t81 false (fun o13 => bareK (ixS 1 t86 (.int .i64 0)) h34 o13) h34 fun t87 h35 =>
mg t81 false (fun o14 => bareK (ld1 h35 t87) h35 o14) h35 fun t88 h36 =>
mg t81 false (fun o15 => bareK (slS T.uint8 1 t88 (some (.int .i64 6)) (some (.int .i64 8)) none h36) h36 o15) h36 fun t89 h37 =>
mg t81 false (fun o16 => enterK C F.backup_number [t89] h37 o16) h37 fun t90 h38 =>
mg t81 false (fun o17 => bareK (xbin P .neq T.uint32 (.tmp 85) (.tmp 90) t85 t90) h38 o17) h38 fun t91 h39 =>
pickK t81 (.bool true) t91 fun t92 =>
mg t92 false (fun o18 => o18 t72 h39) h39 fun t94 h40 =>
mg t92 false (fun o19 => o19 t94 h40) h40 fun t95 h41 =>
mg t95 true (fun o20 => o20 t71 h41) h41 fun t96 h42 =>
mg t95 true (fun o21 => o21 t63 h42) h42 fun t97 h43 =>
mg t95 true (fun o22 => bareK (slS T.uint8 1 t97 (some (.int .i64 8)) none none h43) h43 o22) h43 fun t98 h44 =>
mg t95 true (fun o23 => enterK C F.bytes_Equal [t96, t98] h44 o23) h44 fun t99 h45 =>
mg t95 true (fun o24 => bareK (xun P .not t99) h45 o24) h45 fun t100 h46 =>
mg t92 false (fun o25 => pickK t95 t100 (.bool false) fun v => o25 v h46) h46 fun t101 h47 =>
pickK t92 (.bool true) t101 fun t102 =>
checkK (okV (some true) none h24 h25 h25 h25 && (okV (some true) none h24 h25 h25 h26 && (okV (some true) (blockOf t77) h24 h25 h26 h27 && (okV (some true) (blockOf t78) h24 h25 h27 h28 && (okV (goesV t81 false) none h32 h33 h33 h34 && (okV (goesV t81 false) none h32 h33 h34 h35 && (okV (goesV t81 false) (blockOf t87) h32 h33 h35 h36 && (okV (goesV t81 false) (blockOf t88) h32 h33 h36 h37 && true)))))))) <|
mc t102 (fun k26 => k26 .ret [(2, (.slice none 0 0)), (3, (.int .i64 11))] h47) (fun k26 =>
k26 .normal [(0, (get tT 0)), (9, (get tT 9)), (11, t63), (12, t66), (58, (get tT 58)), (59, (get tT 59)), (60, (get tT 60))] h47) (seqK (fun tT_1 h48 =>
bareK (slS T.uint8 1 (get tT_1 11) (some (.int .i64 8)) none none h48) h48 fun t106 h49 =>
quietK (xmapUpdate P T.map_uint32_uint8 (get tT_1 9) (get tT_1 12) t106 h49) fun _ h50 =>
k8 .normal [(0, (get tT_1 0)), (9, (get tT_1 9)), (58, (get tT_1 58)), (59, (get tT_1 59)), (60, (get tT_1 60))] h50) (blkK [0, 9, 58, 59, 60] 5 k8))) (seqK (fun tT_2 h51 =>
bareK (xbin P .add T.int (.tmp 60) (.const (.int .i64 1)) (get tT_2 60) (.int .i64 1)) h51 fun t107 h52 =>
k .normal [(0, (get tT_2 0)), (9, (get tT_2 9)), (58, (get tT_2 58)), (59, (get tT_2 59)), (60, t107)] h52) (afterK [0, 9, 58, 59, 60] k))) (afterK [0, 9, 58, 59, 60] k))

noncomputable def s_backup_Join_b3 (mg : GT) (mc : CT) (ms : ST) (P : Program) (C : CallF) (L0 : Value → Value → Value → Value → Value → AHeap → K → Res) (L1 : Value → Value → Value → Value → AHeap → K → Res) (L2 : Value → Value → Value → Value → Value → AHeap → K → Res) (L3 : Value → Value → Value → Value → Value → AHeap → K → Res) (v0 : Value) (v9 : Value) (v15 : Value) (v118 : Value) (v119 : Value) (H : AHeap) (k : K) : Res :=
bareK (xbin P .lss T.int (.tmp 119) (.tmp 118) v119 v118) H fun t120 h25 =>
mc t120 (fun k9 => k9 .normal [(0, v0), (9, v9), (15, v15), (118, v118), (119, v119)] h25) (fun k9 =>
k9 (.exit 6) [(120, t120), (0, v0), (9, v9), (15, v15), (118, v118), (119, v119)] h25) (seqK (fun tT h26 =>
ms (fun k10 =>
bothK (xconv P T.int T.uint32 (get tT 119) h26) fun t125 h27 =>
bareK (xlookup P T.map_uint32_uint8 (get tT 9) t125 false h27) h27 fun t126 h28 =>
bothK (app T.uint8 1 1 (get tT 15) (srcS 1 t126 h28) h28) fun t127 h29 =>
k10 .normal [(0, (get tT 0)), (9, (get tT 9)), (15, t127), (118, (get tT 118)), (119, (get tT 119))] h29) (seqK (fun tT_1 h30 =>
bareK (xbin P .add T.int (.tmp 119) (.const (.int .i64 1)) (get tT_1 119) (.int .i64 1)) h30 fun t128 h31 =>
k .normal [(0, (get tT_1 0)), (9, (get tT_1 9)), (15, (get tT_1 15)), (118, (get tT_1 118)), (119, t128)] h31) (afterK [0, 9, 15, 118, 119] k))) (afterK [0, 9, 15, 118, 119] k))

theorem s_backup_Join_eq (M : CombL) (C : CallF) (LP : LoopH) (a0 : Value) (H : AHeap) : dBodyL M Try.prog hints C LP F.backup_Join [a0] H = s_backup_Join M.b.g M.c M.s Try.prog C (fun v0 v4 v20 v21 v22 H k => loopL M Try.prog hints C LP F.backup_Join 0 [(0, v0), (4, v4), (20, v20), (21, v21), (22, v22)] H k) (fun v0 v35 v36 v37 H k => loopL M Try.prog hints C LP F.backup_Join 1 [(0, v0), (35, v35), (36, v36), (37, v37)] H k) (fun v0 v9 v58 v59 v60 H k => loopL M Try.prog hints C LP F.backup_Join 2 [(0, v0), (9, v9), (58, v58), (59, v59), (60, v60)] H k) (fun v0 v9 v15 v118 v119 H k => loopL M Try.prog hints C LP F.backup_Join 3 [(0, v0), (9, v9), (15, v15), (118, v118), (119, v119)] H k) a0 H (endK Try.prog [.tmp 2, .tmp 3]) := by kernel_rfl

theorem s_backup_Join_b0_eq (M : CombL) (C : CallF) (LP : LoopH) (v0 : Value) (v4 : Value) (v20 : Value) (v21 : Value) (v22 : Value) (H : AHeap) (k : K) : bodyL M Try.prog hints C LP F.backup_Join 0 [(0, v0), (4, v4), (20, v20), (21, v21), (22, v22)] H (afterK [0, 4, 20, 21, 22] k) = s_backup_Join_b0 M.b.g M.c M.s Try.prog C (fun v0 v4 v20 v21 v22 H k => loopL M Try.prog hints C LP F.backup_Join 0 [(0, v0), (4, v4), (20, v20), (21, v21), (22, v22)] H k) (fun v0 v35 v36 v37 H k => loopL M Try.prog hints C LP F.backup_Join 1 [(0, v0), (35, v35), (36, v36), (37, v37)] H k) (fun v0 v9 v58 v59 v60 H k => loopL M Try.prog hints C LP F.backup_Join 2 [(0, v0), (9, v9), (58, v58), (59, v59), (60, v60)] H k) (fun v0 v9 v15 v118 v119 H k => loopL M Try.prog hints C LP F.backup_Join 3 [(0, v0), (9, v9), (15, v15), (118, v118), (119, v119)] H k) v0 v4 v20 v21 v22 H k := by kernel_rfl

theorem s_backup_Join_b1_eq (M : CombL) (C : CallF) (LP : LoopH) (v0 : Value) (v35 : Value) (v36 : Value) (v37 : Value) (H : AHeap) (k : K) : bodyL M Try.prog hints C LP F.backup_Join 1 [(0, v0), (35, v35), (36, v36), (37, v37)] H (afterK [0, 35, 36, 37] k) = s_backup_Join_b1 M.b.g M.c M.s Try.prog C (fun v0 v4 v20 v21 v22 H k => loopL M Try.prog hints C LP F.backup_Join 0 [(0, v0), (4, v4), (20, v20), (21, v21), (22, v22)] H k) (fun v0 v35 v36 v37 H k => loopL M Try.prog hints C LP F.backup_Join 1 [(0, v0), (35, v35), (36, v36), (37, v37)] H k) (fun v0 v9 v58 v59 v60 H k => loopL M Try.prog hints C LP F.backup_Join 2 [(0, v0), (9, v9), (58, v58), (59, v59), (60, v60)] H k) (fun v0 v9 v15 v118 v119 H k => loopL M Try.prog hints C LP F.backup_Join 3 [(0, v0), (9, v9), (15, v15), (118, v118), (119, v119)] H k) v0 v35 v36 v37 H k := by kernel_rfl

theorem s_backup_Join_b2_eq (M : CombL) (C : CallF) (LP : LoopH) (v0 : Value) (v9 : Value) (v58 : Value) (v59 : Value) (v60 : Value) (H : AHeap) (k : K) : bodyL M Try.prog hints C LP F.backup_Join 2 [(0, v0), (9, v9), (58, v58), (59, v59), (60, v60)] H (afterK [0, 9, 58, 59, 60] k) = s_backup_Join_b2 M.b.g M.c M.s Try.prog C (fun v0 v4 v20 v21 v22 H k => loopL M Try.prog hints C LP F.backup_Join 0 [(0, v0), (4, v4), (20, v20), (21, v21), (22, v22)] H k) (fun v0 v35 v36 v37 H k => loopL M Try.prog hints C LP F.backup_Join 1 [(0, v0), (35, v35), (36, v36), (37, v37)] H k) (fun v0 v9 v58 v59 v60 H k => loopL M Try.prog hints C LP F.backup_Join 2 [(0, v0), (9, v9), (58, v58), (59, v59), (60, v60)] H k) (fun v0 v9 v15 v118 v119 H k => loopL M Try.prog hints C LP F.backup_Join 3 [(0, v0), (9, v9), (15, v15), (118, v118), (119, v119)] H k) v0 v9 v58 v59 v60 H k := by kernel_rfl

theorem s_backup_Join_b3_eq (M : CombL) (C : CallF) (LP : LoopH) (v0 : Value) (v9 : Value) (v15 : Value) (v118 : Value) (v119 : Value) (H : AHeap) (k : K) : bodyL M Try.prog hints C LP F.backup_Join 3 [(0, v0), (9, v9), (15, v15), (118, v118), (119, v119)] H (afterK [0, 9, 15, 118, 119] k) = s_backup_Join_b3 M.b.g M.c M.s Try.prog C (fun v0 v4 v20 v21 v22 H k => loopL M Try.prog hints C LP F.backup_Join 0 [(0, v0), (4, v4), (20, v20), (21, v21), (22, v22)] H k) (fun v0 v35 v36 v37 H k => loopL M Try.prog hints C LP F.backup_Join 1 [(0, v0), (35, v35), (36, v36), (37, v37)] H k) (fun v0 v9 v58 v59 v60 H k => loopL M Try.prog hints C LP F.backup_Join 2 [(0, v0), (9, v9), (58, v58), (59, v59), (60, v60)] H k) (fun v0 v9 v15 v118 v119 H k => loopL M Try.prog hints C LP F.backup_Join 3 [(0, v0), (9, v9), (15, v15), (118, v118), (119, v119)] H k) v0 v9 v15 v118 v119 H k := by kernel_rfl

/-! ticketline.ticketlinelaw48.part -/

noncomputable def s_law_part (mg : GT) (mc : CT) (ms : ST) (P : Program) (C : CallF) (a0 : Value) (H : AHeap) (K0 : K) : Res :=
bareK (lenS a0) H fun t11 h1 =>
bareK (xbin P .lss T.int (.tmp 11) (.const (.int .i64 8)) t11 (.int .i64 8)) h1 fun t12 h2 =>
mc t12 (fun k1 => k1 .ret [(2, (.int .i64 0)), (3, (.int .i64 0)), (4, (.int .i64 0)), (5, (.string (mk []))), (6, (.bool false))] h2) (fun k1 =>
k1 .normal [(0, a0)] h2) (seqK (fun tT h3 =>
bareK (ixS 1 (get tT 0) (.int .i64 0)) h3 fun t14 h4 =>
bareK (ld1 h4 t14) h4 fun t15 h5 =>
bothK (xconv P T.uint8 T.int t15 h5) fun t16 h6 =>
bareK (xbin P .mul T.int (.tmp 16) (.const (.int .i64 256)) t16 (.int .i64 256)) h6 fun t17 h7 =>
bareK (ixS 1 (get tT 0) (.int .i64 1)) h7 fun t19 h8 =>
bareK (ld1 h8 t19) h8 fun t20 h9 =>
bothK (xconv P T.uint8 T.int t20 h9) fun t21 h10 =>
bareK (xbin P .add T.int (.tmp 17) (.tmp 21) t17 t21) h10 fun t22 h11 =>
bareK (xbin P .mul T.int (.tmp 22) (.const (.int .i64 256)) t22 (.int .i64 256)) h11 fun t23 h12 =>
bareK (ixS 1 (get tT 0) (.int .i64 2)) h12 fun t25 h13 =>
bareK (ld1 h13 t25) h13 fun t26 h14 =>
bothK (xconv P T.uint8 T.int t26 h14) fun t27 h15 =>
bareK (xbin P .add T.int (.tmp 23) (.tmp 27) t23 t27) h15 fun t28 h16 =>
bareK (xbin P .mul T.int (.tmp 28) (.const (.int .i64 256)) t28 (.int .i64 256)) h16 fun t29 h17 =>
bareK (ixS 1 (get tT 0) (.int .i64 3)) h17 fun t31 h18 =>
bareK (ld1 h18 t31) h18 fun t32 h19 =>
bothK (xconv P T.uint8 T.int t32 h19) fun t33 h20 =>
bareK (xbin P .add T.int (.tmp 29) (.tmp 33) t29 t33) h20 fun t34 h21 =>
checkK true <|
bareK (ixS 1 (get tT 0) (.int .i64 4)) h21 fun t36 h22 =>
bareK (ld1 h22 t36) h22 fun t37 h23 =>
bothK (xconv P T.uint8 T.int t37 h23) fun t38 h24 =>
bareK (xbin P .mul T.int (.tmp 38) (.const (.int .i64 256)) t38 (.int .i64 256)) h24 fun t39 h25 =>
bareK (ixS 1 (get tT 0) (.int .i64 5)) h25 fun t41 h26 =>
bareK (ld1 h26 t41) h26 fun t42 h27 =>
bothK (xconv P T.uint8 T.int t42 h27) fun t43 h28 =>
bareK (xbin P .add T.int (.tmp 39) (.tmp 43) t39 t43) h28 fun t44 h29 =>
bareK (ixS 1 (get tT 0) (.int .i64 6)) h29 fun t46 h30 =>
bareK (ld1 h30 t46) h30 fun t47 h31 =>
bothK (xconv P T.uint8 T.int t47 h31) fun t48 h32 =>
bareK (xbin P .mul T.int (.tmp 48) (.const (.int .i64 256)) t48 (.int .i64 256)) h32 fun t49 h33 =>
bareK (ixS 1 (get tT 0) (.int .i64 7)) h33 fun t51 h34 =>
bareK (ld1 h34 t51) h34 fun t52 h35 =>
bothK (xconv P T.uint8 T.int t52 h35) fun t53 h36 =>
bareK (xbin P .add T.int (.tmp 49) (.tmp 53) t49 t53) h36 fun t54 h37 =>
checkK true <|
bareK (slS T.uint8 1 (get tT 0) (some (.int .i64 8)) none none h37) h37 fun t59 h38 =>
bothK (xconv P T.sl_uint8 T.string t59 h38) fun t60 h39 =>
bareK (xbin P .lss T.int (.tmp 61) (.tmp 62) t44 t54) h39 fun t63 h40 =>
checkK true <|
K0 .ret [(2, t34), (3, t44), (4, t54), (5, t60), (6, t63)] h40) K0)

theorem s_law_part_eq (M : CombL) (C : CallF) (LP : LoopH) (a0 : Value) (H : AHeap) : dBodyL M Try.prog hints C LP F.law_part [a0] H = s_law_part M.b.g M.c M.s Try.prog C a0 H (endK Try.prog [.tmp 2, .tmp 3, .tmp 4, .tmp 5, .tmp 6]) := by kernel_rfl

/-! slices.Collect[[]byte] -/

noncomputable def s_slices_Collect_byte (mg : GT) (mc : CT) (ms : ST) (P : Program) (C : CallF) (a0 : Value) (H : AHeap) (K0 : K) : Res :=
enterK C F.slices_AppendSeq_bytes [(.slice none 0 0), a0] H fun t4 h1 =>
K0 .ret [(2, t4)] h1

theorem s_slices_Collect_byte_eq (M : CombL) (C : CallF) (LP : LoopH) (a0 : Value) (H : AHeap) : dBodyL M Try.prog hints C LP F.slices_Collect_byte [a0] H = s_slices_Collect_byte M.b.g M.c M.s Try.prog C a0 H (endK Try.prog [.tmp 2]) := by kernel_rfl

/-! slices.Chunk[[]byte,byte] -/

noncomputable def s_slices_Chunk_byte (mg : GT) (mc : CT) (ms : ST) (P : Program) (C : CallF) (a0 : Value) (a1 : Value) (H : AHeap) (K0 : K) : Res :=
bothK (newv T.sl_uint8 a0 H) fun t2 h1 =>
bothK (newv T.int a1 h1) fun t3 h2 =>
bareK (ld1 h2 t3) h2 fun t5 h3 =>
bareK (xbin P .lss T.int (.tmp 5) (.const (.int .i64 1)) t5 (.int .i64 1)) h3 fun t6 h4 =>
mc t6 (fun k1 => none) (fun k1 =>
k1 .normal [(2, t2), (3, t3)] h4) (seqK (fun tT h5 =>
K0 .ret [(4, (.func (.func F.slices_Chunk_byte_1) #[] #[(get tT 2), (get tT 3)]))] h5) K0)

theorem s_slices_Chunk_byte_eq (M : CombL) (C : CallF) (LP : LoopH) (a0 : Value) (a1 : Value) (H : AHeap) : dBodyL M Try.prog hints C LP F.slices_Chunk_byte [a0, a1] H = s_slices_Chunk_byte M.b.g M.c M.s Try.prog C a0 a1 H (endK Try.prog [.tmp 4]) := by kernel_rfl

/-! ticketline.backup.four -/

noncomputable def s_backup_four (mg : GT) (mc : CT) (ms : ST) (P : Program) (C : CallF) (a0 : Value) (H : AHeap) (K0 : K) : Res :=
bareK (xbin P .shr T.uint32 (.tmp 3) (.const (.int .u64 24)) a0 (.int .u64 24)) H fun t4 h1 =>
bothK (xconv P T.uint32 T.uint8 t4 h1) fun t5 h2 =>
bareK (xbin P .shr T.uint32 (.tmp 6) (.const (.int .u64 16)) a0 (.int .u64 16)) h2 fun t7 h3 =>
bothK (xconv P T.uint32 T.uint8 t7 h3) fun t8 h4 =>
bareK (xbin P .shr T.uint32 (.tmp 9) (.const (.int .u64 8)) a0 (.int .u64 8)) h4 fun t10 h5 =>
bothK (xconv P T.uint32 T.uint8 t10 h5) fun t11 h6 =>
bothK (xconv P T.uint32 T.uint8 a0 h6) fun t13 h7 =>
bothK (bldL T.uint8 [(.int .u8 0)] 4 [(0, t5), (1, t8), (2, t11), (3, t13)] h7) fun t14 h8 =>
K0 .ret [(2, t14)] h8

theorem s_backup_four_eq (M : CombL) (C : CallF) (LP : LoopH) (a0 : Value) (H : AHeap) : dBodyL M Try.prog hints C LP F.backup_four [a0] H = s_backup_four M.b.g M.c M.s Try.prog C a0 H (endK Try.prog [.tmp 2]) := by kernel_rfl

/-! slices.Clone[[]byte,byte] -/

noncomputable def s_slices_Clone_byte (mg : GT) (mc : CT) (ms : ST) (P : Program) (C : CallF) (a0 : Value) (H : AHeap) (K0 : K) : Res :=
bareK (xbin P .eql T.sl_uint8 (.tmp 3) (.const (.slice none 0 0)) a0 (.slice none 0 0)) H fun t4 h1 =>
mc t4 (fun k1 => k1 .ret [(2, (.slice none 0 0))] h1) (fun k1 =>
k1 .normal [(0, a0)] h1) (seqK (fun tT h2 =>
bothK (bldL T.uint8 [(.int .u8 0)] 0 [] h2) fun t5 h3 =>
bothK (app T.uint8 1 1 t5 (srcS 1 (get tT 0) h3) h3) fun t7 h4 =>
K0 .ret [(2, t7)] h4) K0)

theorem s_slices_Clone_byte_eq (M : CombL) (C : CallF) (LP : LoopH) (a0 : Value) (H : AHeap) : dBodyL M Try.prog hints C LP F.slices_Clone_byte [a0] H = s_slices_Clone_byte M.b.g M.c M.s Try.prog C a0 H (endK Try.prog [.tmp 2]) := by kernel_rfl

/-! (*ticketline.model.Model).Put -/

noncomputable def s_model_Model_Put (mg : GT) (mc : CT) (ms : ST) (P : Program) (C : CallF) (a0 : Value) (a1 : Value) (a2 : Value) (H : AHeap) (K0 : K) : Res :=
bothK (bldL T.string [(.string (mk []))] 1 [(0, a2)] H) fun t14 h1 =>
enterK C F.model_Model_at [a0, a1, t14] h1 fun t15 h2 =>
bareK (xextract t15 0) h2 fun t16 h3 =>
bareK (xextract t15 1) h3 fun t17 h4 =>
bareK (xextract t15 2) h4 fun t18 h5 =>
bareK (xbin P .neq T.api_Errno (.tmp 19) (.const (.int .i64 0)) t18 (.int .i64 0)) h5 fun t20 h6 =>
mc t20 (fun k1 => k1 .ret [(6, t18)] h6) (fun k1 =>
k1 .normal [(0, a0), (1, a1), (2, a2), (7, t16), (8, t17)] h6) (seqK (fun tT h7 =>
bareK (bldS #[(.string (mk [])), (.string (mk []))] [(0, 1), (1, 1)] [(0, (get tT 1)), (1, (get tT 2))]) h7 fun t27 h8 =>
enterK C F.model_Model_set [(get tT 0), (get tT 7), (get tT 8), t27] h8 fun t28 h9 =>
K0 .ret [(6, t28)] h9) K0)

theorem s_model_Model_Put_eq (M : CombL) (C : CallF) (LP : LoopH) (a0 : Value) (a1 : Value) (a2 : Value) (H : AHeap) : dBodyL M Try.prog hints C LP F.model_Model_Put [a0, a1, a2] H = s_model_Model_Put M.b.g M.c M.s Try.prog C a0 a1 a2 H (endK Try.prog [.tmp 6]) := by kernel_rfl

/-! slices.Clone[[]ticketline.api.Pair,ticketline.api.Pair] -/

noncomputable def s_slices_Clone_Pair (mg : GT) (mc : CT) (ms : ST) (P : Program) (C : CallF) (a0 : Value) (H : AHeap) (K0 : K) : Res :=
bareK (xbin P .eql T.sl_api_Pair (.tmp 3) (.const (.slice none 0 0)) a0 (.slice none 0 0)) H fun t4 h1 =>
mc t4 (fun k1 => k1 .ret [(2, (.slice none 0 0))] h1) (fun k1 =>
k1 .normal [(0, a0)] h1) (seqK (fun tT h2 =>
bothK (bldL T.api_Pair [(.string (mk [])), (.string (mk []))] 0 [] h2) fun t5 h3 =>
bothK (app T.api_Pair 2 32 t5 (srcS 2 (get tT 0) h3) h3) fun t7 h4 =>
K0 .ret [(2, t7)] h4) K0)

theorem s_slices_Clone_Pair_eq (M : CombL) (C : CallF) (LP : LoopH) (a0 : Value) (H : AHeap) : dBodyL M Try.prog hints C LP F.slices_Clone_Pair [a0] H = s_slices_Clone_Pair M.b.g M.c M.s Try.prog C a0 H (endK Try.prog [.tmp 2]) := by kernel_rfl

/-! ticketline.ticketlinelaw48.read -/

noncomputable def s_law_read (mg : GT) (mc : CT) (ms : ST) (P : Program) (C : CallF) (L0 : Value → Value → Value → AHeap → K → Res) (L1 : Value → Value → Value → Value → Value → AHeap → K → Res) (L2 : Value → Value → Value → Value → Value → Value → Value → AHeap → K → Res) (a0 : Value) (H : AHeap) (K0 : K) : Res :=
bareK (lenS a0) H fun t15 h1 =>
bareK (xbin P .lss T.int (.tmp 15) (.const (.int .i64 7)) t15 (.int .i64 7)) h1 fun t16 h2 =>
mc t16 (fun k1 => k1 .ret [(2, (.slice none 0 0)), (3, (.bool false))] h2) (fun k1 =>
k1 .normal [(0, a0)] h2) (seqK (fun tT h3 =>
ms (fun k2 =>
L0 (get tT 0) (.int .i64 0) (.int .i64 3) h3 (blkK [0, 4] 0 k2)) (seqK (fun tT_1 h4 =>
bareK (lenS (get tT_1 0)) h4 fun t31 h5 =>
bareK (xbin P .gtr T.int (.tmp 29) (.tmp 31) (get tT_1 4) t31) h5 fun t32 h6 =>
mc t32 (fun k3 => k3 .ret [(2, (.slice none 0 0)), (3, (.bool false))] h6) (fun k3 =>
k3 .normal [(0, (get tT_1 0)), (4, (get tT_1 4))] h6) (seqK (fun tT_2 h7 =>
ms (fun k4 =>
L1 (get tT_2 0) (get tT_2 4) (.slice none 0 0) (.int .i64 7) (.int .i64 0) h7 (blkK [0, 6] 2 k4)) (seqK (fun tT_3 h8 =>
enterK C F.model_Of [(get tT_3 6)] h8 fun t128 h9 =>
bareK (xextract t128 0) h9 fun t129 h10 =>
bareK (xextract t128 1) h10 fun t130 h11 =>
bareK (xbin P .neq T.api_Errno (.tmp 131) (.const (.int .i64 0)) t130 (.int .i64 0)) h11 fun t132 h12 =>
mg t132 false (fun o5 => o5 (get tT_3 6) h12) h12 fun t134 h13 =>
mg t132 false (fun o6 => enterK C F.law_bytesOf [t134] h13 o6) h13 fun t135 h14 =>
mg t132 false (fun o7 => bothK (xconv P T.sl_uint8 T.string t135 h14) o7) h14 fun t136 h15 =>
mg t132 false (fun o8 => o8 (get tT_3 0) h15) h15 fun t137 h16 =>
mg t132 false (fun o9 => bothK (xconv P T.sl_uint8 T.string t137 h16) o9) h16 fun t138 h17 =>
mg t132 false (fun o10 => bareK (xbin P .neq T.string (.tmp 136) (.tmp 138) t136 t138) h17 o10) h17 fun t139 h18 =>
pickK t132 (.bool true) t139 fun t140 =>
checkK (okV (goesV t132 false) none h13 h14 h15 h16 && (okV (goesV t132 false) (blockOf t137) h13 h14 h16 h17 && true)) <|
mc t140 (fun k11 => k11 .ret [(2, (.slice none 0 0)), (3, (.bool false))] h18) (fun k11 =>
k11 .normal [(6, (get tT_3 6))] h18) (seqK (fun tT_4 h19 =>
K0 .ret [(2, (get tT_4 6)), (3, (.bool true))] h19) K0)) K0)) K0)) K0)) K0)

noncomputable def s_law_read_b0 (mg : GT) (mc : CT) (ms : ST) (P : Program) (C : CallF) (L0 : Value → Value → Value → AHeap → K → Res) (L1 : Value → Value → Value → Value → Value → AHeap → K → Res) (L2 : Value → Value → Value → Value → Value → Value → Value → AHeap → K → Res) (v0 : Value) (v4 : Value) (v5 : Value) (H : AHeap) (k : K) : Res :=
bareK (xbin P .lss T.int (.tmp 17) (.const (.int .i64 7)) v5 (.int .i64 7)) H fun t18 h4 =>
mc t18 (fun k3 => k3 .normal [(0, v0), (4, v4), (5, v5)] h4) (fun k3 =>
k3 (.exit 0) [(18, t18), (17, v5), (0, v0), (4, v4), (5, v5)] h4) (seqK (fun tT h5 =>
ms (fun k4 =>
bareK (xbin P .mul T.int (.const (.int .i64 256)) (.tmp 21) (.int .i64 256) (get tT 4)) h5 fun t22 h6 =>
bareK (ixS 1 (get tT 0) (get tT 5)) h6 fun t25 h7 =>
bareK (ld1 h7 t25) h7 fun t26 h8 =>
bothK (xconv P T.uint8 T.int t26 h8) fun t27 h9 =>
bareK (xbin P .add T.int (.tmp 22) (.tmp 27) t22 t27) h9 fun t28 h10 =>
k4 .normal [(0, (get tT 0)), (4, t28), (5, (get tT 5))] h10) (seqK (fun tT_1 h11 =>
bareK (xbin P .add T.int (.tmp 19) (.const (.int .i64 1)) (get tT_1 5) (.int .i64 1)) h11 fun t20 h12 =>
k .normal [(0, (get tT_1 0)), (4, (get tT_1 4)), (5, t20)] h12) (afterK [0, 4, 5] k))) (afterK [0, 4, 5] k))

noncomputable def s_law_read_b1 (mg : GT) (mc : CT) (ms : ST) (P : Program) (C : CallF) (L0 : Value → Value → Value → AHeap → K → Res) (L1 : Value → Value → Value → Value → Value → AHeap → K → Res) (L2 : Value → Value → Value → Value → Value → Value → Value → AHeap → K → Res) (v0 : Value) (v4 : Value) (v6 : Value) (v7 : Value) (v8 : Value) (H : AHeap) (k : K) : Res :=
bareK (xbin P .lss T.int (.tmp 33) (.tmp 34) v8 v4) H fun t35 h8 =>
mc t35 (fun k5 => k5 .normal [(0, v0), (4, v4), (6, v6), (7, v7), (8, v8)] h8) (fun k5 =>
k5 (.exit 2) [(35, t35), (34, v4), (33, v8), (0, v0), (4, v4), (6, v6), (7, v7), (8, v8)] h8) (seqK (fun tT h9 =>
ms (fun k6 =>
bareK (xbin P .gtr T.int (.tmp 38) (.const (.int .i64 0)) (get tT 8) (.int .i64 0)) h9 fun t39 h10 =>
mg t39 true (fun o7 => o7 (get tT 7) h10) h10 fun t41 h11 =>
mg t39 true (fun o8 => o8 (get tT 0) h11) h11 fun t42 h12 =>
mg t39 true (fun o9 => bareK (lenS t42) h12 o9) h12 fun t43 h13 =>
mg t39 true (fun o10 => bareK (xbin P .lss T.int (.tmp 41) (.tmp 43) t41 t43) h13 o10) h13 fun t44 h14 =>
pickK t39 t44 (.bool false) fun t45 =>
mg t45 true (fun o11 => o11 (get tT 0) h14) h14 fun t47 h15 =>
mg t45 true (fun o12 => o12 (get tT 7) h15) h15 fun t48 h16 =>
mg t45 true (fun o13 => bareK (ixS 1 t47 t48) h16 o13) h16 fun t49 h17 =>
mg t45 true (fun o14 => bareK (ld1 h17 t49) h17 o14) h17 fun t50 h18 =>
mg t45 true (fun o15 => bothK (xconv P T.uint8 T.int t50 h18) o15) h18 fun t51 h19 =>
mg t45 true (fun o16 => o16 (get tT 6) h19) h19 fun t52 h20 =>
mg t45 true (fun o17 => o17 (get tT 8) h20) h20 fun t53 h21 =>
mg t45 true (fun o18 => bareK (xbin P .sub T.int (.tmp 53) (.const (.int .i64 1)) t53 (.int .i64 1)) h21 o18) h21 fun t54 h22 =>
mg t45 true (fun o19 => bareK (ixS 2 t52 t54) h22 o19) h22 fun t55 h23 =>
mg t45 true (fun o20 => bareK (fad 0 t55) h23 o20) h23 fun t56 h24 =>
mg t45 true (fun o21 => bareK (ld1 h24 t56) h24 o21) h24 fun t57 h25 =>
mg t45 true (fun o22 => bareK (lenT t57) h25 o22) h25 fun t58 h26 =>
mg t45 true (fun o23 => bareK (xbin P .leq T.int (.tmp 51) (.tmp 58) t51 t58) h26 o23) h26 fun t59 h27 =>
pickK t45 t59 (.bool false) fun t60 =>
checkK true <|
mc t60 (fun k24 => bareK (xbin P .sub T.int (.tmp 62) (.const (.int .i64 1)) (get tT 8) (.int .i64 1)) h27 fun t63 h28 =>
bareK (ixS 2 (get tT 6) t63) h28 fun t64 h29 =>
bareK (fad 0 t64) h29 fun t65 h30 =>
bareK (ld1 h30 t65) h30 fun t66 h31 =>
bareK (ixS 1 (get tT 0) (get tT 7)) h31 fun t69 h32 =>
bareK (ld1 h32 t69) h32 fun t70 h33 =>
bareK (slT t66 none (some t70)) h33 fun t71 h34 =>
checkK true <|
k24 .normal [(0, (get tT 0)), (4, (get tT 4)), (6, (get tT 6)), (7, (get tT 7)), (8, (get tT 8)), (9, t71)] h34) (fun k24 =>
k24 .normal [(0, (get tT 0)), (4, (get tT 4)), (6, (get tT 6)), (7, (get tT 7)), (8, (get tT 8)), (9, (.string (mk [])))] h27) (seqK (fun tT_1 h35 =>
bareK (xbin P .add T.int (.tmp 72) (.const (.int .i64 1)) (get tT_1 7) (.int .i64 1)) h35 fun t73 h36 =>
ms (fun k25 =>
L2 (get tT_1 0) (get tT_1 4) (get tT_1 6) t73 (get tT_1 8) (get tT_1 9) (.int .i64 0) h36 (blkK [0, 4, 6, 7, 8] 4 k25)) (blkK [0, 4, 6, 7, 8] 3 k6)) (blkK [0, 4, 6, 7, 8] 3 k6))) (seqK (fun tT_2 h37 =>
bareK (xbin P .add T.int (.tmp 36) (.const (.int .i64 1)) (get tT_2 8) (.int .i64 1)) h37 fun t37 h38 =>
k .normal [(0, (get tT_2 0)), (4, (get tT_2 4)), (6, (get tT_2 6)), (7, (get tT_2 7)), (8, t37)] h38) (afterK [0, 4, 6, 7, 8] k))) (afterK [0, 4, 6, 7, 8] k))

noncomputable def s_law_read_b2 (mg : GT) (mc : CT) (ms : ST) (P : Program) (C : CallF) (L0 : Value → Value → Value → AHeap → K → Res) (L1 : Value → Value → Value → Value → Value → AHeap → K → Res) (L2 : Value → Value → Value → Value → Value → Value → Value → AHeap → K → Res) (v0 : Value) (v4 : Value) (v6 : Value) (v7 : Value) (v8 : Value) (v9 : Value) (v10 : Value) (H : AHeap) (k : K) : Res :=
bareK (xbin P .lss T.int (.tmp 74) (.const (.int .i64 2)) v10 (.int .i64 2)) H fun t75 h37 =>
mc t75 (fun k26 => k26 .normal [(0, v0), (4, v4), (6, v6), (7, v7), (8, v8), (9, v9), (10, v10)] h37) (fun k26 =>
k26 (.exit 4) [(75, t75), (74, v10), (0, v0), (4, v4), (6, v6), (7, v7), (8, v8), (9, v9), (10, v10)] h37) (seqK (fun tT h38 =>
ms (fun k27 =>
bareK (lenS (get tT 0)) h38 fun t80 h39 =>
bareK (xbin P .geq T.int (.tmp 78) (.tmp 80) (get tT 7) t80) h39 fun t81 h40 =>
mg t81 false (fun o28 => o28 (get tT 7) h40) h40 fun t83 h41 =>
mg t81 false (fun o29 => o29 (get tT 0) h41) h41 fun t84 h42 =>
mg t81 false (fun o30 => o30 (get tT 7) h42) h42 fun t85 h43 =>
mg t81 false (fun o31 => bareK (ixS 1 t84 t85) h43 o31) h43 fun t86 h44 =>
mg t81 false (fun o32 => bareK (ld1 h44 t86) h44 o32) h44 fun t87 h45 =>
mg t81 false (fun o33 => bothK (xconv P T.uint8 T.int t87 h45) o33) h45 fun t88 h46 =>
mg t81 false (fun o34 => bareK (xbin P .add T.int (.tmp 83) (.tmp 88) t83 t88) h46 o34) h46 fun t89 h47 =>
mg t81 false (fun o35 => o35 (get tT 0) h47) h47 fun t90 h48 =>
mg t81 false (fun o36 => bareK (lenS t90) h48 o36) h48 fun t91 h49 =>
mg t81 false (fun o37 => bareK (xbin P .geq T.int (.tmp 89) (.tmp 91) t89 t91) h49 o37) h49 fun t92 h50 =>
pickK t81 (.bool true) t92 fun t93 =>
mc t93 (fun k38 => k38 .ret [(2, (.slice none 0 0)), (3, (.bool false))] h50) (fun k38 =>
k38 .normal [(0, (get tT 0)), (4, (get tT 4)), (6, (get tT 6)), (7, (get tT 7)), (8, (get tT 8)), (9, (get tT 9)), (10, (get tT 10))] h50) (seqK (fun tT_1 h51 =>
bareK (xbin P .add T.int (.tmp 95) (.const (.int .i64 1)) (get tT_1 7) (.int .i64 1)) h51 fun t96 h52 =>
bareK (xbin P .add T.int (.tmp 97) (.const (.int .i64 1)) (get tT_1 7) (.int .i64 1)) h52 fun t98 h53 =>
bareK (ixS 1 (get tT_1 0) (get tT_1 7)) h53 fun t101 h54 =>
bareK (ld1 h54 t101) h54 fun t102 h55 =>
bothK (xconv P T.uint8 T.int t102 h55) fun t103 h56 =>
bareK (xbin P .add T.int (.tmp 98) (.tmp 103) t98 t103) h56 fun t104 h57 =>
bareK (slS T.uint8 1 (get tT_1 0) (some t96) (some t104) none h57) h57 fun t105 h58 =>
bothK (xconv P T.sl_uint8 T.string t105 h58) fun t106 h59 =>
bareK (xbin P .add T.int (.tmp 107) (.const (.int .i64 1)) (get tT_1 7) (.int .i64 1)) h59 fun t108 h60 =>
bareK (lenT t106) h60 fun t110 h61 =>
bareK (xbin P .add T.int (.tmp 108) (.tmp 110) t108 t110) h61 fun t111 h62 =>
bareK (xbin P .eql T.int (.tmp 112) (.const (.int .i64 0)) (get tT_1 10) (.int .i64 0)) h62 fun t113 h63 =>
mc t113 (fun k39 => bareK (xbin P .add T.string (.tmp 115) (.tmp 116) (get tT_1 9) t106) h63 fun t117 h64 =>
bareK (bldS #[(.string (mk [])), (.string (mk []))] [(0, 1), (1, 1)] [(0, t117)]) h64 fun t118 h65 =>
bothK (bldL T.api_Pair [(.string (mk [])), (.string (mk []))] 1 [(0, t118)] h65) fun t119 h66 =>
bothK (app T.api_Pair 2 32 (get tT_1 6) (srcS 2 t119 h66) h66) fun t120 h67 =>
k39 .normal [(0, (get tT_1 0)), (4, (get tT_1 4)), (6, t120), (7, t111), (8, (get tT_1 8)), (9, (get tT_1 9)), (10, (get tT_1 10))] h67) (fun k39 =>
bareK (ixS 2 (get tT_1 6) (get tT_1 8)) h63 fun t124 h68 =>
bareK (fad 1 t124) h68 fun t125 h69 =>
quietK (st1 h69 t125 t106) fun _ h70 =>
k39 .normal [(0, (get tT_1 0)), (4, (get tT_1 4)), (6, (get tT_1 6)), (7, t111), (8, (get tT_1 8)), (9, (get tT_1 9)), (10, (get tT_1 10))] h70) (blkK [0, 4, 6, 7, 8, 9, 10] 5 k27)) (blkK [0, 4, 6, 7, 8, 9, 10] 5 k27))) (seqK (fun tT_2 h71 =>
bareK (xbin P .add T.int (.tmp 76) (.const (.int .i64 1)) (get tT_2 10) (.int .i64 1)) h71 fun t77 h72 =>
k .normal [(0, (get tT_2 0)), (4, (get tT_2 4)), (6, (get tT_2 6)), (7, (get tT_2 7)), (8, (get tT_2 8)), (9, (get tT_2 9)), (10, t77)] h72) (afterK [0, 4, 6, 7, 8, 9, 10] k))) (afterK [0, 4, 6, 7, 8, 9, 10] k))

theorem s_law_read_eq (M : CombL) (C : CallF) (LP : LoopH) (a0 : Value) (H : AHeap) : dBodyL M Try.prog hints C LP F.law_read [a0] H = s_law_read M.b.g M.c M.s Try.prog C (fun v0 v4 v5 H k => loopL M Try.prog hints C LP F.law_read 0 [(0, v0), (4, v4), (5, v5)] H k) (fun v0 v4 v6 v7 v8 H k => loopL M Try.prog hints C LP F.law_read 1 [(0, v0), (4, v4), (6, v6), (7, v7), (8, v8)] H k) (fun v0 v4 v6 v7 v8 v9 v10 H k => loopL M Try.prog hints C LP F.law_read 2 [(0, v0), (4, v4), (6, v6), (7, v7), (8, v8), (9, v9), (10, v10)] H k) a0 H (endK Try.prog [.tmp 2, .tmp 3]) := by kernel_rfl

theorem s_law_read_b0_eq (M : CombL) (C : CallF) (LP : LoopH) (v0 : Value) (v4 : Value) (v5 : Value) (H : AHeap) (k : K) : bodyL M Try.prog hints C LP F.law_read 0 [(0, v0), (4, v4), (5, v5)] H (afterK [0, 4, 5] k) = s_law_read_b0 M.b.g M.c M.s Try.prog C (fun v0 v4 v5 H k => loopL M Try.prog hints C LP F.law_read 0 [(0, v0), (4, v4), (5, v5)] H k) (fun v0 v4 v6 v7 v8 H k => loopL M Try.prog hints C LP F.law_read 1 [(0, v0), (4, v4), (6, v6), (7, v7), (8, v8)] H k) (fun v0 v4 v6 v7 v8 v9 v10 H k => loopL M Try.prog hints C LP F.law_read 2 [(0, v0), (4, v4), (6, v6), (7, v7), (8, v8), (9, v9), (10, v10)] H k) v0 v4 v5 H k := by kernel_rfl

theorem s_law_read_b1_eq (M : CombL) (C : CallF) (LP : LoopH) (v0 : Value) (v4 : Value) (v6 : Value) (v7 : Value) (v8 : Value) (H : AHeap) (k : K) : bodyL M Try.prog hints C LP F.law_read 1 [(0, v0), (4, v4), (6, v6), (7, v7), (8, v8)] H (afterK [0, 4, 6, 7, 8] k) = s_law_read_b1 M.b.g M.c M.s Try.prog C (fun v0 v4 v5 H k => loopL M Try.prog hints C LP F.law_read 0 [(0, v0), (4, v4), (5, v5)] H k) (fun v0 v4 v6 v7 v8 H k => loopL M Try.prog hints C LP F.law_read 1 [(0, v0), (4, v4), (6, v6), (7, v7), (8, v8)] H k) (fun v0 v4 v6 v7 v8 v9 v10 H k => loopL M Try.prog hints C LP F.law_read 2 [(0, v0), (4, v4), (6, v6), (7, v7), (8, v8), (9, v9), (10, v10)] H k) v0 v4 v6 v7 v8 H k := by kernel_rfl

theorem s_law_read_b2_eq (M : CombL) (C : CallF) (LP : LoopH) (v0 : Value) (v4 : Value) (v6 : Value) (v7 : Value) (v8 : Value) (v9 : Value) (v10 : Value) (H : AHeap) (k : K) : bodyL M Try.prog hints C LP F.law_read 2 [(0, v0), (4, v4), (6, v6), (7, v7), (8, v8), (9, v9), (10, v10)] H (afterK [0, 4, 6, 7, 8, 9, 10] k) = s_law_read_b2 M.b.g M.c M.s Try.prog C (fun v0 v4 v5 H k => loopL M Try.prog hints C LP F.law_read 0 [(0, v0), (4, v4), (5, v5)] H k) (fun v0 v4 v6 v7 v8 H k => loopL M Try.prog hints C LP F.law_read 1 [(0, v0), (4, v4), (6, v6), (7, v7), (8, v8)] H k) (fun v0 v4 v6 v7 v8 v9 v10 H k => loopL M Try.prog hints C LP F.law_read 2 [(0, v0), (4, v4), (6, v6), (7, v7), (8, v8), (9, v9), (10, v10)] H k) v0 v4 v6 v7 v8 v9 v10 H k := by kernel_rfl

/-! ticketline.keys.Prefix -/

noncomputable def s_keys_Prefix (mg : GT) (mc : CT) (ms : ST) (P : Program) (C : CallF) (L0 : Value → Value → Value → AHeap → K → Res) (a0 : Value) (a1 : Value) (H : AHeap) (K0 : K) : Res :=
ms (fun k1 =>
L0 a0 a1 (.int .i64 0) H (blkK [5] 0 k1)) (seqK (fun tT h1 =>
K0 .ret [(4, (get tT 5))] h1) K0)

noncomputable def s_keys_Prefix_b0 (mg : GT) (mc : CT) (ms : ST) (P : Program) (C : CallF) (L0 : Value → Value → Value → AHeap → K → Res) (v0 : Value) (v1 : Value) (v5 : Value) (H : AHeap) (k : K) : Res :=
bareK (lenT v0) H fun t8 h1 =>
bareK (xbin P .lss T.int (.tmp 6) (.tmp 8) v5 t8) h1 fun t9 h2 =>
mg t9 true (fun o2 => o2 v5 h2) h2 fun t11 h3 =>
mg t9 true (fun o3 => o3 v1 h3) h3 fun t12 h4 =>
mg t9 true (fun o4 => bareK (lenT t12) h4 o4) h4 fun t13 h5 =>
mg t9 true (fun o5 => bareK (xbin P .lss T.int (.tmp 11) (.tmp 13) t11 t13) h5 o5) h5 fun t14 h6 =>
pickK t9 t14 (.bool false) fun t15 =>
mg t15 true (fun o6 => o6 v0 h6) h6 fun t17 h7 =>
mg t15 true (fun o7 => o7 v5 h7) h7 fun t18 h8 =>
mg t15 true (fun o8 => bareK (xindex P T.string t17 t18) h8 o8) h8 fun t19 h9 =>
mg t15 true (fun o9 => o9 v1 h9) h9 fun t20 h10 =>
mg t15 true (fun o10 => o10 v5 h10) h10 fun t21 h11 =>
mg t15 true (fun o11 => bareK (xindex P T.string t20 t21) h11 o11) h11 fun t22 h12 =>
mg t15 true (fun o12 => bareK (xbin P .eql T.uint8 (.tmp 19) (.tmp 22) t19 t22) h12 o12) h12 fun t23 h13 =>
pickK t15 t23 (.bool false) fun t24 =>
checkK true <|
mc t24 (fun k13 => k13 .normal [(0, v0), (1, v1), (5, v5)] h13) (fun k13 =>
k13 (.exit 0) [(24, t24), (23, t23), (22, t22), (21, t21), (20, t20), (19, t19), (18, t18), (17, t17), (16, t15), (15, t15), (14, t14), (13, t13), (12, t12), (11, t11), (10, t9), (9, t9), (8, t8), (7, v0), (6, v5), (0, v0), (1, v1), (5, v5)] h13) (seqK (fun tT h14 =>
ms (fun k14 =>
bareK (xbin P .add T.int (.tmp 25) (.const (.int .i64 1)) (get tT 5) (.int .i64 1)) h14 fun t26 h15 =>
k14 .normal [(0, (get tT 0)), (1, (get tT 1)), (5, t26)] h15) (afterK [0, 1, 5] k)) (afterK [0, 1, 5] k))

theorem s_keys_Prefix_eq (M : CombL) (C : CallF) (LP : LoopH) (a0 : Value) (a1 : Value) (H : AHeap) : dBodyL M Try.prog hints C LP F.keys_Prefix [a0, a1] H = s_keys_Prefix M.b.g M.c M.s Try.prog C (fun v0 v1 v5 H k => loopL M Try.prog hints C LP F.keys_Prefix 0 [(0, v0), (1, v1), (5, v5)] H k) a0 a1 H (endK Try.prog [.tmp 4]) := by kernel_rfl

theorem s_keys_Prefix_b0_eq (M : CombL) (C : CallF) (LP : LoopH) (v0 : Value) (v1 : Value) (v5 : Value) (H : AHeap) (k : K) : bodyL M Try.prog hints C LP F.keys_Prefix 0 [(0, v0), (1, v1), (5, v5)] H (afterK [0, 1, 5] k) = s_keys_Prefix_b0 M.b.g M.c M.s Try.prog C (fun v0 v1 v5 H k => loopL M Try.prog hints C LP F.keys_Prefix 0 [(0, v0), (1, v1), (5, v5)] H k) v0 v1 v5 H k := by kernel_rfl

/-! (*ticketline.model.Model).Len -/

noncomputable def s_model_Model_Len (mg : GT) (mc : CT) (ms : ST) (P : Program) (C : CallF) (a0 : Value) (H : AHeap) (K0 : K) : Res :=
bareK (xbin P .eql T.p_model_Model (.tmp 3) (.const (.pointer none)) a0 (.pointer none)) H fun t4 h1 =>
mc t4 (fun k1 => k1 .ret [(2, (.int .i64 0))] h1) (fun k1 =>
k1 .normal [(0, a0)] h1) (seqK (fun tT h2 =>
bareK (xnilCheck (get tT 0)) h2 fun t6 h3 =>
bareK (fad 0 t6) h3 fun t7 h4 =>
bareK (ld1 h4 t7) h4 fun t8 h5 =>
bareK (lenS t8) h5 fun t9 h6 =>
K0 .ret [(2, t9)] h6) K0)

theorem s_model_Model_Len_eq (M : CombL) (C : CallF) (LP : LoopH) (a0 : Value) (H : AHeap) : dBodyL M Try.prog hints C LP F.model_Model_Len [a0] H = s_model_Model_Len M.b.g M.c M.s Try.prog C a0 H (endK Try.prog [.tmp 2]) := by kernel_rfl

/-! slices.Equal[[]ticketline.api.Pair,ticketline.api.Pair] -/

noncomputable def s_slices_Equal_Pair (mg : GT) (mc : CT) (ms : ST) (P : Program) (C : CallF) (L0 : Value → Value → Value → Value → AHeap → K → Res) (a0 : Value) (a1 : Value) (H : AHeap) (K0 : K) : Res :=
bareK (lenS a0) H fun t7 h1 =>
bareK (lenS a1) h1 fun t9 h2 =>
bareK (xbin P .neq T.int (.tmp 7) (.tmp 9) t7 t9) h2 fun t10 h3 =>
mc t10 (fun k1 => k1 .ret [(4, (.bool false))] h3) (fun k1 =>
k1 .normal [(0, a0), (1, a1)] h3) (seqK (fun tT h4 =>
bareK (lenS (get tT 0)) h4 fun t12 h5 =>
ms (fun k2 =>
L0 (get tT 0) (get tT 1) t12 (.int .i64 0) h5 (blkK [] 0 k2)) (seqK (fun tT_1 h6 =>
K0 .ret [(4, (.bool true))] h6) K0)) K0)

noncomputable def s_slices_Equal_Pair_b0 (mg : GT) (mc : CT) (ms : ST) (P : Program) (C : CallF) (L0 : Value → Value → Value → Value → AHeap → K → Res) (v0 : Value) (v1 : Value) (v12 : Value) (v13 : Value) (H : AHeap) (k : K) : Res :=
bareK (xbin P .lss T.int (.tmp 13) (.tmp 12) v13 v12) H fun t14 h6 =>
mc t14 (fun k3 => k3 .normal [(0, v0), (1, v1), (12, v12), (13, v13)] h6) (fun k3 =>
k3 (.exit 0) [(14, t14), (0, v0), (1, v1), (12, v12), (13, v13)] h6) (seqK (fun tT h7 =>
ms (fun k4 =>
bareK (ixS 2 (get tT 0) (get tT 13)) h7 fun t18 h8 =>
bareK (ldN 2 h8 t18) h8 fun t19 h9 =>
bareK (ixS 2 (get tT 1) (get tT 13)) h9 fun t22 h10 =>
bareK (ldN 2 h10 t22) h10 fun t23 h11 =>
bareK (xbin P .neq T.api_Pair (.tmp 19) (.tmp 23) t19 t23) h11 fun t24 h12 =>
checkK true <|
mc t24 (fun k5 => k5 .ret [(4, (.bool false))] h12) (fun k5 =>
k5 .normal [(0, (get tT 0)), (1, (get tT 1)), (12, (get tT 12)), (13, (get tT 13))] h12) (blkK [0, 1, 12, 13] 1 k4)) (seqK (fun tT_1 h13 =>
bareK (xbin P .add T.int (.tmp 13) (.const (.int .i64 1)) (get tT_1 13) (.int .i64 1)) h13 fun t25 h14 =>
k .normal [(0, (get tT_1 0)), (1, (get tT_1 1)), (12, (get tT_1 12)), (13, t25)] h14) (afterK [0, 1, 12, 13] k))) (afterK [0, 1, 12, 13] k))

theorem s_slices_Equal_Pair_eq (M : CombL) (C : CallF) (LP : LoopH) (a0 : Value) (a1 : Value) (H : AHeap) : dBodyL M Try.prog hints C LP F.slices_Equal_Pair [a0, a1] H = s_slices_Equal_Pair M.b.g M.c M.s Try.prog C (fun v0 v1 v12 v13 H k => loopL M Try.prog hints C LP F.slices_Equal_Pair 0 [(0, v0), (1, v1), (12, v12), (13, v13)] H k) a0 a1 H (endK Try.prog [.tmp 4]) := by kernel_rfl

theorem s_slices_Equal_Pair_b0_eq (M : CombL) (C : CallF) (LP : LoopH) (v0 : Value) (v1 : Value) (v12 : Value) (v13 : Value) (H : AHeap) (k : K) : bodyL M Try.prog hints C LP F.slices_Equal_Pair 0 [(0, v0), (1, v1), (12, v12), (13, v13)] H (afterK [0, 1, 12, 13] k) = s_slices_Equal_Pair_b0 M.b.g M.c M.s Try.prog C (fun v0 v1 v12 v13 H k => loopL M Try.prog hints C LP F.slices_Equal_Pair 0 [(0, v0), (1, v1), (12, v12), (13, v13)] H k) v0 v1 v12 v13 H k := by kernel_rfl

/-! ticketline.backup.number -/

noncomputable def s_backup_number (mg : GT) (mc : CT) (ms : ST) (P : Program) (C : CallF) (L0 : Value → Value → Value → Value → AHeap → K → Res) (a0 : Value) (H : AHeap) (K0 : K) : Res :=
bareK (lenS a0) H fun t7 h1 =>
ms (fun k1 =>
L0 (.int .u32 0) a0 t7 (.int .i64 0) h1 (blkK [3] 0 k1)) (seqK (fun tT h2 =>
K0 .ret [(2, (get tT 3))] h2) K0)

noncomputable def s_backup_number_b0 (mg : GT) (mc : CT) (ms : ST) (P : Program) (C : CallF) (L0 : Value → Value → Value → Value → AHeap → K → Res) (v3 : Value) (v6 : Value) (v7 : Value) (v8 : Value) (H : AHeap) (k : K) : Res :=
bareK (xbin P .lss T.int (.tmp 8) (.tmp 7) v8 v7) H fun t9 h2 =>
mc t9 (fun k2 => k2 .normal [(3, v3), (6, v6), (7, v7), (8, v8)] h2) (fun k2 =>
k2 (.exit 0) [(9, t9), (3, v3), (6, v6), (7, v7), (8, v8)] h2) (seqK (fun tT h3 =>
ms (fun k3 =>
bareK (ixS 1 (get tT 6) (get tT 8)) h3 fun t10 h4 =>
bareK (ld1 h4 t10) h4 fun t11 h5 =>
bareK (xbin P .shl T.uint32 (.tmp 12) (.const (.int .u64 8)) (get tT 3) (.int .u64 8)) h5 fun t13 h6 =>
bothK (xconv P T.uint8 T.uint32 t11 h6) fun t15 h7 =>
bareK (xbin P .or T.uint32 (.tmp 13) (.tmp 15) t13 t15) h7 fun t16 h8 =>
k3 .normal [(3, t16), (6, (get tT 6)), (7, (get tT 7)), (8, (get tT 8))] h8) (seqK (fun tT_1 h9 =>
bareK (xbin P .add T.int (.tmp 8) (.const (.int .i64 1)) (get tT_1 8) (.int .i64 1)) h9 fun t17 h10 =>
k .normal [(3, (get tT_1 3)), (6, (get tT_1 6)), (7, (get tT_1 7)), (8, t17)] h10) (afterK [3, 6, 7, 8] k))) (afterK [3, 6, 7, 8] k))

theorem s_backup_number_eq (M : CombL) (C : CallF) (LP : LoopH) (a0 : Value) (H : AHeap) : dBodyL M Try.prog hints C LP F.backup_number [a0] H = s_backup_number M.b.g M.c M.s Try.prog C (fun v3 v6 v7 v8 H k => loopL M Try.prog hints C LP F.backup_number 0 [(3, v3), (6, v6), (7, v7), (8, v8)] H k) a0 H (endK Try.prog [.tmp 2]) := by kernel_rfl

theorem s_backup_number_b0_eq (M : CombL) (C : CallF) (LP : LoopH) (v3 : Value) (v6 : Value) (v7 : Value) (v8 : Value) (H : AHeap) (k : K) : bodyL M Try.prog hints C LP F.backup_number 0 [(3, v3), (6, v6), (7, v7), (8, v8)] H (afterK [3, 6, 7, 8] k) = s_backup_number_b0 M.b.g M.c M.s Try.prog C (fun v3 v6 v7 v8 H k => loopL M Try.prog hints C LP F.backup_number 0 [(3, v3), (6, v6), (7, v7), (8, v8)] H k) v3 v6 v7 v8 H k := by kernel_rfl

/-! ticketline.backup.take -/

noncomputable def s_backup_take (mg : GT) (mc : CT) (ms : ST) (P : Program) (C : CallF) (a0 : Value) (H : AHeap) (K0 : K) : Res :=
bareK (lenS a0) H fun t7 h1 =>
bareK (xbin P .eql T.int (.tmp 7) (.const (.int .i64 0)) t7 (.int .i64 0)) h1 fun t8 h2 =>
mg t8 false (fun o1 => o1 a0 h2) h2 fun t10 h3 =>
mg t8 false (fun o2 => bareK (lenS t10) h3 o2) h3 fun t11 h4 =>
mg t8 false (fun o3 => o3 a0 h4) h4 fun t12 h5 =>
mg t8 false (fun o4 => bareK (ixS 1 t12 (.int .i64 0)) h5 o4) h5 fun t13 h6 =>
mg t8 false (fun o5 => bareK (ld1 h6 t13) h6 o5) h6 fun t14 h7 =>
mg t8 false (fun o6 => bothK (xconv P T.uint8 T.int t14 h7) o6) h7 fun t15 h8 =>
mg t8 false (fun o7 => bareK (xbin P .leq T.int (.tmp 11) (.tmp 15) t11 t15) h8 o7) h8 fun t16 h9 =>
pickK t8 (.bool true) t16 fun t17 =>
mc t17 (fun k8 => k8 .ret [(2, (.string (mk []))), (3, (.slice none 0 0)), (4, (.bool false))] h9) (fun k8 =>
k8 .normal [(0, a0)] h9) (seqK (fun tT h10 =>
bareK (ixS 1 (get tT 0) (.int .i64 0)) h10 fun t19 h11 =>
bareK (ld1 h11 t19) h11 fun t20 h12 =>
bothK (xconv P T.uint8 T.int t20 h12) fun t21 h13 =>
bareK (xbin P .add T.int (.const (.int .i64 1)) (.tmp 21) (.int .i64 1) t21) h13 fun t22 h14 =>
bareK (slS T.uint8 1 (get tT 0) (some (.int .i64 1)) (some t22) none h14) h14 fun t25 h15 =>
bothK (xconv P T.sl_uint8 T.string t25 h15) fun t26 h16 =>
bareK (slS T.uint8 1 (get tT 0) (some t22) none none h16) h16 fun t29 h17 =>
checkK true <|
K0 .ret [(2, t26), (3, t29), (4, (.bool true))] h17) K0)

theorem s_backup_take_eq (M : CombL) (C : CallF) (LP : LoopH) (a0 : Value) (H : AHeap) : dBodyL M Try.prog hints C LP F.backup_take [a0] H = s_backup_take M.b.g M.c M.s Try.prog C a0 H (endK Try.prog [.tmp 2, .tmp 3, .tmp 4]) := by kernel_rfl

/-! (*ticketline.model.Model).Insert -/

noncomputable def s_model_Model_Insert (mg : GT) (mc : CT) (ms : ST) (P : Program) (C : CallF) (a0 : Value) (a1 : Value) (a2 : Value) (H : AHeap) (K0 : K) : Res :=
bothK (bldL T.string [(.string (mk []))] 1 [(0, a2)] H) fun t14 h1 =>
enterK C F.model_Model_at [a0, a1, t14] h1 fun t15 h2 =>
bareK (xextract t15 0) h2 fun t16 h3 =>
bareK (xextract t15 1) h3 fun t17 h4 =>
bareK (xextract t15 2) h4 fun t18 h5 =>
ms (fun k1 =>
bareK (xbin P .neq T.api_Errno (.tmp 20) (.const (.int .i64 0)) t18 (.int .i64 0)) h5 fun t21 h6 =>
mc t21 (fun k2 => k2 .ret [(6, t18)] h6) (fun k2 =>
mc t17 (fun k3 => k3 .ret [(6, (.int .i64 11))] h6) (fun k3 =>
k3 .normal [(0, a0), (1, a1), (2, a2), (7, t16)] h6) (afterK [0, 1, 2, 7] k2)) (blkK [0, 1, 2, 7] 0 k1)) (seqK (fun tT h7 =>
bareK (bldS #[(.string (mk [])), (.string (mk []))] [(0, 1), (1, 1)] [(0, (get tT 1)), (1, (get tT 2))]) h7 fun t29 h8 =>
enterK C F.model_Model_set [(get tT 0), (get tT 7), (.bool false), t29] h8 fun t30 h9 =>
K0 .ret [(6, t30)] h9) K0)

theorem s_model_Model_Insert_eq (M : CombL) (C : CallF) (LP : LoopH) (a0 : Value) (a1 : Value) (a2 : Value) (H : AHeap) : dBodyL M Try.prog hints C LP F.model_Model_Insert [a0, a1, a2] H = s_model_Model_Insert M.b.g M.c M.s Try.prog C a0 a1 a2 H (endK Try.prog [.tmp 6]) := by kernel_rfl

/-! bytes.Equal -/

noncomputable def s_bytes_Equal (mg : GT) (mc : CT) (ms : ST) (P : Program) (C : CallF) (a0 : Value) (a1 : Value) (H : AHeap) (K0 : K) : Res :=
bothK (xconv P T.sl_uint8 T.string a0 H) fun t6 h1 =>
bothK (xconv P T.sl_uint8 T.string a1 h1) fun t8 h2 =>
bareK (xbin P .eql T.string (.tmp 6) (.tmp 8) t6 t8) h2 fun t9 h3 =>
K0 .ret [(4, t9)] h3

theorem s_bytes_Equal_eq (M : CombL) (C : CallF) (LP : LoopH) (a0 : Value) (a1 : Value) (H : AHeap) : dBodyL M Try.prog hints C LP F.bytes_Equal [a0, a1] H = s_bytes_Equal M.b.g M.c M.s Try.prog C a0 a1 H (endK Try.prog [.tmp 4]) := by kernel_rfl

/-! ticketline.model.check -/

noncomputable def s_model_check (mg : GT) (mc : CT) (ms : ST) (P : Program) (C : CallF) (a0 : Value) (a1 : Value) (H : AHeap) (K0 : K) : Res :=
ms (fun k1 =>
bareK (xbin P .eql T.string (.tmp 6) (.const (.string (mk []))) a0 (.string (mk []))) H fun t7 h1 =>
mc t7 (fun k2 => k2 .ret [(4, (.int .i64 2))] h1) (fun k2 =>
bareK (lenT a0) h1 fun t10 h2 =>
bareK (xbin P .gtr T.int (.tmp 10) (.const (.int .i64 24)) t10 (.int .i64 24)) h2 fun t11 h3 =>
mg t11 false (fun o3 => o3 a1 h3) h3 fun t13 h4 =>
mg t11 false (fun o4 => enterK C F.slices_ContainsFunc_string [t13, (.func (.func F.model_check_1) #[] #[])] h4 o4) h4 fun t14 h5 =>
pickK t11 (.bool true) t14 fun t15 =>
mc t15 (fun k5 => k5 .ret [(4, (.int .i64 5))] h5) (fun k5 =>
k5 .normal [] h5) (afterK [] k2)) (blkK [] 0 k1)) (seqK (fun tT h6 =>
K0 .ret [(4, (.int .i64 0))] h6) K0)

theorem s_model_check_eq (M : CombL) (C : CallF) (LP : LoopH) (a0 : Value) (a1 : Value) (H : AHeap) : dBodyL M Try.prog hints C LP F.model_check [a0, a1] H = s_model_check M.b.g M.c M.s Try.prog C a0 a1 H (endK Try.prog [.tmp 4]) := by kernel_rfl

/-! ticketline.keys.Compare -/

noncomputable def s_keys_Compare (mg : GT) (mc : CT) (ms : ST) (P : Program) (C : CallF) (a0 : Value) (a1 : Value) (H : AHeap) (K0 : K) : Res :=
enterK C F.strings_Compare [a0, a1] H fun t7 h1 =>
K0 .ret [(4, t7)] h1

theorem s_keys_Compare_eq (M : CombL) (C : CallF) (LP : LoopH) (a0 : Value) (a1 : Value) (H : AHeap) : dBodyL M Try.prog hints C LP F.keys_Compare [a0, a1] H = s_keys_Compare M.b.g M.c M.s Try.prog C a0 a1 H (endK Try.prog [.tmp 4]) := by kernel_rfl

/-! slices.Chunk[[]byte,byte]$1 -/

noncomputable def s_slices_Chunk_byte_1 (mg : GT) (mc : CT) (ms : ST) (P : Program) (C : CallF) (L0 : Value → Value → Value → Value → AHeap → K → Res) (a0 : Value) (a1 : Value) (a2 : Value) (H : AHeap) (K0 : K) : Res :=
ms (fun k1 =>
L0 a0 a1 a2 (.int .i64 0) H (blkK [] 0 k1)) K0

noncomputable def s_slices_Chunk_byte_1_b0 (mg : GT) (mc : CT) (ms : ST) (P : Program) (C : CallF) (L0 : Value → Value → Value → Value → AHeap → K → Res) (v0 : Value) (v1 : Value) (v2 : Value) (v4 : Value) (H : AHeap) (k : K) : Res :=
bareK (ld1 H v1) H fun t7 h1 =>
bareK (lenS t7) h1 fun t8 h2 =>
bareK (xbin P .lss T.int (.tmp 6) (.tmp 8) v4 t8) h2 fun t9 h3 =>
mc t9 (fun k2 => k2 .normal [(0, v0), (1, v1), (2, v2), (4, v4)] h3) (fun k2 =>
k2 (.exit 0) [(9, t9), (8, t8), (7, t7), (6, v4), (0, v0), (1, v1), (2, v2), (4, v4)] h3) (seqK (fun tT h4 =>
ms (fun k3 =>
bareK (ld1 h4 (get tT 2)) h4 fun t13 h5 =>
bareK (ld1 h5 (get tT 1)) h5 fun t14 h6 =>
bareK (slS T.uint8 1 t14 (some (get tT 4)) none none h6) h6 fun t16 h7 =>
bareK (lenS t16) h7 fun t17 h8 =>
nextK C h8 (xbuiltin P .min [T.int, T.int] [t13, t17] h8) fun t18 h9 =>
checkK true <|
bareK (ld1 h9 (get tT 1)) h9 fun t20 h10 =>
bareK (xbin P .add T.int (.tmp 22) (.tmp 23) (get tT 4) t18) h10 fun t24 h11 =>
bareK (xbin P .add T.int (.tmp 25) (.tmp 26) (get tT 4) t18) h11 fun t27 h12 =>
bareK (slS T.uint8 1 t20 (some (get tT 4)) (some t24) (some t27) h12) h12 fun t28 h13 =>
callK P C (get tT 0) [t28] h13 fun t29 h14 =>
bareK (xun P .not t29) h14 fun t30 h15 =>
mc t30 (fun k4 => k4 .ret [] h15) (fun k4 =>
k4 .normal [(0, (get tT 0)), (1, (get tT 1)), (2, (get tT 2)), (4, (get tT 4))] h15) (blkK [0, 1, 2, 4] 1 k3)) (seqK (fun tT_1 h16 =>
bareK (ld1 h16 (get tT_1 2)) h16 fun t11 h17 =>
bareK (xbin P .add T.int (.tmp 10) (.tmp 11) (get tT_1 4) t11) h17 fun t12 h18 =>
k .normal [(0, (get tT_1 0)), (1, (get tT_1 1)), (2, (get tT_1 2)), (4, t12)] h18) (afterK [0, 1, 2, 4] k))) (afterK [0, 1, 2, 4] k))

theorem s_slices_Chunk_byte_1_eq (M : CombL) (C : CallF) (LP : LoopH) (a0 : Value) (a1 : Value) (a2 : Value) (H : AHeap) : dBodyL M Try.prog hints C LP F.slices_Chunk_byte_1 [a0, a1, a2] H = s_slices_Chunk_byte_1 M.b.g M.c M.s Try.prog C (fun v0 v1 v2 v4 H k => loopL M Try.prog hints C LP F.slices_Chunk_byte_1 0 [(0, v0), (1, v1), (2, v2), (4, v4)] H k) a0 a1 a2 H (endK Try.prog []) := by kernel_rfl

theorem s_slices_Chunk_byte_1_b0_eq (M : CombL) (C : CallF) (LP : LoopH) (v0 : Value) (v1 : Value) (v2 : Value) (v4 : Value) (H : AHeap) (k : K) : bodyL M Try.prog hints C LP F.slices_Chunk_byte_1 0 [(0, v0), (1, v1), (2, v2), (4, v4)] H (afterK [0, 1, 2, 4] k) = s_slices_Chunk_byte_1_b0 M.b.g M.c M.s Try.prog C (fun v0 v1 v2 v4 H k => loopL M Try.prog hints C LP F.slices_Chunk_byte_1 0 [(0, v0), (1, v1), (2, v2), (4, v4)] H k) v0 v1 v2 v4 H k := by kernel_rfl

/-! (*ticketline.model.Model).at -/

noncomputable def s_model_Model_at (mg : GT) (mc : CT) (ms : ST) (P : Program) (C : CallF) (a0 : Value) (a1 : Value) (a2 : Value) (H : AHeap) (K0 : K) : Res :=
bareK (xbin P .eql T.p_model_Model (.tmp 13) (.const (.pointer none)) a0 (.pointer none)) H fun t14 h1 =>
mc t14 (fun k1 => k1 .ret [(6, (.int .i64 0)), (7, (.bool false)), (8, (.int .i64 1))] h1) (fun k1 =>
k1 .normal [(0, a0), (1, a1), (2, a2)] h1) (seqK (fun tT h2 =>
enterK C F.model_check [(get tT 1), (get tT 2)] h2 fun t17 h3 =>
bareK (xbin P .neq T.api_Errno (.tmp 18) (.const (.int .i64 0)) t17 (.int .i64 0)) h3 fun t19 h4 =>
mc t19 (fun k2 => k2 .ret [(6, (.int .i64 0)), (7, (.bool false)), (8, t17)] h4) (fun k2 =>
k2 .normal [(0, (get tT 0)), (1, (get tT 1))] h4) (seqK (fun tT_1 h5 =>
callK P C (.func (.func F.model_Model_place) #[(get tT_1 0)] #[]) [(get tT_1 1)] h5 fun t26 h6 =>
bareK (xextract t26 0) h6 fun t27 h7 =>
bareK (xextract t26 1) h7 fun t28 h8 =>
K0 .ret [(6, t27), (7, t28), (8, (.int .i64 0))] h8) K0)) K0)

theorem s_model_Model_at_eq (M : CombL) (C : CallF) (LP : LoopH) (a0 : Value) (a1 : Value) (a2 : Value) (H : AHeap) : dBodyL M Try.prog hints C LP F.model_Model_at [a0, a1, a2] H = s_model_Model_at M.b.g M.c M.s Try.prog C a0 a1 a2 H (endK Try.prog [.tmp 6, .tmp 7, .tmp 8]) := by kernel_rfl

/-! (*ticketline.model.Model).set -/

noncomputable def s_model_Model_set (mg : GT) (mc : CT) (ms : ST) (P : Program) (C : CallF) (a0 : Value) (a1 : Value) (a2 : Value) (a3 : Value) (H : AHeap) (K0 : K) : Res :=
bothK (newv T.api_Pair a3 H) fun t7 h1 =>
ms (fun k1 =>
mc a2 (fun k2 => bareK (xnilCheck a0) h1 fun t23 h2 =>
bareK (fad 0 t23) h2 fun t24 h3 =>
bareK (ld1 h3 t24) h3 fun t25 h4 =>
bareK (ldN 2 h4 t7) h4 fun t27 h5 =>
bareK (ixS 2 t25 a1) h5 fun t28 h6 =>
quietK (stN 2 h6 t28 t27) fun _ h7 =>
checkK true <|
k2 .normal [] h7) (fun k2 =>
bareK (xnilCheck a0) h1 fun t31 h8 =>
bareK (fad 0 t31) h8 fun t32 h9 =>
bareK (ld1 h9 t32) h9 fun t33 h10 =>
bareK (lenS t33) h10 fun t34 h11 =>
bareK (xbin P .eql T.int (.tmp 34) (.const (.int .i64 20000)) t34 (.int .i64 20000)) h11 fun t35 h12 =>
mc t35 (fun k3 => k3 .ret [(8, (.int .i64 7))] h12) (fun k3 =>
bareK (xnilCheck a0) h12 fun t11 h13 =>
bareK (fad 0 t11) h13 fun t12 h14 =>
bareK (ld1 h14 t12) h14 fun t13 h15 =>
bareK (ldN 2 h15 t7) h15 fun t15 h16 =>
bothK (bldL T.api_Pair [(.string (mk [])), (.string (mk []))] 1 [(0, t15)] h16) fun t16 h17 =>
enterK C F.slices_Insert_Pair [t13, a1, t16] h17 fun t17 h18 =>
bareK (xnilCheck a0) h18 fun t18 h19 =>
bareK (fad 0 t18) h19 fun t19 h20 =>
quietK (st1 h20 t19 t17) fun _ h21 =>
checkK (okV (some true) none h17 h18 h12 h12 && true) <|
k3 .normal [] h21) (afterK [] k2)) (blkK [] 0 k1)) (seqK (fun tT h22 =>
K0 .ret [(8, (.int .i64 0))] h22) K0)

theorem s_model_Model_set_eq (M : CombL) (C : CallF) (LP : LoopH) (a0 : Value) (a1 : Value) (a2 : Value) (a3 : Value) (H : AHeap) : dBodyL M Try.prog hints C LP F.model_Model_set [a0, a1, a2, a3] H = s_model_Model_set M.b.g M.c M.s Try.prog C a0 a1 a2 a3 H (endK Try.prog [.tmp 8]) := by kernel_rfl

/-! slices.ContainsFunc[[]string,string] -/

noncomputable def s_slices_ContainsFunc_string (mg : GT) (mc : CT) (ms : ST) (P : Program) (C : CallF) (a0 : Value) (a1 : Value) (H : AHeap) (K0 : K) : Res :=
enterK C F.slices_IndexFunc_string [a0, a1] H fun t7 h1 =>
bareK (xbin P .geq T.int (.tmp 7) (.const (.int .i64 0)) t7 (.int .i64 0)) h1 fun t8 h2 =>
K0 .ret [(4, t8)] h2

theorem s_slices_ContainsFunc_string_eq (M : CombL) (C : CallF) (LP : LoopH) (a0 : Value) (a1 : Value) (H : AHeap) : dBodyL M Try.prog hints C LP F.slices_ContainsFunc_string [a0, a1] H = s_slices_ContainsFunc_string M.b.g M.c M.s Try.prog C a0 a1 H (endK Try.prog [.tmp 4]) := by kernel_rfl

/-! ticketline.model.check$1 -/

noncomputable def s_model_check_1 (mg : GT) (mc : CT) (ms : ST) (P : Program) (C : CallF) (a0 : Value) (H : AHeap) (K0 : K) : Res :=
bareK (lenT a0) H fun t4 h1 =>
bareK (xbin P .gtr T.int (.tmp 4) (.const (.int .i64 40)) t4 (.int .i64 40)) h1 fun t5 h2 =>
K0 .ret [(2, t5)] h2

theorem s_model_check_1_eq (M : CombL) (C : CallF) (LP : LoopH) (a0 : Value) (H : AHeap) : dBodyL M Try.prog hints C LP F.model_check_1 [a0] H = s_model_check_1 M.b.g M.c M.s Try.prog C a0 H (endK Try.prog [.tmp 2]) := by kernel_rfl

/-! strings.Compare -/

noncomputable def s_strings_Compare (mg : GT) (mc : CT) (ms : ST) (P : Program) (C : CallF) (a0 : Value) (a1 : Value) (H : AHeap) (K0 : K) : Res :=
enterK C F.internal_bytealg_CompareString [a0, a1] H fun t7 h1 =>
K0 .ret [(4, t7)] h1

theorem s_strings_Compare_eq (M : CombL) (C : CallF) (LP : LoopH) (a0 : Value) (a1 : Value) (H : AHeap) : dBodyL M Try.prog hints C LP F.strings_Compare [a0, a1] H = s_strings_Compare M.b.g M.c M.s Try.prog C a0 a1 H (endK Try.prog [.tmp 4]) := by kernel_rfl

/-! (*ticketline.model.Model).place -/

noncomputable def s_model_Model_place (mg : GT) (mc : CT) (ms : ST) (P : Program) (C : CallF) (a0 : Value) (a1 : Value) (H : AHeap) (K0 : K) : Res :=
bareK (xnilCheck a0) H fun t7 h1 =>
bareK (fad 0 t7) h1 fun t8 h2 =>
bareK (ld1 h2 t8) h2 fun t9 h3 =>
enterK C F.slices_BinarySearchFunc_string [t9, a1, (.func (.func F.model_Model_place_1) #[] #[])] h3 fun t11 h4 =>
bareK (xextract t11 0) h4 fun t12 h5 =>
bareK (xextract t11 1) h5 fun t13 h6 =>
K0 .ret [(4, t12), (5, t13)] h6

theorem s_model_Model_place_eq (M : CombL) (C : CallF) (LP : LoopH) (a0 : Value) (a1 : Value) (H : AHeap) : dBodyL M Try.prog hints C LP F.model_Model_place [a0, a1] H = s_model_Model_place M.b.g M.c M.s Try.prog C a0 a1 H (endK Try.prog [.tmp 4, .tmp 5]) := by kernel_rfl

/-! slices.Insert[[]ticketline.api.Pair,ticketline.api.Pair] -/

noncomputable def s_slices_Insert_Pair (mg : GT) (mc : CT) (ms : ST) (P : Program) (C : CallF) (a0 : Value) (a1 : Value) (a2 : Value) (H : AHeap) (K0 : K) : Res :=
bareK (slS T.api_Pair 2 a0 (some a1) none none H) H fun t12 h1 =>
bareK (lenS a2) h1 fun t14 h2 =>
bareK (xbin P .eql T.int (.tmp 15) (.const (.int .i64 0)) t14 (.int .i64 0)) h2 fun t16 h3 =>
mc t16 (fun k1 => k1 .ret [(6, a0)] h3) (fun k1 =>
k1 .normal [(0, a0), (1, a1), (2, a2), (7, t14)] h3) (seqK (fun tT h4 =>
bareK (lenS (get tT 0)) h4 fun t19 h5 =>
bareK (xbin P .eql T.int (.tmp 20) (.tmp 21) (get tT 1) t19) h5 fun t22 h6 =>
mc t22 (fun k2 => bothK (app T.api_Pair 2 32 (get tT 0) (srcS 2 (get tT 2) h6) h6) fun t25 h7 =>
k2 .ret [(6, t25)] h7) (fun k2 =>
k2 .normal [(0, (get tT 0)), (1, (get tT 1)), (2, (get tT 2)), (7, (get tT 7)), (8, t19)] h6) (seqK (fun tT_1 h8 =>
bareK (xbin P .add T.int (.tmp 26) (.tmp 27) (get tT_1 8) (get tT_1 7)) h8 fun t28 h9 =>
nextK C h9 (xbuiltin P .cap [T.sl_api_Pair] [(get tT_1 0)] h9) fun t30 h10 =>
bareK (xbin P .gtr T.int (.tmp 28) (.tmp 30) t28 t30) h10 fun t31 h11 =>
mc t31 (fun k3 => bareK (slS T.api_Pair 2 (get tT_1 0) none (some (get tT_1 1)) none h11) h11 fun t34 h12 =>
bareK (xbin P .add T.int (.tmp 35) (.tmp 36) (get tT_1 8) (get tT_1 7)) h12 fun t37 h13 =>
bareK (xbin P .sub T.int (.tmp 37) (.tmp 38) t37 (get tT_1 1)) h13 fun t39 h14 =>
bothK (app T.api_Pair 2 32 t34 (srcZ [(.string (mk [])), (.string (mk []))] 32 t39) h14) fun t40 h15 =>
bareK (slS T.api_Pair 2 t40 (some (get tT_1 1)) none none h15) h15 fun t43 h16 =>
bothK (cpy 2 t43 (get tT_1 2) h16) fun t45 h17 =>
bareK (xbin P .add T.int (.tmp 47) (.tmp 48) (get tT_1 1) (get tT_1 7)) h17 fun t49 h18 =>
bareK (slS T.api_Pair 2 t40 (some t49) none none h18) h18 fun t50 h19 =>
bareK (slS T.api_Pair 2 (get tT_1 0) (some (get tT_1 1)) none none h19) h19 fun t53 h20 =>
bothK (cpy 2 t50 t53 h20) fun t54 h21 =>
checkK true <|
k3 .ret [(6, t40)] h21) (fun k3 =>
k3 .normal [(0, (get tT_1 0)), (1, (get tT_1 1)), (2, (get tT_1 2)), (7, (get tT_1 7)), (8, (get tT_1 8))] h11) (seqK (fun tT_2 h22 =>
bareK (xbin P .add T.int (.tmp 57) (.tmp 58) (get tT_2 8) (get tT_2 7)) h22 fun t59 h23 =>
bareK (slS T.api_Pair 2 (get tT_2 0) none (some t59) none h23) h23 fun t60 h24 =>
bareK (xbin P .add T.int (.tmp 63) (.tmp 64) (get tT_2 1) (get tT_2 7)) h24 fun t65 h25 =>
bareK (slS T.api_Pair 2 t60 (some t65) none none h25) h25 fun t66 h26 =>
bareK (xext P Try.f61 [(get tT_2 2), t66] h26) h26 fun t67 h27 =>
bareK (xun P .not t67) h27 fun t68 h28 =>
mc t68 (fun k4 => bareK (xbin P .add T.int (.tmp 70) (.tmp 71) (get tT_2 1) (get tT_2 7)) h28 fun t72 h29 =>
bareK (slS T.api_Pair 2 t60 (some t72) none none h29) h29 fun t73 h30 =>
bareK (slS T.api_Pair 2 t60 (some (get tT_2 1)) none none h30) h30 fun t76 h31 =>
bothK (cpy 2 t73 t76 h31) fun t77 h32 =>
checkK true <|
bareK (slS T.api_Pair 2 t60 (some (get tT_2 1)) none none h32) h32 fun t80 h33 =>
bothK (cpy 2 t80 (get tT_2 2) h33) fun t82 h34 =>
k4 .ret [(6, t60)] h34) (fun k4 =>
k4 .normal [(0, t60), (1, (get tT_2 1)), (2, (get tT_2 2)), (7, (get tT_2 7)), (8, (get tT_2 8))] h28) (seqK (fun tT_3 h35 =>
bareK (slS T.api_Pair 2 (get tT_3 0) (some (get tT_3 8)) none none h35) h35 fun t86 h36 =>
bothK (cpy 2 t86 (get tT_3 2) h36) fun t88 h37 =>
bareK (slS T.api_Pair 2 (get tT_3 0) (some (get tT_3 1)) none none h37) h37 fun t91 h38 =>
enterK C F.slices_rotateRight_Pair [t91, (get tT_3 7)] h38 fun t93 h39 =>
K0 .ret [(6, (get tT_3 0))] h39) K0)) K0)) K0)) K0)

theorem s_slices_Insert_Pair_eq (M : CombL) (C : CallF) (LP : LoopH) (a0 : Value) (a1 : Value) (a2 : Value) (H : AHeap) : dBodyL M Try.prog hints C LP F.slices_Insert_Pair [a0, a1, a2] H = s_slices_Insert_Pair M.b.g M.c M.s Try.prog C a0 a1 a2 H (endK Try.prog [.tmp 6]) := by kernel_rfl

/-! slices.IndexFunc[[]string,string] -/

noncomputable def s_slices_IndexFunc_string (mg : GT) (mc : CT) (ms : ST) (P : Program) (C : CallF) (L0 : Value → Value → Value → Value → AHeap → K → Res) (a0 : Value) (a1 : Value) (H : AHeap) (K0 : K) : Res :=
bareK (lenS a0) H fun t7 h1 =>
ms (fun k1 =>
L0 a0 a1 t7 (.int .i64 0) h1 (blkK [] 0 k1)) (seqK (fun tT h2 =>
K0 .ret [(4, (.int .i64 (-1)))] h2) K0)

noncomputable def s_slices_IndexFunc_string_b0 (mg : GT) (mc : CT) (ms : ST) (P : Program) (C : CallF) (L0 : Value → Value → Value → Value → AHeap → K → Res) (v0 : Value) (v1 : Value) (v7 : Value) (v8 : Value) (H : AHeap) (k : K) : Res :=
bareK (xbin P .lss T.int (.tmp 8) (.tmp 7) v8 v7) H fun t9 h2 =>
mc t9 (fun k2 => k2 .normal [(0, v0), (1, v1), (7, v7), (8, v8)] h2) (fun k2 =>
k2 (.exit 0) [(9, t9), (0, v0), (1, v1), (7, v7), (8, v8)] h2) (seqK (fun tT h3 =>
ms (fun k3 =>
bareK (ixS 1 (get tT 0) (get tT 8)) h3 fun t14 h4 =>
bareK (ld1 h4 t14) h4 fun t15 h5 =>
callK P C (get tT 1) [t15] h5 fun t16 h6 =>
mc t16 (fun k4 => k4 .ret [(4, (get tT 8))] h6) (fun k4 =>
k4 .normal [(0, (get tT 0)), (1, (get tT 1)), (7, (get tT 7)), (8, (get tT 8))] h6) (blkK [0, 1, 7, 8] 1 k3)) (seqK (fun tT_1 h7 =>
bareK (xbin P .add T.int (.tmp 8) (.const (.int .i64 1)) (get tT_1 8) (.int .i64 1)) h7 fun t18 h8 =>
k .normal [(0, (get tT_1 0)), (1, (get tT_1 1)), (7, (get tT_1 7)), (8, t18)] h8) (afterK [0, 1, 7, 8] k))) (afterK [0, 1, 7, 8] k))

theorem s_slices_IndexFunc_string_eq (M : CombL) (C : CallF) (LP : LoopH) (a0 : Value) (a1 : Value) (H : AHeap) : dBodyL M Try.prog hints C LP F.slices_IndexFunc_string [a0, a1] H = s_slices_IndexFunc_string M.b.g M.c M.s Try.prog C (fun v0 v1 v7 v8 H k => loopL M Try.prog hints C LP F.slices_IndexFunc_string 0 [(0, v0), (1, v1), (7, v7), (8, v8)] H k) a0 a1 H (endK Try.prog [.tmp 4]) := by kernel_rfl

theorem s_slices_IndexFunc_string_b0_eq (M : CombL) (C : CallF) (LP : LoopH) (v0 : Value) (v1 : Value) (v7 : Value) (v8 : Value) (H : AHeap) (k : K) : bodyL M Try.prog hints C LP F.slices_IndexFunc_string 0 [(0, v0), (1, v1), (7, v7), (8, v8)] H (afterK [0, 1, 7, 8] k) = s_slices_IndexFunc_string_b0 M.b.g M.c M.s Try.prog C (fun v0 v1 v7 v8 H k => loopL M Try.prog hints C LP F.slices_IndexFunc_string 0 [(0, v0), (1, v1), (7, v7), (8, v8)] H k) v0 v1 v7 v8 H k := by kernel_rfl

/-! internal.bytealg.CompareString -/

noncomputable def s_internal_bytealg_CompareString (mg : GT) (mc : CT) (ms : ST) (P : Program) (C : CallF) (a0 : Value) (a1 : Value) (H : AHeap) (K0 : K) : Res :=
bareK (xext P Try.f63 [a0, a1] H) H fun t7 h1 =>
K0 .ret [(4, t7)] h1

theorem s_internal_bytealg_CompareString_eq (M : CombL) (C : CallF) (LP : LoopH) (a0 : Value) (a1 : Value) (H : AHeap) : dBodyL M Try.prog hints C LP F.internal_bytealg_CompareString [a0, a1] H = s_internal_bytealg_CompareString M.b.g M.c M.s Try.prog C a0 a1 H (endK Try.prog [.tmp 4]) := by kernel_rfl

/-! slices.BinarySearchFunc[[]ticketline.api.Pair,ticketline.api.Pair,string] -/

noncomputable def s_slices_BinarySearchFunc_string (mg : GT) (mc : CT) (ms : ST) (P : Program) (C : CallF) (L0 : Value → Value → Value → Value → Value → Value → AHeap → K → Res) (a0 : Value) (a1 : Value) (a2 : Value) (H : AHeap) (K0 : K) : Res :=
bareK (lenS a0) H fun t13 h1 =>
ms (fun k1 =>
L0 a0 a1 a2 t13 (.int .i64 0) t13 h1 (blkK [0, 1, 2, 8, 9] 0 k1)) (seqK (fun tT h2 =>
bareK (xbin P .lss T.int (.tmp 36) (.tmp 37) (get tT 9) (get tT 8)) h2 fun t38 h3 =>
mg t38 true (fun o2 => o2 (get tT 2) h3) h3 fun t40 h4 =>
mg t38 true (fun o3 => o3 (get tT 0) h4) h4 fun t41 h5 =>
mg t38 true (fun o4 => o4 (get tT 9) h5) h5 fun t42 h6 =>
mg t38 true (fun o5 => bareK (ixS 2 t41 t42) h6 o5) h6 fun t43 h7 =>
mg t38 true (fun o6 => bareK (ldN 2 h7 t43) h7 o6) h7 fun t44 h8 =>
mg t38 true (fun o7 => o7 (get tT 1) h8) h8 fun t45 h9 =>
mg t38 true (fun o8 => callK P C t40 [t44, t45] h9 o8) h9 fun t46 h10 =>
mg t38 true (fun o9 => bareK (xbin P .eql T.int (.tmp 46) (.const (.int .i64 0)) t46 (.int .i64 0)) h10 o9) h10 fun t47 h11 =>
pickK t38 t47 (.bool false) fun t48 =>
K0 .ret [(6, (get tT 9)), (7, t48)] h11) K0)

noncomputable def s_slices_BinarySearchFunc_string_b0 (mg : GT) (mc : CT) (ms : ST) (P : Program) (C : CallF) (L0 : Value → Value → Value → Value → Value → Value → AHeap → K → Res) (v0 : Value) (v1 : Value) (v2 : Value) (v8 : Value) (v9 : Value) (v10 : Value) (H : AHeap) (k : K) : Res :=
bareK (xbin P .lss T.int (.tmp 15) (.tmp 16) v9 v10) H fun t17 h2 =>
mc t17 (fun k2 => k2 .normal [(0, v0), (1, v1), (2, v2), (8, v8), (9, v9), (10, v10)] h2) (fun k2 =>
k2 (.exit 0) [(17, t17), (16, v10), (15, v9), (0, v0), (1, v1), (2, v2), (8, v8), (9, v9), (10, v10)] h2) (seqK (fun tT h3 =>
ms (fun k3 =>
bareK (xbin P .add T.int (.tmp 18) (.tmp 19) (get tT 9) (get tT 10)) h3 fun t20 h4 =>
bothK (xconv P T.int T.uint t20 h4) fun t21 h5 =>
bareK (xbin P .shr T.uint (.tmp 21) (.const (.int .u64 1)) t21 (.int .u64 1)) h5 fun t22 h6 =>
bothK (xconv P T.uint T.int t22 h6) fun t23 h7 =>
bareK (ixS 2 (get tT 0) t23) h7 fun t27 h8 =>
bareK (ldN 2 h8 t27) h8 fun t28 h9 =>
callK P C (get tT 2) [t28, (get tT 1)] h9 fun t30 h10 =>
bareK (xbin P .lss T.int (.tmp 30) (.const (.int .i64 0)) t30 (.int .i64 0)) h10 fun t31 h11 =>
mc t31 (fun k4 => bareK (xbin P .add T.int (.tmp 32) (.const (.int .i64 1)) t23 (.int .i64 1)) h11 fun t33 h12 =>
k4 .normal [(0, (get tT 0)), (1, (get tT 1)), (2, (get tT 2)), (8, (get tT 8)), (9, t33), (10, (get tT 10))] h12) (fun k4 =>
k4 .normal [(0, (get tT 0)), (1, (get tT 1)), (2, (get tT 2)), (8, (get tT 8)), (9, (get tT 9)), (10, t23)] h11) (blkK [0, 1, 2, 8, 9, 10] 1 k3)) (afterK [0, 1, 2, 8, 9, 10] k)) (afterK [0, 1, 2, 8, 9, 10] k))

theorem s_slices_BinarySearchFunc_string_eq (M : CombL) (C : CallF) (LP : LoopH) (a0 : Value) (a1 : Value) (a2 : Value) (H : AHeap) : dBodyL M Try.prog hints C LP F.slices_BinarySearchFunc_string [a0, a1, a2] H = s_slices_BinarySearchFunc_string M.b.g M.c M.s Try.prog C (fun v0 v1 v2 v8 v9 v10 H k => loopL M Try.prog hints C LP F.slices_BinarySearchFunc_string 0 [(0, v0), (1, v1), (2, v2), (8, v8), (9, v9), (10, v10)] H k) a0 a1 a2 H (endK Try.prog [.tmp 6, .tmp 7]) := by kernel_rfl

theorem s_slices_BinarySearchFunc_string_b0_eq (M : CombL) (C : CallF) (LP : LoopH) (v0 : Value) (v1 : Value) (v2 : Value) (v8 : Value) (v9 : Value) (v10 : Value) (H : AHeap) (k : K) : bodyL M Try.prog hints C LP F.slices_BinarySearchFunc_string 0 [(0, v0), (1, v1), (2, v2), (8, v8), (9, v9), (10, v10)] H (afterK [0, 1, 2, 8, 9, 10] k) = s_slices_BinarySearchFunc_string_b0 M.b.g M.c M.s Try.prog C (fun v0 v1 v2 v8 v9 v10 H k => loopL M Try.prog hints C LP F.slices_BinarySearchFunc_string 0 [(0, v0), (1, v1), (2, v2), (8, v8), (9, v9), (10, v10)] H k) v0 v1 v2 v8 v9 v10 H k := by kernel_rfl

/-! (*ticketline.model.Model).place$1 -/

noncomputable def s_model_Model_place_1 (mg : GT) (mc : CT) (ms : ST) (P : Program) (C : CallF) (a0 : Value) (a1 : Value) (H : AHeap) (K0 : K) : Res :=
bothK (newv T.api_Pair a0 H) fun t2 h1 =>
bareK (fad 0 t2) h1 fun t5 h2 =>
bareK (ld1 h2 t5) h2 fun t6 h3 =>
enterK C F.keys_Compare [t6, a1] h3 fun t8 h4 =>
K0 .ret [(4, t8)] h4

theorem s_model_Model_place_1_eq (M : CombL) (C : CallF) (LP : LoopH) (a0 : Value) (a1 : Value) (H : AHeap) : dBodyL M Try.prog hints C LP F.model_Model_place_1 [a0, a1] H = s_model_Model_place_1 M.b.g M.c M.s Try.prog C a0 a1 H (endK Try.prog [.tmp 4]) := by kernel_rfl

/-! slices.rotateRight[ticketline.api.Pair] -/

noncomputable def s_slices_rotateRight_Pair (mg : GT) (mc : CT) (ms : ST) (P : Program) (C : CallF) (a0 : Value) (a1 : Value) (H : AHeap) (K0 : K) : Res :=
bareK (lenS a0) H fun t6 h1 =>
bareK (xbin P .sub T.int (.tmp 6) (.tmp 7) t6 a1) h1 fun t8 h2 =>
enterK C F.slices_rotateLeft_Pair [a0, t8] h2 fun t9 h3 =>
K0 .normal [(9, t9), (8, t8), (7, a1), (6, t6), (5, a0), (4, a0), (0, a0), (1, a1)] h3

theorem s_slices_rotateRight_Pair_eq (M : CombL) (C : CallF) (LP : LoopH) (a0 : Value) (a1 : Value) (H : AHeap) : dBodyL M Try.prog hints C LP F.slices_rotateRight_Pair [a0, a1] H = s_slices_rotateRight_Pair M.b.g M.c M.s Try.prog C a0 a1 H (endK Try.prog []) := by kernel_rfl

/-! slices.rotateLeft[ticketline.api.Pair] -/

noncomputable def s_slices_rotateLeft_Pair (mg : GT) (mc : CT) (ms : ST) (P : Program) (C : CallF) (a0 : Value) (a1 : Value) (H : AHeap) (K0 : K) : Res :=
bareK (slS T.api_Pair 2 a0 none (some a1) none H) H fun t6 h1 =>
enterK C F.slices_Reverse_Pair [t6] h1 fun t7 h2 =>
bareK (slS T.api_Pair 2 a0 (some a1) none none h2) h2 fun t10 h3 =>
enterK C F.slices_Reverse_Pair [t10] h3 fun t11 h4 =>
enterK C F.slices_Reverse_Pair [a0] h4 fun t13 h5 =>
K0 .normal [(13, t13), (12, a0), (11, t11), (10, t10), (9, a1), (8, a0), (7, t7), (6, t6), (5, a1), (4, a0), (0, a0), (1, a1)] h5

theorem s_slices_rotateLeft_Pair_eq (M : CombL) (C : CallF) (LP : LoopH) (a0 : Value) (a1 : Value) (H : AHeap) : dBodyL M Try.prog hints C LP F.slices_rotateLeft_Pair [a0, a1] H = s_slices_rotateLeft_Pair M.b.g M.c M.s Try.prog C a0 a1 H (endK Try.prog []) := by kernel_rfl

/-! slices.Reverse[[]ticketline.api.Pair,ticketline.api.Pair] -/

noncomputable def s_slices_Reverse_Pair (mg : GT) (mc : CT) (ms : ST) (P : Program) (C : CallF) (L0 : Value → Value → Value → AHeap → K → Res) (a0 : Value) (H : AHeap) (K0 : K) : Res :=
bareK (lenS a0) H fun t5 h1 =>
bareK (xbin P .sub T.int (.tmp 5) (.const (.int .i64 1)) t5 (.int .i64 1)) h1 fun t6 h2 =>
ms (fun k1 =>
L0 a0 (.int .i64 0) t6 h2 (blkK [] 0 k1)) K0

noncomputable def s_slices_Reverse_Pair_b0 (mg : GT) (mc : CT) (ms : ST) (P : Program) (C : CallF) (L0 : Value → Value → Value → AHeap → K → Res) (v0 : Value) (v2 : Value) (v3 : Value) (H : AHeap) (k : K) : Res :=
bareK (xbin P .lss T.int (.tmp 7) (.tmp 8) v2 v3) H fun t9 h3 =>
mc t9 (fun k2 => k2 .normal [(0, v0), (2, v2), (3, v3)] h3) (fun k2 =>
k2 (.exit 0) [(9, t9), (8, v3), (7, v2), (0, v0), (2, v2), (3, v3)] h3) (seqK (fun tT h4 =>
ms (fun k3 =>
bareK (ixS 2 (get tT 0) (get tT 3)) h4 fun t20 h5 =>
bareK (ldN 2 h5 t20) h5 fun t21 h6 =>
bareK (ixS 2 (get tT 0) (get tT 2)) h6 fun t24 h7 =>
bareK (ldN 2 h7 t24) h7 fun t25 h8 =>
bareK (ixS 2 (get tT 0) (get tT 2)) h8 fun t26 h9 =>
quietK (stN 2 h9 t26 t21) fun _ h10 =>
bareK (ixS 2 (get tT 0) (get tT 3)) h10 fun t27 h11 =>
quietK (stN 2 h11 t27 t25) fun _ h12 =>
checkK (okV (some true) none h9 h10 h4 h4 && (okV (some true) none h9 h10 h4 h4 && true)) <|
k3 .normal [(0, (get tT 0)), (2, (get tT 2)), (3, (get tT 3))] h12) (seqK (fun tT_1 h13 =>
bareK (xbin P .add T.int (.tmp 10) (.const (.int .i64 1)) (get tT_1 2) (.int .i64 1)) h13 fun t11 h14 =>
bareK (xbin P .sub T.int (.tmp 12) (.const (.int .i64 1)) (get tT_1 3) (.int .i64 1)) h14 fun t13 h15 =>
k .normal [(0, (get tT_1 0)), (2, t11), (3, t13)] h15) (afterK [0, 2, 3] k))) (afterK [0, 2, 3] k))

theorem s_slices_Reverse_Pair_eq (M : CombL) (C : CallF) (LP : LoopH) (a0 : Value) (H : AHeap) : dBodyL M Try.prog hints C LP F.slices_Reverse_Pair [a0] H = s_slices_Reverse_Pair M.b.g M.c M.s Try.prog C (fun v0 v2 v3 H k => loopL M Try.prog hints C LP F.slices_Reverse_Pair 0 [(0, v0), (2, v2), (3, v3)] H k) a0 H (endK Try.prog []) := by kernel_rfl

theorem s_slices_Reverse_Pair_b0_eq (M : CombL) (C : CallF) (LP : LoopH) (v0 : Value) (v2 : Value) (v3 : Value) (H : AHeap) (k : K) : bodyL M Try.prog hints C LP F.slices_Reverse_Pair 0 [(0, v0), (2, v2), (3, v3)] H (afterK [0, 2, 3] k) = s_slices_Reverse_Pair_b0 M.b.g M.c M.s Try.prog C (fun v0 v2 v3 H k => loopL M Try.prog hints C LP F.slices_Reverse_Pair 0 [(0, v0), (2, v2), (3, v3)] H k) v0 v2 v3 H k := by kernel_rfl

end Go.Proofs.Ytehnchfnhbmkdaa

/-
  The equations of the seat's functions over calls in the limit (a program of ours printed it).
  Conditions: none. By an AI agent.
-/
set_option linter.unusedVariables false
namespace Go.Proofs.Ytehnchfnhbmkdaa
open Go Eng

theorem u_int : Try.prog.underlying T.int = Try.prog.underlying 3 := rfl
theorem u_bool : Try.prog.underlying T.bool = Try.prog.underlying 4 := rfl
theorem u_uint8 : Try.prog.underlying T.uint8 = Try.prog.underlying 5 := rfl
theorem u_string : Try.prog.underlying T.string = Try.prog.underlying 9 := rfl
theorem u_sl_uint8 : Try.prog.underlying T.sl_uint8 = Try.prog.underlying 22 := rfl
theorem u_sl_sl_uint8 : Try.prog.underlying T.sl_sl_uint8 = Try.prog.underlying 25 := rfl
theorem u_api_Errno : Try.prog.underlying T.api_Errno = Try.prog.underlying 32 := rfl
theorem u_sl_api_Pair : Try.prog.underlying T.sl_api_Pair = Try.prog.underlying 37 := rfl
theorem u_p_model_Model : Try.prog.underlying T.p_model_Model = Try.prog.underlying 39 := rfl
theorem u_uint32 : Try.prog.underlying T.uint32 = Try.prog.underlying 43 := rfl
theorem u_api_Pair : Try.prog.underlying T.api_Pair = Try.prog.underlying 60 := rfl
theorem u_model_Model : Try.prog.underlying T.model_Model = Try.prog.underlying 62 := rfl
theorem u_uint : Try.prog.underlying T.uint = Try.prog.underlying 73 := rfl
theorem u_map_uint32_uint8 : Try.prog.underlying T.map_uint32_uint8 = Try.prog.underlying 86 := rfl
@[go_sem] theorem x_int_uint8 {n : Int} {H : AHeap} : xconv Try.prog T.int T.uint8 (.int .i64 n) H = some (.int .u8 (IntKind.wrap .u8 n), H) := xconv_int (P := Try.prog) (s := 3) (t := 5) Try.underlying3 Try.underlying5
@[go_sem] theorem x_int_uint32 {n : Int} {H : AHeap} : xconv Try.prog T.int T.uint32 (.int .i64 n) H = some (.int .u32 (IntKind.wrap .u32 n), H) := xconv_int (P := Try.prog) (s := 3) (t := 43) Try.underlying3 Try.underlying43
@[go_sem] theorem x_int_uint {n : Int} {H : AHeap} : xconv Try.prog T.int T.uint (.int .i64 n) H = some (.int .u64 (IntKind.wrap .u64 n), H) := xconv_int (P := Try.prog) (s := 3) (t := 73) Try.underlying3 Try.underlying73
@[go_sem] theorem x_uint8_int {n : Int} {H : AHeap} : xconv Try.prog T.uint8 T.int (.int .u8 n) H = some (.int .i64 (IntKind.wrap .i64 n), H) := xconv_int (P := Try.prog) (s := 5) (t := 3) Try.underlying5 Try.underlying3
@[go_sem] theorem x_uint8_uint32 {n : Int} {H : AHeap} : xconv Try.prog T.uint8 T.uint32 (.int .u8 n) H = some (.int .u32 (IntKind.wrap .u32 n), H) := xconv_int (P := Try.prog) (s := 5) (t := 43) Try.underlying5 Try.underlying43
@[go_sem] theorem x_uint32_int {n : Int} {H : AHeap} : xconv Try.prog T.uint32 T.int (.int .u32 n) H = some (.int .i64 (IntKind.wrap .i64 n), H) := xconv_int (P := Try.prog) (s := 43) (t := 3) Try.underlying43 Try.underlying3
@[go_sem] theorem x_uint32_uint8 {n : Int} {H : AHeap} : xconv Try.prog T.uint32 T.uint8 (.int .u32 n) H = some (.int .u8 (IntKind.wrap .u8 n), H) := xconv_int (P := Try.prog) (s := 43) (t := 5) Try.underlying43 Try.underlying5
@[go_sem] theorem x_uint_int {n : Int} {H : AHeap} : xconv Try.prog T.uint T.int (.int .u64 n) H = some (.int .i64 (IntKind.wrap .i64 n), H) := xconv_int (P := Try.prog) (s := 73) (t := 3) Try.underlying73 Try.underlying3
theorem c_model_Model_Len {call : CallF} {x c : Array Value} {args : List Value} {H : AHeap} {k : Value → AHeap → Res} : callK Try.prog call (.func (.func F.model_Model_Len) x c) args H k = enterK call F.model_Model_Len (x.toList ++ args ++ c.toList) H k := by kernel_rfl
theorem c_slices_Chunk_byte_1 {call : CallF} {x c : Array Value} {args : List Value} {H : AHeap} {k : Value → AHeap → Res} : callK Try.prog call (.func (.func F.slices_Chunk_byte_1) x c) args H k = enterK call F.slices_Chunk_byte_1 (x.toList ++ args ++ c.toList) H k := by kernel_rfl
theorem c_model_check_1 {call : CallF} {x c : Array Value} {args : List Value} {H : AHeap} {k : Value → AHeap → Res} : callK Try.prog call (.func (.func F.model_check_1) x c) args H k = enterK call F.model_check_1 (x.toList ++ args ++ c.toList) H k := by kernel_rfl
theorem c_model_Model_place {call : CallF} {x c : Array Value} {args : List Value} {H : AHeap} {k : Value → AHeap → Res} : callK Try.prog call (.func (.func F.model_Model_place) x c) args H k = enterK call F.model_Model_place (x.toList ++ args ++ c.toList) H k := by kernel_rfl
theorem c_model_Model_place_1 {call : CallF} {x c : Array Value} {args : List Value} {H : AHeap} {k : Value → AHeap → Res} : callK Try.prog call (.func (.func F.model_Model_place_1) x c) args H k = enterK call F.model_Model_place_1 (x.toList ++ args ++ c.toList) H k := by kernel_rfl

theorem d_law_cuts (a0 : Value) (a1 : Value) (a2 : Value) (a3 : Value) (H : AHeap) {r : Value × AHeap} (h : s_law_cuts guardK condL shareL Try.prog CC a0 a1 a2 a3 H (endK Try.prog [.tmp 8]) = some r) : CC F.law_cuts [a0, a1, a2, a3] H = some (tidy H r) := D_body (by kernel_rfl) ((s_law_cuts_eq stdL CC limLP a0 a1 a2 a3 H).trans (Eq.trans (show s_law_cuts stdL.b.g stdL.c stdL.s Try.prog CC a0 a1 a2 a3 H (endK Try.prog [.tmp 8]) = s_law_cuts guardK condL shareL Try.prog CC a0 a1 a2 a3 H (endK Try.prog [.tmp 8]) by kernel_rfl) h))

noncomputable def l_law_pieces_0 (v0 : Value) (v1 : Value) (v5 : Value) (v6 : Value) (v7 : Value) (H : AHeap) (k : K) : Res := loopL stdL Try.prog hints CC limLP F.law_pieces 0 [(0, v0), (1, v1), (5, v5), (6, v6), (7, v7)] H k
theorem r_law_pieces_0 (v0 : Value) (v1 : Value) (v5 : Value) (v6 : Value) (v7 : Value) (H : AHeap) (k : K) : l_law_pieces_0 v0 v1 v5 v6 v7 H k = s_law_pieces_b0 guardK condL shareL Try.prog CC l_law_pieces_0 v0 v1 v5 v6 v7 H (seqK (fun T H => l_law_pieces_0 (get T 0) (get T 1) (get T 5) (get T 6) (get T 7) H k) k) := ((loopL_next (by kernel_rfl) rfl H k).trans (s_law_pieces_b0_eq stdL CC limLP v0 v1 v5 v6 v7 H _)).trans (by kernel_rfl)
theorem d_law_pieces (a0 : Value) (a1 : Value) (H : AHeap) {r : Value × AHeap} (h : s_law_pieces guardK condL shareL Try.prog CC l_law_pieces_0 a0 a1 H (endK Try.prog [.tmp 4]) = some r) : CC F.law_pieces [a0, a1] H = some (tidy H r) := D_body (by kernel_rfl) ((s_law_pieces_eq stdL CC limLP a0 a1 H).trans (Eq.trans (show s_law_pieces stdL.b.g stdL.c stdL.s Try.prog CC (fun v0 v1 v5 v6 v7 H k => loopL stdL Try.prog hints CC limLP F.law_pieces 0 [(0, v0), (1, v1), (5, v5), (6, v6), (7, v7)] H k) a0 a1 H (endK Try.prog [.tmp 4]) = s_law_pieces guardK condL shareL Try.prog CC l_law_pieces_0 a0 a1 H (endK Try.prog [.tmp 4]) by kernel_rfl) h))

theorem d_law_joins (a0 : Value) (a1 : Value) (a2 : Value) (H : AHeap) {r : Value × AHeap} (h : s_law_joins guardK condL shareL Try.prog CC a0 a1 a2 H (endK Try.prog [.tmp 6]) = some r) : CC F.law_joins [a0, a1, a2] H = some (tidy H r) := D_body (by kernel_rfl) ((s_law_joins_eq stdL CC limLP a0 a1 a2 H).trans (Eq.trans (show s_law_joins stdL.b.g stdL.c stdL.s Try.prog CC a0 a1 a2 H (endK Try.prog [.tmp 6]) = s_law_joins guardK condL shareL Try.prog CC a0 a1 a2 H (endK Try.prog [.tmp 6]) by kernel_rfl) h))

noncomputable def l_law_joined_0 (v0 : Value) (v4 : Value) (H : AHeap) (k : K) : Res := loopL stdL Try.prog hints CC limLP F.law_joined 0 [(0, v0), (4, v4)] H k
noncomputable def l_law_joined_1 (v0 : Value) (v10 : Value) (v12 : Value) (v15 : Value) (H : AHeap) (k : K) : Res := loopL stdL Try.prog hints CC limLP F.law_joined 1 [(0, v0), (10, v10), (12, v12), (15, v15)] H k
noncomputable def l_law_joined_2 (v0 : Value) (v10 : Value) (v12 : Value) (v15 : Value) (v17 : Value) (v19 : Value) (v21 : Value) (H : AHeap) (k : K) : Res := loopL stdL Try.prog hints CC limLP F.law_joined 2 [(0, v0), (10, v10), (12, v12), (15, v15), (17, v17), (19, v19), (21, v21)] H k
noncomputable def l_law_joined_3 (v0 : Value) (v10 : Value) (v12 : Value) (v27 : Value) (v28 : Value) (H : AHeap) (k : K) : Res := loopL stdL Try.prog hints CC limLP F.law_joined 3 [(0, v0), (10, v10), (12, v12), (27, v27), (28, v28)] H k
noncomputable def l_law_joined_4 (v0 : Value) (v10 : Value) (v12 : Value) (v27 : Value) (v28 : Value) (v29 : Value) (v30 : Value) (H : AHeap) (k : K) : Res := loopL stdL Try.prog hints CC limLP F.law_joined 4 [(0, v0), (10, v10), (12, v12), (27, v27), (28, v28), (29, v29), (30, v30)] H k
theorem r_law_joined_0 (v0 : Value) (v4 : Value) (H : AHeap) (k : K) : l_law_joined_0 v0 v4 H k = s_law_joined_b0 guardK condL shareL Try.prog CC l_law_joined_0 l_law_joined_1 l_law_joined_2 l_law_joined_3 l_law_joined_4 v0 v4 H (seqK (fun T H => l_law_joined_0 (get T 0) (get T 4) H k) k) := ((loopL_next (by kernel_rfl) rfl H k).trans (s_law_joined_b0_eq stdL CC limLP v0 v4 H _)).trans (by kernel_rfl)
theorem r_law_joined_1 (v0 : Value) (v10 : Value) (v12 : Value) (v15 : Value) (H : AHeap) (k : K) : l_law_joined_1 v0 v10 v12 v15 H k = s_law_joined_b1 guardK condL shareL Try.prog CC l_law_joined_0 l_law_joined_1 l_law_joined_2 l_law_joined_3 l_law_joined_4 v0 v10 v12 v15 H (seqK (fun T H => l_law_joined_1 (get T 0) (get T 10) (get T 12) (get T 15) H k) k) := ((loopL_next (by kernel_rfl) rfl H k).trans (s_law_joined_b1_eq stdL CC limLP v0 v10 v12 v15 H _)).trans (by kernel_rfl)
theorem r_law_joined_2 (v0 : Value) (v10 : Value) (v12 : Value) (v15 : Value) (v17 : Value) (v19 : Value) (v21 : Value) (H : AHeap) (k : K) : l_law_joined_2 v0 v10 v12 v15 v17 v19 v21 H k = s_law_joined_b2 guardK condL shareL Try.prog CC l_law_joined_0 l_law_joined_1 l_law_joined_2 l_law_joined_3 l_law_joined_4 v0 v10 v12 v15 v17 v19 v21 H (seqK (fun T H => l_law_joined_2 (get T 0) (get T 10) (get T 12) (get T 15) (get T 17) (get T 19) (get T 21) H k) k) := ((loopL_next (by kernel_rfl) rfl H k).trans (s_law_joined_b2_eq stdL CC limLP v0 v10 v12 v15 v17 v19 v21 H _)).trans (by kernel_rfl)
theorem r_law_joined_3 (v0 : Value) (v10 : Value) (v12 : Value) (v27 : Value) (v28 : Value) (H : AHeap) (k : K) : l_law_joined_3 v0 v10 v12 v27 v28 H k = s_law_joined_b3 guardK condL shareL Try.prog CC l_law_joined_0 l_law_joined_1 l_law_joined_2 l_law_joined_3 l_law_joined_4 v0 v10 v12 v27 v28 H (seqK (fun T H => l_law_joined_3 (get T 0) (get T 10) (get T 12) (get T 27) (get T 28) H k) k) := ((loopL_next (by kernel_rfl) rfl H k).trans (s_law_joined_b3_eq stdL CC limLP v0 v10 v12 v27 v28 H _)).trans (by kernel_rfl)
theorem r_law_joined_4 (v0 : Value) (v10 : Value) (v12 : Value) (v27 : Value) (v28 : Value) (v29 : Value) (v30 : Value) (H : AHeap) (k : K) : l_law_joined_4 v0 v10 v12 v27 v28 v29 v30 H k = s_law_joined_b4 guardK condL shareL Try.prog CC l_law_joined_0 l_law_joined_1 l_law_joined_2 l_law_joined_3 l_law_joined_4 v0 v10 v12 v27 v28 v29 v30 H (seqK (fun T H => l_law_joined_4 (get T 0) (get T 10) (get T 12) (get T 27) (get T 28) (get T 29) (get T 30) H k) k) := ((loopL_next (by kernel_rfl) rfl H k).trans (s_law_joined_b4_eq stdL CC limLP v0 v10 v12 v27 v28 v29 v30 H _)).trans (by kernel_rfl)
theorem d_law_joined (a0 : Value) (H : AHeap) {r : Value × AHeap} (h : s_law_joined guardK condL shareL Try.prog CC l_law_joined_0 l_law_joined_1 l_law_joined_2 l_law_joined_3 l_law_joined_4 a0 H (endK Try.prog [.tmp 2, .tmp 3]) = some r) : CC F.law_joined [a0] H = some (tidy H r) := D_body (by kernel_rfl) ((s_law_joined_eq stdL CC limLP a0 H).trans (Eq.trans (show s_law_joined stdL.b.g stdL.c stdL.s Try.prog CC (fun v0 v4 H k => loopL stdL Try.prog hints CC limLP F.law_joined 0 [(0, v0), (4, v4)] H k) (fun v0 v10 v12 v15 H k => loopL stdL Try.prog hints CC limLP F.law_joined 1 [(0, v0), (10, v10), (12, v12), (15, v15)] H k) (fun v0 v10 v12 v15 v17 v19 v21 H k => loopL stdL Try.prog hints CC limLP F.law_joined 2 [(0, v0), (10, v10), (12, v12), (15, v15), (17, v17), (19, v19), (21, v21)] H k) (fun v0 v10 v12 v27 v28 H k => loopL stdL Try.prog hints CC limLP F.law_joined 3 [(0, v0), (10, v10), (12, v12), (27, v27), (28, v28)] H k) (fun v0 v10 v12 v27 v28 v29 v30 H k => loopL stdL Try.prog hints CC limLP F.law_joined 4 [(0, v0), (10, v10), (12, v12), (27, v27), (28, v28), (29, v29), (30, v30)] H k) a0 H (endK Try.prog [.tmp 2, .tmp 3]) = s_law_joined guardK condL shareL Try.prog CC l_law_joined_0 l_law_joined_1 l_law_joined_2 l_law_joined_3 l_law_joined_4 a0 H (endK Try.prog [.tmp 2, .tmp 3]) by kernel_rfl) h))

noncomputable def l_backup_Cut_0 (v6 : Value) (v7 : Value) (v8 : Value) (v37 : Value) (v38 : Value) (v39 : Value) (H : AHeap) (k : K) : Res := loopL stdL Try.prog hints CC limLP F.backup_Cut 0 [(6, v6), (7, v7), (8, v8), (37, v37), (38, v38), (39, v39)] H k
theorem r_backup_Cut_0 (v6 : Value) (v7 : Value) (v8 : Value) (v37 : Value) (v38 : Value) (v39 : Value) (H : AHeap) (k : K) : l_backup_Cut_0 v6 v7 v8 v37 v38 v39 H k = s_backup_Cut_b0 guardK condL shareL Try.prog CC l_backup_Cut_0 v6 v7 v8 v37 v38 v39 H (seqK (fun T H => l_backup_Cut_0 (get T 6) (get T 7) (get T 8) (get T 37) (get T 38) (get T 39) H k) k) := ((loopL_next (by kernel_rfl) rfl H k).trans (s_backup_Cut_b0_eq stdL CC limLP v6 v7 v8 v37 v38 v39 H _)).trans (by kernel_rfl)
theorem d_backup_Cut (a0 : Value) (a1 : Value) (H : AHeap) {r : Value × AHeap} (h : s_backup_Cut guardK condL shareL Try.prog CC l_backup_Cut_0 a0 a1 H (endK Try.prog [.tmp 4, .tmp 5]) = some r) : CC F.backup_Cut [a0, a1] H = some (tidy H r) := D_body (by kernel_rfl) ((s_backup_Cut_eq stdL CC limLP a0 a1 H).trans (Eq.trans (show s_backup_Cut stdL.b.g stdL.c stdL.s Try.prog CC (fun v6 v7 v8 v37 v38 v39 H k => loopL stdL Try.prog hints CC limLP F.backup_Cut 0 [(6, v6), (7, v7), (8, v8), (37, v37), (38, v38), (39, v39)] H k) a0 a1 H (endK Try.prog [.tmp 4, .tmp 5]) = s_backup_Cut guardK condL shareL Try.prog CC l_backup_Cut_0 a0 a1 H (endK Try.prog [.tmp 4, .tmp 5]) by kernel_rfl) h))

theorem d_law_decodes (a0 : Value) (a1 : Value) (a2 : Value) (H : AHeap) {r : Value × AHeap} (h : s_law_decodes guardK condL shareL Try.prog CC a0 a1 a2 H (endK Try.prog [.tmp 6]) = some r) : CC F.law_decodes [a0, a1, a2] H = some (tidy H r) := D_body (by kernel_rfl) ((s_law_decodes_eq stdL CC limLP a0 a1 a2 H).trans (Eq.trans (show s_law_decodes stdL.b.g stdL.c stdL.s Try.prog CC a0 a1 a2 H (endK Try.prog [.tmp 6]) = s_law_decodes guardK condL shareL Try.prog CC a0 a1 a2 H (endK Try.prog [.tmp 6]) by kernel_rfl) h))

noncomputable def l_law_small_0 (v0 : Value) (v3 : Value) (H : AHeap) (k : K) : Res := loopL stdL Try.prog hints CC limLP F.law_small 0 [(0, v0), (3, v3)] H k
theorem r_law_small_0 (v0 : Value) (v3 : Value) (H : AHeap) (k : K) : l_law_small_0 v0 v3 H k = s_law_small_b0 guardK condL shareL Try.prog CC l_law_small_0 v0 v3 H (seqK (fun T H => l_law_small_0 (get T 0) (get T 3) H k) k) := ((loopL_next (by kernel_rfl) rfl H k).trans (s_law_small_b0_eq stdL CC limLP v0 v3 H _)).trans (by kernel_rfl)
theorem d_law_small (a0 : Value) (H : AHeap) {r : Value × AHeap} (h : s_law_small guardK condL shareL Try.prog CC l_law_small_0 a0 H (endK Try.prog [.tmp 2]) = some r) : CC F.law_small [a0] H = some (tidy H r) := D_body (by kernel_rfl) ((s_law_small_eq stdL CC limLP a0 H).trans (Eq.trans (show s_law_small stdL.b.g stdL.c stdL.s Try.prog CC (fun v0 v3 H k => loopL stdL Try.prog hints CC limLP F.law_small 0 [(0, v0), (3, v3)] H k) a0 H (endK Try.prog [.tmp 2]) = s_law_small guardK condL shareL Try.prog CC l_law_small_0 a0 H (endK Try.prog [.tmp 2]) by kernel_rfl) h))

noncomputable def l_law_filled_0 (v0 : Value) (v3 : Value) (v4 : Value) (H : AHeap) (k : K) : Res := loopL stdL Try.prog hints CC limLP F.law_filled 0 [(0, v0), (3, v3), (4, v4)] H k
theorem r_law_filled_0 (v0 : Value) (v3 : Value) (v4 : Value) (H : AHeap) (k : K) : l_law_filled_0 v0 v3 v4 H k = s_law_filled_b0 guardK condL shareL Try.prog CC l_law_filled_0 v0 v3 v4 H (seqK (fun T H => l_law_filled_0 (get T 0) (get T 3) (get T 4) H k) k) := ((loopL_next (by kernel_rfl) rfl H k).trans (s_law_filled_b0_eq stdL CC limLP v0 v3 v4 H _)).trans (by kernel_rfl)
theorem d_law_filled (a0 : Value) (H : AHeap) {r : Value × AHeap} (h : s_law_filled guardK condL shareL Try.prog CC l_law_filled_0 a0 H (endK Try.prog [.tmp 2]) = some r) : CC F.law_filled [a0] H = some (tidy H r) := D_body (by kernel_rfl) ((s_law_filled_eq stdL CC limLP a0 H).trans (Eq.trans (show s_law_filled stdL.b.g stdL.c stdL.s Try.prog CC (fun v0 v3 v4 H k => loopL stdL Try.prog hints CC limLP F.law_filled 0 [(0, v0), (3, v3), (4, v4)] H k) a0 H (endK Try.prog [.tmp 2]) = s_law_filled guardK condL shareL Try.prog CC l_law_filled_0 a0 H (endK Try.prog [.tmp 2]) by kernel_rfl) h))

noncomputable def l_law_bytesOf_0 (v0 : Value) (v3 : Value) (v4 : Value) (H : AHeap) (k : K) : Res := loopL stdL Try.prog hints CC limLP F.law_bytesOf 0 [(0, v0), (3, v3), (4, v4)] H k
noncomputable def l_law_bytesOf_1 (v0 : Value) (v3 : Value) (v4 : Value) (v5 : Value) (H : AHeap) (k : K) : Res := loopL stdL Try.prog hints CC limLP F.law_bytesOf 1 [(0, v0), (3, v3), (4, v4), (5, v5)] H k
theorem r_law_bytesOf_0 (v0 : Value) (v3 : Value) (v4 : Value) (H : AHeap) (k : K) : l_law_bytesOf_0 v0 v3 v4 H k = s_law_bytesOf_b0 guardK condL shareL Try.prog CC l_law_bytesOf_0 l_law_bytesOf_1 v0 v3 v4 H (seqK (fun T H => l_law_bytesOf_0 (get T 0) (get T 3) (get T 4) H k) k) := ((loopL_next (by kernel_rfl) rfl H k).trans (s_law_bytesOf_b0_eq stdL CC limLP v0 v3 v4 H _)).trans (by kernel_rfl)
theorem r_law_bytesOf_1 (v0 : Value) (v3 : Value) (v4 : Value) (v5 : Value) (H : AHeap) (k : K) : l_law_bytesOf_1 v0 v3 v4 v5 H k = s_law_bytesOf_b1 guardK condL shareL Try.prog CC l_law_bytesOf_0 l_law_bytesOf_1 v0 v3 v4 v5 H (seqK (fun T H => l_law_bytesOf_1 (get T 0) (get T 3) (get T 4) (get T 5) H k) k) := ((loopL_next (by kernel_rfl) rfl H k).trans (s_law_bytesOf_b1_eq stdL CC limLP v0 v3 v4 v5 H _)).trans (by kernel_rfl)
theorem d_law_bytesOf (a0 : Value) (H : AHeap) {r : Value × AHeap} (h : s_law_bytesOf guardK condL shareL Try.prog CC l_law_bytesOf_0 l_law_bytesOf_1 a0 H (endK Try.prog [.tmp 2]) = some r) : CC F.law_bytesOf [a0] H = some (tidy H r) := D_body (by kernel_rfl) ((s_law_bytesOf_eq stdL CC limLP a0 H).trans (Eq.trans (show s_law_bytesOf stdL.b.g stdL.c stdL.s Try.prog CC (fun v0 v3 v4 H k => loopL stdL Try.prog hints CC limLP F.law_bytesOf 0 [(0, v0), (3, v3), (4, v4)] H k) (fun v0 v3 v4 v5 H k => loopL stdL Try.prog hints CC limLP F.law_bytesOf 1 [(0, v0), (3, v3), (4, v4), (5, v5)] H k) a0 H (endK Try.prog [.tmp 2]) = s_law_bytesOf guardK condL shareL Try.prog CC l_law_bytesOf_0 l_law_bytesOf_1 a0 H (endK Try.prog [.tmp 2]) by kernel_rfl) h))

theorem d_model_Model_Pairs (a0 : Value) (H : AHeap) {r : Value × AHeap} (h : s_model_Model_Pairs guardK condL shareL Try.prog CC a0 H (endK Try.prog [.tmp 2]) = some r) : CC F.model_Model_Pairs [a0] H = some (tidy H r) := D_body (by kernel_rfl) ((s_model_Model_Pairs_eq stdL CC limLP a0 H).trans (Eq.trans (show s_model_Model_Pairs stdL.b.g stdL.c stdL.s Try.prog CC a0 H (endK Try.prog [.tmp 2]) = s_model_Model_Pairs guardK condL shareL Try.prog CC a0 H (endK Try.prog [.tmp 2]) by kernel_rfl) h))

noncomputable def l_backup_Check_0 (v3 : Value) (v4 : Value) (v7 : Value) (v8 : Value) (v9 : Value) (H : AHeap) (k : K) : Res := loopL stdL Try.prog hints CC limLP F.backup_Check 0 [(3, v3), (4, v4), (7, v7), (8, v8), (9, v9)] H k
theorem r_backup_Check_0 (v3 : Value) (v4 : Value) (v7 : Value) (v8 : Value) (v9 : Value) (H : AHeap) (k : K) : l_backup_Check_0 v3 v4 v7 v8 v9 H k = s_backup_Check_b0 guardK condL shareL Try.prog CC l_backup_Check_0 v3 v4 v7 v8 v9 H (seqK (fun T H => l_backup_Check_0 (get T 3) (get T 4) (get T 7) (get T 8) (get T 9) H k) k) := ((loopL_next (by kernel_rfl) rfl H k).trans (s_backup_Check_b0_eq stdL CC limLP v3 v4 v7 v8 v9 H _)).trans (by kernel_rfl)
theorem d_backup_Check (a0 : Value) (H : AHeap) {r : Value × AHeap} (h : s_backup_Check guardK condL shareL Try.prog CC l_backup_Check_0 a0 H (endK Try.prog [.tmp 2]) = some r) : CC F.backup_Check [a0] H = some (tidy H r) := D_body (by kernel_rfl) ((s_backup_Check_eq stdL CC limLP a0 H).trans (Eq.trans (show s_backup_Check stdL.b.g stdL.c stdL.s Try.prog CC (fun v3 v4 v7 v8 v9 H k => loopL stdL Try.prog hints CC limLP F.backup_Check 0 [(3, v3), (4, v4), (7, v7), (8, v8), (9, v9)] H k) a0 H (endK Try.prog [.tmp 2]) = s_backup_Check guardK condL shareL Try.prog CC l_backup_Check_0 a0 H (endK Try.prog [.tmp 2]) by kernel_rfl) h))

noncomputable def l_law_check_0 (v0 : Value) (v3 : Value) (v4 : Value) (v5 : Value) (H : AHeap) (k : K) : Res := loopL stdL Try.prog hints CC limLP F.law_check 0 [(0, v0), (3, v3), (4, v4), (5, v5)] H k
theorem r_law_check_0 (v0 : Value) (v3 : Value) (v4 : Value) (v5 : Value) (H : AHeap) (k : K) : l_law_check_0 v0 v3 v4 v5 H k = s_law_check_b0 guardK condL shareL Try.prog CC l_law_check_0 v0 v3 v4 v5 H (seqK (fun T H => l_law_check_0 (get T 0) (get T 3) (get T 4) (get T 5) H k) k) := ((loopL_next (by kernel_rfl) rfl H k).trans (s_law_check_b0_eq stdL CC limLP v0 v3 v4 v5 H _)).trans (by kernel_rfl)
theorem d_law_check (a0 : Value) (H : AHeap) {r : Value × AHeap} (h : s_law_check guardK condL shareL Try.prog CC l_law_check_0 a0 H (endK Try.prog [.tmp 2]) = some r) : CC F.law_check [a0] H = some (tidy H r) := D_body (by kernel_rfl) ((s_law_check_eq stdL CC limLP a0 H).trans (Eq.trans (show s_law_check stdL.b.g stdL.c stdL.s Try.prog CC (fun v0 v3 v4 v5 H k => loopL stdL Try.prog hints CC limLP F.law_check 0 [(0, v0), (3, v3), (4, v4), (5, v5)] H k) a0 H (endK Try.prog [.tmp 2]) = s_law_check guardK condL shareL Try.prog CC l_law_check_0 a0 H (endK Try.prog [.tmp 2]) by kernel_rfl) h))

theorem d_law_encodes (a0 : Value) (a1 : Value) (a2 : Value) (H : AHeap) {r : Value × AHeap} (h : s_law_encodes guardK condL shareL Try.prog CC a0 a1 a2 H (endK Try.prog [.tmp 6]) = some r) : CC F.law_encodes [a0, a1, a2] H = some (tidy H r) := D_body (by kernel_rfl) ((s_law_encodes_eq stdL CC limLP a0 a1 a2 H).trans (Eq.trans (show s_law_encodes stdL.b.g stdL.c stdL.s Try.prog CC a0 a1 a2 H (endK Try.prog [.tmp 6]) = s_law_encodes guardK condL shareL Try.prog CC a0 a1 a2 H (endK Try.prog [.tmp 6]) by kernel_rfl) h))

noncomputable def l_law_many_0 (v0 : Value) (v5 : Value) (v6 : Value) (H : AHeap) (k : K) : Res := loopL stdL Try.prog hints CC limLP F.law_many 0 [(0, v0), (5, v5), (6, v6)] H k
theorem r_law_many_0 (v0 : Value) (v5 : Value) (v6 : Value) (H : AHeap) (k : K) : l_law_many_0 v0 v5 v6 H k = s_law_many_b0 guardK condL shareL Try.prog CC l_law_many_0 v0 v5 v6 H (seqK (fun T H => l_law_many_0 (get T 0) (get T 5) (get T 6) H k) k) := ((loopL_next (by kernel_rfl) rfl H k).trans (s_law_many_b0_eq stdL CC limLP v0 v5 v6 H _)).trans (by kernel_rfl)
theorem d_law_many (a0 : Value) (a1 : Value) (H : AHeap) {r : Value × AHeap} (h : s_law_many guardK condL shareL Try.prog CC l_law_many_0 a0 a1 H (endK Try.prog [.tmp 4]) = some r) : CC F.law_many [a0, a1] H = some (tidy H r) := D_body (by kernel_rfl) ((s_law_many_eq stdL CC limLP a0 a1 H).trans (Eq.trans (show s_law_many stdL.b.g stdL.c stdL.s Try.prog CC (fun v0 v5 v6 H k => loopL stdL Try.prog hints CC limLP F.law_many 0 [(0, v0), (5, v5), (6, v6)] H k) a0 a1 H (endK Try.prog [.tmp 4]) = s_law_many guardK condL shareL Try.prog CC l_law_many_0 a0 a1 H (endK Try.prog [.tmp 4]) by kernel_rfl) h))

theorem d_law_right (a0 : Value) (H : AHeap) {r : Value × AHeap} (h : s_law_right guardK condL shareL Try.prog CC a0 H (endK Try.prog [.tmp 2]) = some r) : CC F.law_right [a0] H = some (tidy H r) := D_body (by kernel_rfl) ((s_law_right_eq stdL CC limLP a0 H).trans (Eq.trans (show s_law_right stdL.b.g stdL.c stdL.s Try.prog CC a0 H (endK Try.prog [.tmp 2]) = s_law_right guardK condL shareL Try.prog CC a0 H (endK Try.prog [.tmp 2]) by kernel_rfl) h))

noncomputable def l_backup_Encode_0 (v5 : Value) (v6 : Value) (v20 : Value) (v21 : Value) (v22 : Value) (H : AHeap) (k : K) : Res := loopL stdL Try.prog hints CC limLP F.backup_Encode 0 [(5, v5), (6, v6), (20, v20), (21, v21), (22, v22)] H k
theorem r_backup_Encode_0 (v5 : Value) (v6 : Value) (v20 : Value) (v21 : Value) (v22 : Value) (H : AHeap) (k : K) : l_backup_Encode_0 v5 v6 v20 v21 v22 H k = s_backup_Encode_b0 guardK condL shareL Try.prog CC l_backup_Encode_0 v5 v6 v20 v21 v22 H (seqK (fun T H => l_backup_Encode_0 (get T 5) (get T 6) (get T 20) (get T 21) (get T 22) H k) k) := ((loopL_next (by kernel_rfl) rfl H k).trans (s_backup_Encode_b0_eq stdL CC limLP v5 v6 v20 v21 v22 H _)).trans (by kernel_rfl)
theorem d_backup_Encode (a0 : Value) (H : AHeap) {r : Value × AHeap} (h : s_backup_Encode guardK condL shareL Try.prog CC l_backup_Encode_0 a0 H (endK Try.prog [.tmp 2, .tmp 3]) = some r) : CC F.backup_Encode [a0] H = some (tidy H r) := D_body (by kernel_rfl) ((s_backup_Encode_eq stdL CC limLP a0 H).trans (Eq.trans (show s_backup_Encode stdL.b.g stdL.c stdL.s Try.prog CC (fun v5 v6 v20 v21 v22 H k => loopL stdL Try.prog hints CC limLP F.backup_Encode 0 [(5, v5), (6, v6), (20, v20), (21, v21), (22, v22)] H k) a0 H (endK Try.prog [.tmp 2, .tmp 3]) = s_backup_Encode guardK condL shareL Try.prog CC l_backup_Encode_0 a0 H (endK Try.prog [.tmp 2, .tmp 3]) by kernel_rfl) h))

theorem d_model_Equal (a0 : Value) (a1 : Value) (H : AHeap) {r : Value × AHeap} (h : s_model_Equal guardK condL shareL Try.prog CC a0 a1 H (endK Try.prog [.tmp 4]) = some r) : CC F.model_Equal [a0, a1] H = some (tidy H r) := D_body (by kernel_rfl) ((s_model_Equal_eq stdL CC limLP a0 a1 H).trans (Eq.trans (show s_model_Equal stdL.b.g stdL.c stdL.s Try.prog CC a0 a1 H (endK Try.prog [.tmp 4]) = s_model_Equal guardK condL shareL Try.prog CC a0 a1 H (endK Try.prog [.tmp 4]) by kernel_rfl) h))

noncomputable def l_backup_Decode_0 (v0 : Value) (v4 : Value) (v5 : Value) (v6 : Value) (v26 : Value) (v27 : Value) (H : AHeap) (k : K) : Res := loopL stdL Try.prog hints CC limLP F.backup_Decode 0 [(0, v0), (4, v4), (5, v5), (6, v6), (26, v26), (27, v27)] H k
theorem r_backup_Decode_0 (v0 : Value) (v4 : Value) (v5 : Value) (v6 : Value) (v26 : Value) (v27 : Value) (H : AHeap) (k : K) : l_backup_Decode_0 v0 v4 v5 v6 v26 v27 H k = s_backup_Decode_b0 guardK condL shareL Try.prog CC l_backup_Decode_0 v0 v4 v5 v6 v26 v27 H (seqK (fun T H => l_backup_Decode_0 (get T 0) (get T 4) (get T 5) (get T 6) (get T 26) (get T 27) H k) k) := ((loopL_next (by kernel_rfl) rfl H k).trans (s_backup_Decode_b0_eq stdL CC limLP v0 v4 v5 v6 v26 v27 H _)).trans (by kernel_rfl)
theorem d_backup_Decode (a0 : Value) (H : AHeap) {r : Value × AHeap} (h : s_backup_Decode guardK condL shareL Try.prog CC l_backup_Decode_0 a0 H (endK Try.prog [.tmp 2, .tmp 3]) = some r) : CC F.backup_Decode [a0] H = some (tidy H r) := D_body (by kernel_rfl) ((s_backup_Decode_eq stdL CC limLP a0 H).trans (Eq.trans (show s_backup_Decode stdL.b.g stdL.c stdL.s Try.prog CC (fun v0 v4 v5 v6 v26 v27 H k => loopL stdL Try.prog hints CC limLP F.backup_Decode 0 [(0, v0), (4, v4), (5, v5), (6, v6), (26, v26), (27, v27)] H k) a0 H (endK Try.prog [.tmp 2, .tmp 3]) = s_backup_Decode guardK condL shareL Try.prog CC l_backup_Decode_0 a0 H (endK Try.prog [.tmp 2, .tmp 3]) by kernel_rfl) h))

noncomputable def l_model_Of_0 (v0 : Value) (v7 : Value) (v8 : Value) (v9 : Value) (H : AHeap) (k : K) : Res := loopL stdL Try.prog hints CC limLP F.model_Of 0 [(0, v0), (7, v7), (8, v8), (9, v9)] H k
theorem r_model_Of_0 (v0 : Value) (v7 : Value) (v8 : Value) (v9 : Value) (H : AHeap) (k : K) : l_model_Of_0 v0 v7 v8 v9 H k = s_model_Of_b0 guardK condL shareL Try.prog CC l_model_Of_0 v0 v7 v8 v9 H (seqK (fun T H => l_model_Of_0 (get T 0) (get T 7) (get T 8) (get T 9) H k) k) := ((loopL_next (by kernel_rfl) rfl H k).trans (s_model_Of_b0_eq stdL CC limLP v0 v7 v8 v9 H _)).trans (by kernel_rfl)
theorem d_model_Of (a0 : Value) (H : AHeap) {r : Value × AHeap} (h : s_model_Of guardK condL shareL Try.prog CC l_model_Of_0 a0 H (endK Try.prog [.tmp 2, .tmp 3]) = some r) : CC F.model_Of [a0] H = some (tidy H r) := D_body (by kernel_rfl) ((s_model_Of_eq stdL CC limLP a0 H).trans (Eq.trans (show s_model_Of stdL.b.g stdL.c stdL.s Try.prog CC (fun v0 v7 v8 v9 H k => loopL stdL Try.prog hints CC limLP F.model_Of 0 [(0, v0), (7, v7), (8, v8), (9, v9)] H k) a0 H (endK Try.prog [.tmp 2, .tmp 3]) = s_model_Of guardK condL shareL Try.prog CC l_model_Of_0 a0 H (endK Try.prog [.tmp 2, .tmp 3]) by kernel_rfl) h))

noncomputable def l_law_same_0 (v0 : Value) (v1 : Value) (v5 : Value) (H : AHeap) (k : K) : Res := loopL stdL Try.prog hints CC limLP F.law_same 0 [(0, v0), (1, v1), (5, v5)] H k
theorem r_law_same_0 (v0 : Value) (v1 : Value) (v5 : Value) (H : AHeap) (k : K) : l_law_same_0 v0 v1 v5 H k = s_law_same_b0 guardK condL shareL Try.prog CC l_law_same_0 v0 v1 v5 H (seqK (fun T H => l_law_same_0 (get T 0) (get T 1) (get T 5) H k) k) := ((loopL_next (by kernel_rfl) rfl H k).trans (s_law_same_b0_eq stdL CC limLP v0 v1 v5 H _)).trans (by kernel_rfl)
theorem d_law_same (a0 : Value) (a1 : Value) (H : AHeap) {r : Value × AHeap} (h : s_law_same guardK condL shareL Try.prog CC l_law_same_0 a0 a1 H (endK Try.prog [.tmp 4]) = some r) : CC F.law_same [a0, a1] H = some (tidy H r) := D_body (by kernel_rfl) ((s_law_same_eq stdL CC limLP a0 a1 H).trans (Eq.trans (show s_law_same stdL.b.g stdL.c stdL.s Try.prog CC (fun v0 v1 v5 H k => loopL stdL Try.prog hints CC limLP F.law_same 0 [(0, v0), (1, v1), (5, v5)] H k) a0 a1 H (endK Try.prog [.tmp 4]) = s_law_same guardK condL shareL Try.prog CC l_law_same_0 a0 a1 H (endK Try.prog [.tmp 4]) by kernel_rfl) h))

noncomputable def l_backup_Join_0 (v0 : Value) (v4 : Value) (v20 : Value) (v21 : Value) (v22 : Value) (H : AHeap) (k : K) : Res := loopL stdL Try.prog hints CC limLP F.backup_Join 0 [(0, v0), (4, v4), (20, v20), (21, v21), (22, v22)] H k
noncomputable def l_backup_Join_1 (v0 : Value) (v35 : Value) (v36 : Value) (v37 : Value) (H : AHeap) (k : K) : Res := loopL stdL Try.prog hints CC limLP F.backup_Join 1 [(0, v0), (35, v35), (36, v36), (37, v37)] H k
noncomputable def l_backup_Join_2 (v0 : Value) (v9 : Value) (v58 : Value) (v59 : Value) (v60 : Value) (H : AHeap) (k : K) : Res := loopL stdL Try.prog hints CC limLP F.backup_Join 2 [(0, v0), (9, v9), (58, v58), (59, v59), (60, v60)] H k
noncomputable def l_backup_Join_3 (v0 : Value) (v9 : Value) (v15 : Value) (v118 : Value) (v119 : Value) (H : AHeap) (k : K) : Res := loopL stdL Try.prog hints CC limLP F.backup_Join 3 [(0, v0), (9, v9), (15, v15), (118, v118), (119, v119)] H k
theorem r_backup_Join_0 (v0 : Value) (v4 : Value) (v20 : Value) (v21 : Value) (v22 : Value) (H : AHeap) (k : K) : l_backup_Join_0 v0 v4 v20 v21 v22 H k = s_backup_Join_b0 guardK condL shareL Try.prog CC l_backup_Join_0 l_backup_Join_1 l_backup_Join_2 l_backup_Join_3 v0 v4 v20 v21 v22 H (seqK (fun T H => l_backup_Join_0 (get T 0) (get T 4) (get T 20) (get T 21) (get T 22) H k) k) := ((loopL_next (by kernel_rfl) rfl H k).trans (s_backup_Join_b0_eq stdL CC limLP v0 v4 v20 v21 v22 H _)).trans (by kernel_rfl)
theorem r_backup_Join_1 (v0 : Value) (v35 : Value) (v36 : Value) (v37 : Value) (H : AHeap) (k : K) : l_backup_Join_1 v0 v35 v36 v37 H k = s_backup_Join_b1 guardK condL shareL Try.prog CC l_backup_Join_0 l_backup_Join_1 l_backup_Join_2 l_backup_Join_3 v0 v35 v36 v37 H (seqK (fun T H => l_backup_Join_1 (get T 0) (get T 35) (get T 36) (get T 37) H k) k) := ((loopL_next (by kernel_rfl) rfl H k).trans (s_backup_Join_b1_eq stdL CC limLP v0 v35 v36 v37 H _)).trans (by kernel_rfl)
theorem r_backup_Join_2 (v0 : Value) (v9 : Value) (v58 : Value) (v59 : Value) (v60 : Value) (H : AHeap) (k : K) : l_backup_Join_2 v0 v9 v58 v59 v60 H k = s_backup_Join_b2 guardK condL shareL Try.prog CC l_backup_Join_0 l_backup_Join_1 l_backup_Join_2 l_backup_Join_3 v0 v9 v58 v59 v60 H (seqK (fun T H => l_backup_Join_2 (get T 0) (get T 9) (get T 58) (get T 59) (get T 60) H k) k) := ((loopL_next (by kernel_rfl) rfl H k).trans (s_backup_Join_b2_eq stdL CC limLP v0 v9 v58 v59 v60 H _)).trans (by kernel_rfl)
theorem r_backup_Join_3 (v0 : Value) (v9 : Value) (v15 : Value) (v118 : Value) (v119 : Value) (H : AHeap) (k : K) : l_backup_Join_3 v0 v9 v15 v118 v119 H k = s_backup_Join_b3 guardK condL shareL Try.prog CC l_backup_Join_0 l_backup_Join_1 l_backup_Join_2 l_backup_Join_3 v0 v9 v15 v118 v119 H (seqK (fun T H => l_backup_Join_3 (get T 0) (get T 9) (get T 15) (get T 118) (get T 119) H k) k) := ((loopL_next (by kernel_rfl) rfl H k).trans (s_backup_Join_b3_eq stdL CC limLP v0 v9 v15 v118 v119 H _)).trans (by kernel_rfl)
theorem d_backup_Join (a0 : Value) (H : AHeap) {r : Value × AHeap} (h : s_backup_Join guardK condL shareL Try.prog CC l_backup_Join_0 l_backup_Join_1 l_backup_Join_2 l_backup_Join_3 a0 H (endK Try.prog [.tmp 2, .tmp 3]) = some r) : CC F.backup_Join [a0] H = some (tidy H r) := D_body (by kernel_rfl) ((s_backup_Join_eq stdL CC limLP a0 H).trans (Eq.trans (show s_backup_Join stdL.b.g stdL.c stdL.s Try.prog CC (fun v0 v4 v20 v21 v22 H k => loopL stdL Try.prog hints CC limLP F.backup_Join 0 [(0, v0), (4, v4), (20, v20), (21, v21), (22, v22)] H k) (fun v0 v35 v36 v37 H k => loopL stdL Try.prog hints CC limLP F.backup_Join 1 [(0, v0), (35, v35), (36, v36), (37, v37)] H k) (fun v0 v9 v58 v59 v60 H k => loopL stdL Try.prog hints CC limLP F.backup_Join 2 [(0, v0), (9, v9), (58, v58), (59, v59), (60, v60)] H k) (fun v0 v9 v15 v118 v119 H k => loopL stdL Try.prog hints CC limLP F.backup_Join 3 [(0, v0), (9, v9), (15, v15), (118, v118), (119, v119)] H k) a0 H (endK Try.prog [.tmp 2, .tmp 3]) = s_backup_Join guardK condL shareL Try.prog CC l_backup_Join_0 l_backup_Join_1 l_backup_Join_2 l_backup_Join_3 a0 H (endK Try.prog [.tmp 2, .tmp 3]) by kernel_rfl) h))

theorem d_law_part (a0 : Value) (H : AHeap) {r : Value × AHeap} (h : s_law_part guardK condL shareL Try.prog CC a0 H (endK Try.prog [.tmp 2, .tmp 3, .tmp 4, .tmp 5, .tmp 6]) = some r) : CC F.law_part [a0] H = some (tidy H r) := D_body (by kernel_rfl) ((s_law_part_eq stdL CC limLP a0 H).trans (Eq.trans (show s_law_part stdL.b.g stdL.c stdL.s Try.prog CC a0 H (endK Try.prog [.tmp 2, .tmp 3, .tmp 4, .tmp 5, .tmp 6]) = s_law_part guardK condL shareL Try.prog CC a0 H (endK Try.prog [.tmp 2, .tmp 3, .tmp 4, .tmp 5, .tmp 6]) by kernel_rfl) h))

theorem d_slices_Chunk_byte (a0 : Value) (a1 : Value) (H : AHeap) {r : Value × AHeap} (h : s_slices_Chunk_byte guardK condL shareL Try.prog CC a0 a1 H (endK Try.prog [.tmp 4]) = some r) : CC F.slices_Chunk_byte [a0, a1] H = some (tidy H r) := D_body (by kernel_rfl) ((s_slices_Chunk_byte_eq stdL CC limLP a0 a1 H).trans (Eq.trans (show s_slices_Chunk_byte stdL.b.g stdL.c stdL.s Try.prog CC a0 a1 H (endK Try.prog [.tmp 4]) = s_slices_Chunk_byte guardK condL shareL Try.prog CC a0 a1 H (endK Try.prog [.tmp 4]) by kernel_rfl) h))

theorem d_backup_four (a0 : Value) (H : AHeap) {r : Value × AHeap} (h : s_backup_four guardK condL shareL Try.prog CC a0 H (endK Try.prog [.tmp 2]) = some r) : CC F.backup_four [a0] H = some (tidy H r) := D_body (by kernel_rfl) ((s_backup_four_eq stdL CC limLP a0 H).trans (Eq.trans (show s_backup_four stdL.b.g stdL.c stdL.s Try.prog CC a0 H (endK Try.prog [.tmp 2]) = s_backup_four guardK condL shareL Try.prog CC a0 H (endK Try.prog [.tmp 2]) by kernel_rfl) h))

theorem d_slices_Clone_byte (a0 : Value) (H : AHeap) {r : Value × AHeap} (h : s_slices_Clone_byte guardK condL shareL Try.prog CC a0 H (endK Try.prog [.tmp 2]) = some r) : CC F.slices_Clone_byte [a0] H = some (tidy H r) := D_body (by kernel_rfl) ((s_slices_Clone_byte_eq stdL CC limLP a0 H).trans (Eq.trans (show s_slices_Clone_byte stdL.b.g stdL.c stdL.s Try.prog CC a0 H (endK Try.prog [.tmp 2]) = s_slices_Clone_byte guardK condL shareL Try.prog CC a0 H (endK Try.prog [.tmp 2]) by kernel_rfl) h))

theorem d_model_Model_Put (a0 : Value) (a1 : Value) (a2 : Value) (H : AHeap) {r : Value × AHeap} (h : s_model_Model_Put guardK condL shareL Try.prog CC a0 a1 a2 H (endK Try.prog [.tmp 6]) = some r) : CC F.model_Model_Put [a0, a1, a2] H = some (tidy H r) := D_body (by kernel_rfl) ((s_model_Model_Put_eq stdL CC limLP a0 a1 a2 H).trans (Eq.trans (show s_model_Model_Put stdL.b.g stdL.c stdL.s Try.prog CC a0 a1 a2 H (endK Try.prog [.tmp 6]) = s_model_Model_Put guardK condL shareL Try.prog CC a0 a1 a2 H (endK Try.prog [.tmp 6]) by kernel_rfl) h))

theorem d_slices_Clone_Pair (a0 : Value) (H : AHeap) {r : Value × AHeap} (h : s_slices_Clone_Pair guardK condL shareL Try.prog CC a0 H (endK Try.prog [.tmp 2]) = some r) : CC F.slices_Clone_Pair [a0] H = some (tidy H r) := D_body (by kernel_rfl) ((s_slices_Clone_Pair_eq stdL CC limLP a0 H).trans (Eq.trans (show s_slices_Clone_Pair stdL.b.g stdL.c stdL.s Try.prog CC a0 H (endK Try.prog [.tmp 2]) = s_slices_Clone_Pair guardK condL shareL Try.prog CC a0 H (endK Try.prog [.tmp 2]) by kernel_rfl) h))

noncomputable def l_law_read_0 (v0 : Value) (v4 : Value) (v5 : Value) (H : AHeap) (k : K) : Res := loopL stdL Try.prog hints CC limLP F.law_read 0 [(0, v0), (4, v4), (5, v5)] H k
noncomputable def l_law_read_1 (v0 : Value) (v4 : Value) (v6 : Value) (v7 : Value) (v8 : Value) (H : AHeap) (k : K) : Res := loopL stdL Try.prog hints CC limLP F.law_read 1 [(0, v0), (4, v4), (6, v6), (7, v7), (8, v8)] H k
noncomputable def l_law_read_2 (v0 : Value) (v4 : Value) (v6 : Value) (v7 : Value) (v8 : Value) (v9 : Value) (v10 : Value) (H : AHeap) (k : K) : Res := loopL stdL Try.prog hints CC limLP F.law_read 2 [(0, v0), (4, v4), (6, v6), (7, v7), (8, v8), (9, v9), (10, v10)] H k
theorem r_law_read_0 (v0 : Value) (v4 : Value) (v5 : Value) (H : AHeap) (k : K) : l_law_read_0 v0 v4 v5 H k = s_law_read_b0 guardK condL shareL Try.prog CC l_law_read_0 l_law_read_1 l_law_read_2 v0 v4 v5 H (seqK (fun T H => l_law_read_0 (get T 0) (get T 4) (get T 5) H k) k) := ((loopL_next (by kernel_rfl) rfl H k).trans (s_law_read_b0_eq stdL CC limLP v0 v4 v5 H _)).trans (by kernel_rfl)
theorem r_law_read_1 (v0 : Value) (v4 : Value) (v6 : Value) (v7 : Value) (v8 : Value) (H : AHeap) (k : K) : l_law_read_1 v0 v4 v6 v7 v8 H k = s_law_read_b1 guardK condL shareL Try.prog CC l_law_read_0 l_law_read_1 l_law_read_2 v0 v4 v6 v7 v8 H (seqK (fun T H => l_law_read_1 (get T 0) (get T 4) (get T 6) (get T 7) (get T 8) H k) k) := ((loopL_next (by kernel_rfl) rfl H k).trans (s_law_read_b1_eq stdL CC limLP v0 v4 v6 v7 v8 H _)).trans (by kernel_rfl)
theorem r_law_read_2 (v0 : Value) (v4 : Value) (v6 : Value) (v7 : Value) (v8 : Value) (v9 : Value) (v10 : Value) (H : AHeap) (k : K) : l_law_read_2 v0 v4 v6 v7 v8 v9 v10 H k = s_law_read_b2 guardK condL shareL Try.prog CC l_law_read_0 l_law_read_1 l_law_read_2 v0 v4 v6 v7 v8 v9 v10 H (seqK (fun T H => l_law_read_2 (get T 0) (get T 4) (get T 6) (get T 7) (get T 8) (get T 9) (get T 10) H k) k) := ((loopL_next (by kernel_rfl) rfl H k).trans (s_law_read_b2_eq stdL CC limLP v0 v4 v6 v7 v8 v9 v10 H _)).trans (by kernel_rfl)
theorem d_law_read (a0 : Value) (H : AHeap) {r : Value × AHeap} (h : s_law_read guardK condL shareL Try.prog CC l_law_read_0 l_law_read_1 l_law_read_2 a0 H (endK Try.prog [.tmp 2, .tmp 3]) = some r) : CC F.law_read [a0] H = some (tidy H r) := D_body (by kernel_rfl) ((s_law_read_eq stdL CC limLP a0 H).trans (Eq.trans (show s_law_read stdL.b.g stdL.c stdL.s Try.prog CC (fun v0 v4 v5 H k => loopL stdL Try.prog hints CC limLP F.law_read 0 [(0, v0), (4, v4), (5, v5)] H k) (fun v0 v4 v6 v7 v8 H k => loopL stdL Try.prog hints CC limLP F.law_read 1 [(0, v0), (4, v4), (6, v6), (7, v7), (8, v8)] H k) (fun v0 v4 v6 v7 v8 v9 v10 H k => loopL stdL Try.prog hints CC limLP F.law_read 2 [(0, v0), (4, v4), (6, v6), (7, v7), (8, v8), (9, v9), (10, v10)] H k) a0 H (endK Try.prog [.tmp 2, .tmp 3]) = s_law_read guardK condL shareL Try.prog CC l_law_read_0 l_law_read_1 l_law_read_2 a0 H (endK Try.prog [.tmp 2, .tmp 3]) by kernel_rfl) h))

noncomputable def l_keys_Prefix_0 (v0 : Value) (v1 : Value) (v5 : Value) (H : AHeap) (k : K) : Res := loopL stdL Try.prog hints CC limLP F.keys_Prefix 0 [(0, v0), (1, v1), (5, v5)] H k
theorem r_keys_Prefix_0 (v0 : Value) (v1 : Value) (v5 : Value) (H : AHeap) (k : K) : l_keys_Prefix_0 v0 v1 v5 H k = s_keys_Prefix_b0 guardK condL shareL Try.prog CC l_keys_Prefix_0 v0 v1 v5 H (seqK (fun T H => l_keys_Prefix_0 (get T 0) (get T 1) (get T 5) H k) k) := ((loopL_next (by kernel_rfl) rfl H k).trans (s_keys_Prefix_b0_eq stdL CC limLP v0 v1 v5 H _)).trans (by kernel_rfl)
theorem d_keys_Prefix (a0 : Value) (a1 : Value) (H : AHeap) {r : Value × AHeap} (h : s_keys_Prefix guardK condL shareL Try.prog CC l_keys_Prefix_0 a0 a1 H (endK Try.prog [.tmp 4]) = some r) : CC F.keys_Prefix [a0, a1] H = some (tidy H r) := D_body (by kernel_rfl) ((s_keys_Prefix_eq stdL CC limLP a0 a1 H).trans (Eq.trans (show s_keys_Prefix stdL.b.g stdL.c stdL.s Try.prog CC (fun v0 v1 v5 H k => loopL stdL Try.prog hints CC limLP F.keys_Prefix 0 [(0, v0), (1, v1), (5, v5)] H k) a0 a1 H (endK Try.prog [.tmp 4]) = s_keys_Prefix guardK condL shareL Try.prog CC l_keys_Prefix_0 a0 a1 H (endK Try.prog [.tmp 4]) by kernel_rfl) h))

theorem d_model_Model_Len (a0 : Value) (H : AHeap) {r : Value × AHeap} (h : s_model_Model_Len guardK condL shareL Try.prog CC a0 H (endK Try.prog [.tmp 2]) = some r) : CC F.model_Model_Len [a0] H = some (tidy H r) := D_body (by kernel_rfl) ((s_model_Model_Len_eq stdL CC limLP a0 H).trans (Eq.trans (show s_model_Model_Len stdL.b.g stdL.c stdL.s Try.prog CC a0 H (endK Try.prog [.tmp 2]) = s_model_Model_Len guardK condL shareL Try.prog CC a0 H (endK Try.prog [.tmp 2]) by kernel_rfl) h))

noncomputable def l_slices_Equal_Pair_0 (v0 : Value) (v1 : Value) (v12 : Value) (v13 : Value) (H : AHeap) (k : K) : Res := loopL stdL Try.prog hints CC limLP F.slices_Equal_Pair 0 [(0, v0), (1, v1), (12, v12), (13, v13)] H k
theorem r_slices_Equal_Pair_0 (v0 : Value) (v1 : Value) (v12 : Value) (v13 : Value) (H : AHeap) (k : K) : l_slices_Equal_Pair_0 v0 v1 v12 v13 H k = s_slices_Equal_Pair_b0 guardK condL shareL Try.prog CC l_slices_Equal_Pair_0 v0 v1 v12 v13 H (seqK (fun T H => l_slices_Equal_Pair_0 (get T 0) (get T 1) (get T 12) (get T 13) H k) k) := ((loopL_next (by kernel_rfl) rfl H k).trans (s_slices_Equal_Pair_b0_eq stdL CC limLP v0 v1 v12 v13 H _)).trans (by kernel_rfl)
theorem d_slices_Equal_Pair (a0 : Value) (a1 : Value) (H : AHeap) {r : Value × AHeap} (h : s_slices_Equal_Pair guardK condL shareL Try.prog CC l_slices_Equal_Pair_0 a0 a1 H (endK Try.prog [.tmp 4]) = some r) : CC F.slices_Equal_Pair [a0, a1] H = some (tidy H r) := D_body (by kernel_rfl) ((s_slices_Equal_Pair_eq stdL CC limLP a0 a1 H).trans (Eq.trans (show s_slices_Equal_Pair stdL.b.g stdL.c stdL.s Try.prog CC (fun v0 v1 v12 v13 H k => loopL stdL Try.prog hints CC limLP F.slices_Equal_Pair 0 [(0, v0), (1, v1), (12, v12), (13, v13)] H k) a0 a1 H (endK Try.prog [.tmp 4]) = s_slices_Equal_Pair guardK condL shareL Try.prog CC l_slices_Equal_Pair_0 a0 a1 H (endK Try.prog [.tmp 4]) by kernel_rfl) h))

noncomputable def l_backup_number_0 (v3 : Value) (v6 : Value) (v7 : Value) (v8 : Value) (H : AHeap) (k : K) : Res := loopL stdL Try.prog hints CC limLP F.backup_number 0 [(3, v3), (6, v6), (7, v7), (8, v8)] H k
theorem r_backup_number_0 (v3 : Value) (v6 : Value) (v7 : Value) (v8 : Value) (H : AHeap) (k : K) : l_backup_number_0 v3 v6 v7 v8 H k = s_backup_number_b0 guardK condL shareL Try.prog CC l_backup_number_0 v3 v6 v7 v8 H (seqK (fun T H => l_backup_number_0 (get T 3) (get T 6) (get T 7) (get T 8) H k) k) := ((loopL_next (by kernel_rfl) rfl H k).trans (s_backup_number_b0_eq stdL CC limLP v3 v6 v7 v8 H _)).trans (by kernel_rfl)
theorem d_backup_number (a0 : Value) (H : AHeap) {r : Value × AHeap} (h : s_backup_number guardK condL shareL Try.prog CC l_backup_number_0 a0 H (endK Try.prog [.tmp 2]) = some r) : CC F.backup_number [a0] H = some (tidy H r) := D_body (by kernel_rfl) ((s_backup_number_eq stdL CC limLP a0 H).trans (Eq.trans (show s_backup_number stdL.b.g stdL.c stdL.s Try.prog CC (fun v3 v6 v7 v8 H k => loopL stdL Try.prog hints CC limLP F.backup_number 0 [(3, v3), (6, v6), (7, v7), (8, v8)] H k) a0 H (endK Try.prog [.tmp 2]) = s_backup_number guardK condL shareL Try.prog CC l_backup_number_0 a0 H (endK Try.prog [.tmp 2]) by kernel_rfl) h))

theorem d_backup_take (a0 : Value) (H : AHeap) {r : Value × AHeap} (h : s_backup_take guardK condL shareL Try.prog CC a0 H (endK Try.prog [.tmp 2, .tmp 3, .tmp 4]) = some r) : CC F.backup_take [a0] H = some (tidy H r) := D_body (by kernel_rfl) ((s_backup_take_eq stdL CC limLP a0 H).trans (Eq.trans (show s_backup_take stdL.b.g stdL.c stdL.s Try.prog CC a0 H (endK Try.prog [.tmp 2, .tmp 3, .tmp 4]) = s_backup_take guardK condL shareL Try.prog CC a0 H (endK Try.prog [.tmp 2, .tmp 3, .tmp 4]) by kernel_rfl) h))

theorem d_model_Model_Insert (a0 : Value) (a1 : Value) (a2 : Value) (H : AHeap) {r : Value × AHeap} (h : s_model_Model_Insert guardK condL shareL Try.prog CC a0 a1 a2 H (endK Try.prog [.tmp 6]) = some r) : CC F.model_Model_Insert [a0, a1, a2] H = some (tidy H r) := D_body (by kernel_rfl) ((s_model_Model_Insert_eq stdL CC limLP a0 a1 a2 H).trans (Eq.trans (show s_model_Model_Insert stdL.b.g stdL.c stdL.s Try.prog CC a0 a1 a2 H (endK Try.prog [.tmp 6]) = s_model_Model_Insert guardK condL shareL Try.prog CC a0 a1 a2 H (endK Try.prog [.tmp 6]) by kernel_rfl) h))

theorem d_bytes_Equal (a0 : Value) (a1 : Value) (H : AHeap) {r : Value × AHeap} (h : s_bytes_Equal guardK condL shareL Try.prog CC a0 a1 H (endK Try.prog [.tmp 4]) = some r) : CC F.bytes_Equal [a0, a1] H = some (tidy H r) := D_body (by kernel_rfl) ((s_bytes_Equal_eq stdL CC limLP a0 a1 H).trans (Eq.trans (show s_bytes_Equal stdL.b.g stdL.c stdL.s Try.prog CC a0 a1 H (endK Try.prog [.tmp 4]) = s_bytes_Equal guardK condL shareL Try.prog CC a0 a1 H (endK Try.prog [.tmp 4]) by kernel_rfl) h))

theorem d_model_check (a0 : Value) (a1 : Value) (H : AHeap) {r : Value × AHeap} (h : s_model_check guardK condL shareL Try.prog CC a0 a1 H (endK Try.prog [.tmp 4]) = some r) : CC F.model_check [a0, a1] H = some (tidy H r) := D_body (by kernel_rfl) ((s_model_check_eq stdL CC limLP a0 a1 H).trans (Eq.trans (show s_model_check stdL.b.g stdL.c stdL.s Try.prog CC a0 a1 H (endK Try.prog [.tmp 4]) = s_model_check guardK condL shareL Try.prog CC a0 a1 H (endK Try.prog [.tmp 4]) by kernel_rfl) h))

theorem d_keys_Compare (a0 : Value) (a1 : Value) (H : AHeap) {r : Value × AHeap} (h : s_keys_Compare guardK condL shareL Try.prog CC a0 a1 H (endK Try.prog [.tmp 4]) = some r) : CC F.keys_Compare [a0, a1] H = some (tidy H r) := D_body (by kernel_rfl) ((s_keys_Compare_eq stdL CC limLP a0 a1 H).trans (Eq.trans (show s_keys_Compare stdL.b.g stdL.c stdL.s Try.prog CC a0 a1 H (endK Try.prog [.tmp 4]) = s_keys_Compare guardK condL shareL Try.prog CC a0 a1 H (endK Try.prog [.tmp 4]) by kernel_rfl) h))

noncomputable def l_slices_Chunk_byte_1_0 (v0 : Value) (v1 : Value) (v2 : Value) (v4 : Value) (H : AHeap) (k : K) : Res := loopL stdL Try.prog hints CC limLP F.slices_Chunk_byte_1 0 [(0, v0), (1, v1), (2, v2), (4, v4)] H k
theorem r_slices_Chunk_byte_1_0 (v0 : Value) (v1 : Value) (v2 : Value) (v4 : Value) (H : AHeap) (k : K) : l_slices_Chunk_byte_1_0 v0 v1 v2 v4 H k = s_slices_Chunk_byte_1_b0 guardK condL shareL Try.prog CC l_slices_Chunk_byte_1_0 v0 v1 v2 v4 H (seqK (fun T H => l_slices_Chunk_byte_1_0 (get T 0) (get T 1) (get T 2) (get T 4) H k) k) := ((loopL_next (by kernel_rfl) rfl H k).trans (s_slices_Chunk_byte_1_b0_eq stdL CC limLP v0 v1 v2 v4 H _)).trans (by kernel_rfl)
theorem d_slices_Chunk_byte_1 (a0 : Value) (a1 : Value) (a2 : Value) (H : AHeap) {r : Value × AHeap} (h : s_slices_Chunk_byte_1 guardK condL shareL Try.prog CC l_slices_Chunk_byte_1_0 a0 a1 a2 H (endK Try.prog []) = some r) : CC F.slices_Chunk_byte_1 [a0, a1, a2] H = some (tidy H r) := D_body (by kernel_rfl) ((s_slices_Chunk_byte_1_eq stdL CC limLP a0 a1 a2 H).trans (Eq.trans (show s_slices_Chunk_byte_1 stdL.b.g stdL.c stdL.s Try.prog CC (fun v0 v1 v2 v4 H k => loopL stdL Try.prog hints CC limLP F.slices_Chunk_byte_1 0 [(0, v0), (1, v1), (2, v2), (4, v4)] H k) a0 a1 a2 H (endK Try.prog []) = s_slices_Chunk_byte_1 guardK condL shareL Try.prog CC l_slices_Chunk_byte_1_0 a0 a1 a2 H (endK Try.prog []) by kernel_rfl) h))

theorem d_model_Model_at (a0 : Value) (a1 : Value) (a2 : Value) (H : AHeap) {r : Value × AHeap} (h : s_model_Model_at guardK condL shareL Try.prog CC a0 a1 a2 H (endK Try.prog [.tmp 6, .tmp 7, .tmp 8]) = some r) : CC F.model_Model_at [a0, a1, a2] H = some (tidy H r) := D_body (by kernel_rfl) ((s_model_Model_at_eq stdL CC limLP a0 a1 a2 H).trans (Eq.trans (show s_model_Model_at stdL.b.g stdL.c stdL.s Try.prog CC a0 a1 a2 H (endK Try.prog [.tmp 6, .tmp 7, .tmp 8]) = s_model_Model_at guardK condL shareL Try.prog CC a0 a1 a2 H (endK Try.prog [.tmp 6, .tmp 7, .tmp 8]) by kernel_rfl) h))

theorem d_model_Model_set (a0 : Value) (a1 : Value) (a2 : Value) (a3 : Value) (H : AHeap) {r : Value × AHeap} (h : s_model_Model_set guardK condL shareL Try.prog CC a0 a1 a2 a3 H (endK Try.prog [.tmp 8]) = some r) : CC F.model_Model_set [a0, a1, a2, a3] H = some (tidy H r) := D_body (by kernel_rfl) ((s_model_Model_set_eq stdL CC limLP a0 a1 a2 a3 H).trans (Eq.trans (show s_model_Model_set stdL.b.g stdL.c stdL.s Try.prog CC a0 a1 a2 a3 H (endK Try.prog [.tmp 8]) = s_model_Model_set guardK condL shareL Try.prog CC a0 a1 a2 a3 H (endK Try.prog [.tmp 8]) by kernel_rfl) h))

theorem d_slices_ContainsFunc_string (a0 : Value) (a1 : Value) (H : AHeap) {r : Value × AHeap} (h : s_slices_ContainsFunc_string guardK condL shareL Try.prog CC a0 a1 H (endK Try.prog [.tmp 4]) = some r) : CC F.slices_ContainsFunc_string [a0, a1] H = some (tidy H r) := D_body (by kernel_rfl) ((s_slices_ContainsFunc_string_eq stdL CC limLP a0 a1 H).trans (Eq.trans (show s_slices_ContainsFunc_string stdL.b.g stdL.c stdL.s Try.prog CC a0 a1 H (endK Try.prog [.tmp 4]) = s_slices_ContainsFunc_string guardK condL shareL Try.prog CC a0 a1 H (endK Try.prog [.tmp 4]) by kernel_rfl) h))

theorem d_model_check_1 (a0 : Value) (H : AHeap) {r : Value × AHeap} (h : s_model_check_1 guardK condL shareL Try.prog CC a0 H (endK Try.prog [.tmp 2]) = some r) : CC F.model_check_1 [a0] H = some (tidy H r) := D_body (by kernel_rfl) ((s_model_check_1_eq stdL CC limLP a0 H).trans (Eq.trans (show s_model_check_1 stdL.b.g stdL.c stdL.s Try.prog CC a0 H (endK Try.prog [.tmp 2]) = s_model_check_1 guardK condL shareL Try.prog CC a0 H (endK Try.prog [.tmp 2]) by kernel_rfl) h))

theorem d_strings_Compare (a0 : Value) (a1 : Value) (H : AHeap) {r : Value × AHeap} (h : s_strings_Compare guardK condL shareL Try.prog CC a0 a1 H (endK Try.prog [.tmp 4]) = some r) : CC F.strings_Compare [a0, a1] H = some (tidy H r) := D_body (by kernel_rfl) ((s_strings_Compare_eq stdL CC limLP a0 a1 H).trans (Eq.trans (show s_strings_Compare stdL.b.g stdL.c stdL.s Try.prog CC a0 a1 H (endK Try.prog [.tmp 4]) = s_strings_Compare guardK condL shareL Try.prog CC a0 a1 H (endK Try.prog [.tmp 4]) by kernel_rfl) h))

theorem d_model_Model_place (a0 : Value) (a1 : Value) (H : AHeap) {r : Value × AHeap} (h : s_model_Model_place guardK condL shareL Try.prog CC a0 a1 H (endK Try.prog [.tmp 4, .tmp 5]) = some r) : CC F.model_Model_place [a0, a1] H = some (tidy H r) := D_body (by kernel_rfl) ((s_model_Model_place_eq stdL CC limLP a0 a1 H).trans (Eq.trans (show s_model_Model_place stdL.b.g stdL.c stdL.s Try.prog CC a0 a1 H (endK Try.prog [.tmp 4, .tmp 5]) = s_model_Model_place guardK condL shareL Try.prog CC a0 a1 H (endK Try.prog [.tmp 4, .tmp 5]) by kernel_rfl) h))

noncomputable def l_slices_IndexFunc_string_0 (v0 : Value) (v1 : Value) (v7 : Value) (v8 : Value) (H : AHeap) (k : K) : Res := loopL stdL Try.prog hints CC limLP F.slices_IndexFunc_string 0 [(0, v0), (1, v1), (7, v7), (8, v8)] H k
theorem r_slices_IndexFunc_string_0 (v0 : Value) (v1 : Value) (v7 : Value) (v8 : Value) (H : AHeap) (k : K) : l_slices_IndexFunc_string_0 v0 v1 v7 v8 H k = s_slices_IndexFunc_string_b0 guardK condL shareL Try.prog CC l_slices_IndexFunc_string_0 v0 v1 v7 v8 H (seqK (fun T H => l_slices_IndexFunc_string_0 (get T 0) (get T 1) (get T 7) (get T 8) H k) k) := ((loopL_next (by kernel_rfl) rfl H k).trans (s_slices_IndexFunc_string_b0_eq stdL CC limLP v0 v1 v7 v8 H _)).trans (by kernel_rfl)
theorem d_slices_IndexFunc_string (a0 : Value) (a1 : Value) (H : AHeap) {r : Value × AHeap} (h : s_slices_IndexFunc_string guardK condL shareL Try.prog CC l_slices_IndexFunc_string_0 a0 a1 H (endK Try.prog [.tmp 4]) = some r) : CC F.slices_IndexFunc_string [a0, a1] H = some (tidy H r) := D_body (by kernel_rfl) ((s_slices_IndexFunc_string_eq stdL CC limLP a0 a1 H).trans (Eq.trans (show s_slices_IndexFunc_string stdL.b.g stdL.c stdL.s Try.prog CC (fun v0 v1 v7 v8 H k => loopL stdL Try.prog hints CC limLP F.slices_IndexFunc_string 0 [(0, v0), (1, v1), (7, v7), (8, v8)] H k) a0 a1 H (endK Try.prog [.tmp 4]) = s_slices_IndexFunc_string guardK condL shareL Try.prog CC l_slices_IndexFunc_string_0 a0 a1 H (endK Try.prog [.tmp 4]) by kernel_rfl) h))

theorem d_internal_bytealg_CompareString (a0 : Value) (a1 : Value) (H : AHeap) {r : Value × AHeap} (h : s_internal_bytealg_CompareString guardK condL shareL Try.prog CC a0 a1 H (endK Try.prog [.tmp 4]) = some r) : CC F.internal_bytealg_CompareString [a0, a1] H = some (tidy H r) := D_body (by kernel_rfl) ((s_internal_bytealg_CompareString_eq stdL CC limLP a0 a1 H).trans (Eq.trans (show s_internal_bytealg_CompareString stdL.b.g stdL.c stdL.s Try.prog CC a0 a1 H (endK Try.prog [.tmp 4]) = s_internal_bytealg_CompareString guardK condL shareL Try.prog CC a0 a1 H (endK Try.prog [.tmp 4]) by kernel_rfl) h))

noncomputable def l_slices_BinarySearchFunc_string_0 (v0 : Value) (v1 : Value) (v2 : Value) (v8 : Value) (v9 : Value) (v10 : Value) (H : AHeap) (k : K) : Res := loopL stdL Try.prog hints CC limLP F.slices_BinarySearchFunc_string 0 [(0, v0), (1, v1), (2, v2), (8, v8), (9, v9), (10, v10)] H k
theorem r_slices_BinarySearchFunc_string_0 (v0 : Value) (v1 : Value) (v2 : Value) (v8 : Value) (v9 : Value) (v10 : Value) (H : AHeap) (k : K) : l_slices_BinarySearchFunc_string_0 v0 v1 v2 v8 v9 v10 H k = s_slices_BinarySearchFunc_string_b0 guardK condL shareL Try.prog CC l_slices_BinarySearchFunc_string_0 v0 v1 v2 v8 v9 v10 H (seqK (fun T H => l_slices_BinarySearchFunc_string_0 (get T 0) (get T 1) (get T 2) (get T 8) (get T 9) (get T 10) H k) k) := ((loopL_next (by kernel_rfl) rfl H k).trans (s_slices_BinarySearchFunc_string_b0_eq stdL CC limLP v0 v1 v2 v8 v9 v10 H _)).trans (by kernel_rfl)
theorem d_slices_BinarySearchFunc_string (a0 : Value) (a1 : Value) (a2 : Value) (H : AHeap) {r : Value × AHeap} (h : s_slices_BinarySearchFunc_string guardK condL shareL Try.prog CC l_slices_BinarySearchFunc_string_0 a0 a1 a2 H (endK Try.prog [.tmp 6, .tmp 7]) = some r) : CC F.slices_BinarySearchFunc_string [a0, a1, a2] H = some (tidy H r) := D_body (by kernel_rfl) ((s_slices_BinarySearchFunc_string_eq stdL CC limLP a0 a1 a2 H).trans (Eq.trans (show s_slices_BinarySearchFunc_string stdL.b.g stdL.c stdL.s Try.prog CC (fun v0 v1 v2 v8 v9 v10 H k => loopL stdL Try.prog hints CC limLP F.slices_BinarySearchFunc_string 0 [(0, v0), (1, v1), (2, v2), (8, v8), (9, v9), (10, v10)] H k) a0 a1 a2 H (endK Try.prog [.tmp 6, .tmp 7]) = s_slices_BinarySearchFunc_string guardK condL shareL Try.prog CC l_slices_BinarySearchFunc_string_0 a0 a1 a2 H (endK Try.prog [.tmp 6, .tmp 7]) by kernel_rfl) h))

theorem d_model_Model_place_1 (a0 : Value) (a1 : Value) (H : AHeap) {r : Value × AHeap} (h : s_model_Model_place_1 guardK condL shareL Try.prog CC a0 a1 H (endK Try.prog [.tmp 4]) = some r) : CC F.model_Model_place_1 [a0, a1] H = some (tidy H r) := D_body (by kernel_rfl) ((s_model_Model_place_1_eq stdL CC limLP a0 a1 H).trans (Eq.trans (show s_model_Model_place_1 stdL.b.g stdL.c stdL.s Try.prog CC a0 a1 H (endK Try.prog [.tmp 4]) = s_model_Model_place_1 guardK condL shareL Try.prog CC a0 a1 H (endK Try.prog [.tmp 4]) by kernel_rfl) h))

theorem d_slices_rotateRight_Pair (a0 : Value) (a1 : Value) (H : AHeap) {r : Value × AHeap} (h : s_slices_rotateRight_Pair guardK condL shareL Try.prog CC a0 a1 H (endK Try.prog []) = some r) : CC F.slices_rotateRight_Pair [a0, a1] H = some (tidy H r) := D_body (by kernel_rfl) ((s_slices_rotateRight_Pair_eq stdL CC limLP a0 a1 H).trans (Eq.trans (show s_slices_rotateRight_Pair stdL.b.g stdL.c stdL.s Try.prog CC a0 a1 H (endK Try.prog []) = s_slices_rotateRight_Pair guardK condL shareL Try.prog CC a0 a1 H (endK Try.prog []) by kernel_rfl) h))

theorem d_slices_rotateLeft_Pair (a0 : Value) (a1 : Value) (H : AHeap) {r : Value × AHeap} (h : s_slices_rotateLeft_Pair guardK condL shareL Try.prog CC a0 a1 H (endK Try.prog []) = some r) : CC F.slices_rotateLeft_Pair [a0, a1] H = some (tidy H r) := D_body (by kernel_rfl) ((s_slices_rotateLeft_Pair_eq stdL CC limLP a0 a1 H).trans (Eq.trans (show s_slices_rotateLeft_Pair stdL.b.g stdL.c stdL.s Try.prog CC a0 a1 H (endK Try.prog []) = s_slices_rotateLeft_Pair guardK condL shareL Try.prog CC a0 a1 H (endK Try.prog []) by kernel_rfl) h))

noncomputable def l_slices_Reverse_Pair_0 (v0 : Value) (v2 : Value) (v3 : Value) (H : AHeap) (k : K) : Res := loopL stdL Try.prog hints CC limLP F.slices_Reverse_Pair 0 [(0, v0), (2, v2), (3, v3)] H k
theorem r_slices_Reverse_Pair_0 (v0 : Value) (v2 : Value) (v3 : Value) (H : AHeap) (k : K) : l_slices_Reverse_Pair_0 v0 v2 v3 H k = s_slices_Reverse_Pair_b0 guardK condL shareL Try.prog CC l_slices_Reverse_Pair_0 v0 v2 v3 H (seqK (fun T H => l_slices_Reverse_Pair_0 (get T 0) (get T 2) (get T 3) H k) k) := ((loopL_next (by kernel_rfl) rfl H k).trans (s_slices_Reverse_Pair_b0_eq stdL CC limLP v0 v2 v3 H _)).trans (by kernel_rfl)
theorem d_slices_Reverse_Pair (a0 : Value) (H : AHeap) {r : Value × AHeap} (h : s_slices_Reverse_Pair guardK condL shareL Try.prog CC l_slices_Reverse_Pair_0 a0 H (endK Try.prog []) = some r) : CC F.slices_Reverse_Pair [a0] H = some (tidy H r) := D_body (by kernel_rfl) ((s_slices_Reverse_Pair_eq stdL CC limLP a0 H).trans (Eq.trans (show s_slices_Reverse_Pair stdL.b.g stdL.c stdL.s Try.prog CC (fun v0 v2 v3 H k => loopL stdL Try.prog hints CC limLP F.slices_Reverse_Pair 0 [(0, v0), (2, v2), (3, v3)] H k) a0 H (endK Try.prog []) = s_slices_Reverse_Pair guardK condL shareL Try.prog CC l_slices_Reverse_Pair_0 a0 H (endK Try.prog []) by kernel_rfl) h))

end Go.Proofs.Ytehnchfnhbmkdaa

/-
  The engine, part 23: lists that lie in rows of cells: reading, slicing, appending.
  Conditions: none. By an AI agent.
-/
namespace Go.Proofs.Ytehnchfnhbmkdaa.Eng
open Go
set_option linter.unusedVariables false
set_option linter.unusedSimpArgs false

/-- How an element lies in cells. -/
structure Enc (α : Type) where
  w : Nat
  enc : α → List Value
  len : ∀ a, (enc a).length = w
  pos : 0 < w
  one : ∀ a, (enc a).all one = true

namespace Enc
variable {α : Type} (E : Enc α)

def cells (l : List α) : List Value := l.flatMap E.enc
@[simp] theorem cells_nil : E.cells [] = [] := rfl
@[simp] theorem cells_cons (a : α) (l : List α) : E.cells (a :: l) = E.enc a ++ E.cells l := rfl
theorem cells_append (l m : List α) : E.cells (l ++ m) = E.cells l ++ E.cells m := by simp [cells]
@[simp] theorem cells_len : ∀ (l : List α), (E.cells l).length = l.length * E.w
  | [] => by simp
  | a :: l => by simp [E.len, cells_len l, Nat.add_mul]; omega
theorem cells_one : ∀ (l : List α), (E.cells l).all Eng.one = true
  | [] => rfl
  | a :: l => by rw [cells_cons, List.all_append, E.one, cells_one l]; rfl
theorem cells_drop : ∀ (l : List α) (i : Nat), (E.cells l).drop (i * E.w) = E.cells (l.drop i)
  | l, 0 => by simp
  | [], i + 1 => by simp
  | a :: l, i + 1 => by
    rw [cells_cons, List.drop_append, E.len, List.drop_eq_nil_of_le (by rw [E.len, Nat.add_mul]; omega)]
    rw [show (i + 1) * E.w - E.w = i * E.w by rw [Nat.add_mul]; omega, cells_drop l i]
    simp
theorem cells_take : ∀ (l : List α) (i : Nat), (E.cells l).take (i * E.w) = E.cells (l.take i)
  | l, 0 => by simp
  | [], i + 1 => by simp
  | a :: l, i + 1 => by
    rw [cells_cons, List.take_append, E.len, List.take_of_length_le (by rw [E.len, Nat.add_mul]; omega)]
    rw [show (i + 1) * E.w - E.w = i * E.w by rw [Nat.add_mul]; omega, cells_take l i]
    simp
theorem cells_elem (l : List α) (i : Nat) (h : i < l.length) : ((E.cells l).drop (i * E.w)).take E.w = E.enc l[i] := by
  rw [cells_drop, List.drop_eq_getElem_cons h, cells_cons, List.take_append, E.len, Nat.sub_self, List.take_zero, List.append_nil, List.take_of_length_le (by rw [E.len]; exact Nat.le_refl _)]
end Enc

variable {P : Program} {α : Type} {E : Enc α} {H H' : AHeap} {v : Value} {l : List α} {e : TypeId}

/-- A slice that reads as a list. -/
def Rd (E : Enc α) (H : AHeap) (v : Value) (l : List α) : Prop :=
  (l = [] ∧ v = .slice none 0 0) ∨ (l = [] ∧ ∃ a k, v = .slice (some a) 0 k ∧ a.spot = none) ∨
  ∃ b o c, v = .slice (some ⟨b, o, none⟩) l.length c ∧ l ≠ [] ∧ b < H.n ∧ cutB (H.f b) o (l.length * E.w) = some (E.cells l)

/-- The block of a slice that has elements. -/
def Off (S : Nat → Prop) (v : Value) : Prop := ∀ b, blockOf v = some b → ¬ S b

theorem Rd.keep {S : Nat → Prop} (r : Rd E H v l) (h : Fr S H H') (hs : Off S v) : Rd E H' v l := by
  rcases r with r | r | ⟨b, o, c, rfl, hl, hb, hc⟩
  · exact .inl r
  · exact .inr (.inl r)
  · exact .inr (.inr ⟨b, o, c, rfl, hl, Nat.lt_of_lt_of_le hb h.n, by rw [h.f hb (hs b rfl)]; exact hc⟩)
theorem Rd.still (r : Rd E H v l) (h : Still H H') : Rd E H' v l := r.keep h fun _ _ h => h

theorem cutB_sub {k : Blk} {o n : Nat} {xs : List Value} (h : cutB k o n = some xs) {i m : Nat} (hi : i + m ≤ n) : cutB k (o + i) m = some ((xs.drop i).take m) := by
  unfold cutB at h ⊢
  cases k with
  | cells ys e rw =>
    simp only at h ⊢
    split at h
    · cases h
      rw [if_pos (by omega), List.drop_take, List.take_take, List.drop_drop, Nat.min_eq_left (by omega)]
    · cases h
  | _ => cases h

theorem cutB_len {k : Blk} {o n : Nat} {xs : List Value} (h : cutB k o n = some xs) : xs.length = n := by
  unfold cutB at h
  cases k with
  | cells ys e rw =>
    simp only at h
    split at h
    · cases h
      simp; omega
    · cases h
  | _ => cases h

theorem cutB_cell {k : Blk} {o n : Nat} {xs : List Value} (h : cutB k o n = some xs) {i : Nat} (hi : i < n) : cellB k (o + i) = xs[i]? := by
  unfold cutB at h
  unfold cellB
  cases k with
  | cells ys e rw =>
    simp only at h ⊢
    split at h
    · cases h
      rw [List.getElem?_take_of_lt hi, List.getElem?_drop]
    · cases h
  | _ => cases h

/-- Its elements, one by one. -/
theorem Rd.elem (r : Rd E H v l) {i : Nat} (hi : i < l.length) : ∃ b o c, v = .slice (some ⟨b, o, none⟩) l.length c ∧ b < H.n ∧ cutB (H.f b) (o + i * E.w) E.w = some (E.enc l[i]) := by
  rcases r with ⟨rfl, _⟩ | ⟨rfl, _⟩ | ⟨b, o, c, hv, hl, hb, hc⟩
  · simp at hi
  · simp at hi
  · refine ⟨b, o, c, hv, hb, ?_⟩
    rw [cutB_sub hc (i := i * E.w) (m := E.w) (by have := Nat.mul_le_mul_right E.w hi; rw [Nat.succ_mul] at this; exact this), E.cells_elem l i hi]

theorem Rd.shape (r : Rd E H v l) : ∃ a c, v = .slice a l.length c := by
  rcases r with ⟨rfl, rfl⟩ | ⟨rfl, a, k, rfl, _⟩ | ⟨b, o, c, rfl, hl, hb, hc⟩ <;> exact ⟨_, _, rfl⟩

theorem Rd.lenS (r : Rd E H v l) : Eng.lenS v = some (.int .i64 l.length) := by
  obtain ⟨a, c, rfl⟩ := r.shape
  rfl

/-- What append takes of it. -/
theorem Rd.src (r : Rd E H v l) {sz : Nat} (hsz : sz = E.w) : srcS sz v H = some (l.length, E.cells l) := by
  subst hsz
  rcases r with ⟨rfl, rfl⟩ | ⟨rfl, ⟨b, o, s⟩, k, rfl, hs⟩ | ⟨b, o, c, rfl, hl, hb, hc⟩
  · rfl
  · simp only at hs
    subst hs
    rfl
  · unfold srcS
    have h0 : l.length ≠ 0 := fun h => hl (List.length_eq_zero_iff.1 h)
    simp only [h0, if_false, cut_b, hc, Option.map_some]

@[go_sem] theorem ixS_int {sz b o len code : Nat} {i : Int} {q : IntKind} (h : 0 ≤ i ∧ i < (len : Int)) : ixS sz (.slice (some ⟨b, o, none⟩) len code) (.int q i) = some (.pointer (some ⟨b, o + i.toNat * sz, none⟩)) := by
  unfold ixS
  simp only
  rw [if_pos h]
theorem ixS_nat {sz b o len code k : Nat} {q : IntKind} (h : k < len) : ixS sz (.slice (some ⟨b, o, none⟩) len code) (.int q (k : Int)) = some (.pointer (some ⟨b, o + k * sz, none⟩)) := by
  rw [ixS_int ⟨by omega, by omega⟩, Int.toNat_natCast]
attribute [go_sem] Int.toNat_natCast Nat.zero_mul Nat.mul_one

theorem Rd.ix (r : Rd E H v l) {i : Nat} (hi : i < l.length) {q : IntKind} : ∃ b o, ixS E.w v (.int q (i : Int)) = some (.pointer (some ⟨b, o, none⟩)) ∧ b < H.n ∧ cutB (H.f b) o E.w = some (E.enc l[i]) ∧ blockOf v = some b := by
  obtain ⟨b, o, c, rfl, hb, hc⟩ := r.elem hi
  exact ⟨b, o + i * E.w, ixS_nat hi, hb, hc, rfl⟩

/-! ### Rows that are the function's own, and may grow -/

/-- A list in a row of its own that ends with the row's end; or an empty one. -/
def Own (E : Enc α) (H : AHeap) (e : TypeId) (v : Value) (l : List α) : Prop :=
  (l = [] ∧ v = .slice none 0 0) ∨ (l = [] ∧ ∃ a, v = .slice (some a) 0 0 ∧ a.spot = none ∧ a.block < H.n) ∨
  ∃ b o c xs, v = .slice (some ⟨b, o, none⟩) l.length (2 * c + 1) ∧ l.length ≤ c ∧ b < H.n ∧ H.f b = .cells xs e true ∧ o + c * E.w = xs.length ∧ (xs.drop o).take (l.length * E.w) = E.cells l

theorem Own.rd (r : Own E H e v l) : Rd E H v l := by
  rcases r with r | ⟨hl, a, h, hs, _⟩ | ⟨b, o, c, xs, rfl, hl, hb, hf, ho, hx⟩
  · exact .inl r
  · exact .inr (.inl ⟨hl, a, 0, h, hs⟩)
  · by_cases h0 : l = []
    · subst h0; exact .inr (.inl ⟨rfl, _, _, rfl, rfl⟩)
    · refine .inr (.inr ⟨b, o, _, rfl, h0, hb, ?_⟩)
      rw [hf]
      unfold cutB
      simp only
      rw [if_pos (by have := Nat.mul_le_mul_right E.w hl; omega), hx]

theorem Own.keep {S : Nat → Prop} (r : Own E H e v l) (h : Fr S H H') (hs : Off S v) : Own E H' e v l := by
  rcases r with r | ⟨hl, a, hv, hsp, hb⟩ | ⟨b, o, c, xs, rfl, hl, hb, hf, ho, hx⟩
  · exact .inl r
  · exact .inr (.inl ⟨hl, a, hv, hsp, Nat.lt_of_lt_of_le hb h.n⟩)
  · exact .inr (.inr ⟨b, o, c, xs, rfl, hl, Nat.lt_of_lt_of_le hb h.n, by rw [h.f hb (hs b rfl)]; exact hf, ho, hx⟩)
theorem Own.cell (r : Own E H e v l) : Eng.one v = true := by
  rcases r with ⟨_, rfl⟩ | ⟨_, a, rfl, _, hb⟩ | ⟨b', o, c, xs, rfl, _, hb, _⟩ <;> rfl
theorem Own.blk (r : Own E H e v l) {b : Nat} (h : blockOf v = some b) : b < H.n := by
  rcases r with ⟨_, rfl⟩ | ⟨_, a, rfl, _, hb⟩ | ⟨b', o, c, xs, rfl, _, hb, _⟩
  · cases h
  · cases h; exact hb
  · cases h; exact hb
theorem Own.still (r : Own E H e v l) (h : Still H H') : Own E H' e v l := r.keep h fun _ _ h => h

/-- Only its block, or one that is new, may be turned when it grows. -/
def OnlyOf (v : Value) : Nat → Prop := fun b => blockOf v = some b

theorem Fr.kill (H : AHeap) (b : Nat) : Fr (fun c => c = b) H (H.set b .dead) := (Fr.refl H).set b _ fun _ => rfl

/-- Appending to a list of its own. -/
theorem Own.app (r : Own E H e v l) {m : List α} (hm : m ≠ []) {sz bytes : Nat} (hsz : sz = E.w) (hb : (l.length + m.length) * bytes ≤ 140737488355328) (hn : l.length + m.length ≤ 140737488355328)
    {src : Option (Nat × List Value)} (hsrc : src = some (m.length, E.cells m)) :
    ∃ v' H', Eng.app e sz bytes v src H = some (v', H') ∧ Own E H' e v' (l ++ m) ∧ Fr (OnlyOf v) H H' ∧ (blockOf v' = blockOf v ∨ blockOf v' = some H.n) ∧ gr 9 v' = false := by
  subst hsz hsrc
  have hm0 : m.length ≠ 0 := fun h => hm (List.length_eq_zero_iff.1 h)
  have hbig : ¬ ((l.length + m.length) * bytes > 140737488355328 ∨ l.length + m.length > 140737488355328) := by omega
  have hone := E.cells_one m
  rcases r with ⟨rfl, rfl⟩ | ⟨rfl, ⟨b, o, s⟩, rfl, hs, hbb⟩ | ⟨b, o, c, xs, rfl, hl, hbn, hf, ho, hx⟩
  · refine ⟨.slice (some ⟨H.n, 0, none⟩) m.length (2 * m.length + 1), H.push (.cells (E.cells m) e true), ?_, ?_, (Fr.refl H).push _, .inr rfl, rfl⟩
    · simp only [List.length_nil, Nat.zero_add] at hbig
      simp only [Eng.app, Option.bind_some, hm0, if_false, Nat.zero_add, hbig, Nat.zero_div, Nat.le_zero_eq, hone, Bool.true_eq_false, oldOf, if_true, Nat.zero_mod, Option.map_some, List.nil_append]
    · refine .inr (.inr ⟨H.n, 0, m.length, E.cells m, by simp, by simp, by simp, by simp, by simp, ?_⟩)
      simp only [List.drop_zero, List.nil_append]
      rw [List.take_of_length_le (by simp)]
  · simp only at hs
    subst hs
    refine ⟨.slice (some ⟨H.n, 0, none⟩) m.length (2 * m.length + 1), H.push (.cells (E.cells m) e true), ?_, ?_, (Fr.refl H).push _, .inr rfl, rfl⟩
    · simp only [List.length_nil, Nat.zero_add] at hbig
      simp only [Eng.app, Option.bind_some, hm0, if_false, Nat.zero_add, hbig, Nat.zero_div, Nat.le_zero_eq, hone, Bool.true_eq_false, oldOf, if_true, Nat.zero_mod, Option.map_some, List.nil_append]
    · refine .inr (.inr ⟨H.n, 0, m.length, E.cells m, by simp, by simp, by simp, by simp, by simp, ?_⟩)
      simp only [List.drop_zero, List.nil_append]
      rw [List.take_of_length_le (by simp)]
  · have hc2 : (2 * c + 1) / 2 = c := by omega
    have hc3 : (2 * c + 1) % 2 = 1 := by omega
    have hmulc := Nat.mul_le_mul_right E.w hl
    by_cases hroom : l.length + m.length ≤ c
    · have hmul := Nat.mul_le_mul_right E.w hroom
      rw [Nat.add_mul] at hmul
      refine ⟨.slice (some ⟨b, o, none⟩) (l.length + m.length) (2 * c + 1), H.set b (.cells (spl xs (o + l.length * E.w) (E.cells m)) e true), ?_, ?_, (Fr.refl H).set b _ fun _ => rfl, .inl rfl, rfl⟩
      · simp only [Eng.app, Option.bind_some, hm0, if_false, hbig, hc2, hroom, if_true, stL_b, hf]
        rw [wrL_c (by simp; omega) hone]
        rfl
      · refine .inr (.inr ⟨b, o, c, _, by simp, by simp; omega, by simpa using hbn, set_f_eq, ?_, ?_⟩)
        · rw [spl_length, ho]
        · apply List.ext_getElem?
          intro j
          rw [List.length_append, Nat.add_mul]
          by_cases hj : j < l.length * E.w + m.length * E.w
          · rw [List.getElem?_take_of_lt hj, List.getElem?_drop, spl_get _ _ _ _ (by simp; omega), E.cells_append, List.getElem?_append, E.cells_len, E.cells_len]
            by_cases h1 : j < l.length * E.w
            · rw [if_neg (by omega), if_pos h1, ← hx, List.getElem?_take_of_lt h1, List.getElem?_drop]
            · rw [if_pos (by omega), if_neg h1, show o + j - (o + l.length * E.w) = j - l.length * E.w by omega]
          · rw [List.getElem?_eq_none (by simp; omega), List.getElem?_eq_none (by simp [Nat.add_mul]; omega)]
    · refine ⟨.slice (some ⟨H.n, 0, none⟩) (l.length + m.length) (2 * (l.length + m.length) + 1), (H.set b .dead).push (.cells (E.cells l ++ E.cells m) e true), ?_, ?_, Fr.push (Fr.set (S := OnlyOf (.slice (some ⟨b, o, none⟩) l.length (2 * c + 1))) (Fr.refl H) b _ (fun _ => rfl)) _, .inr rfl, rfl⟩
      · have hold : oldOf E.w l.length H (some ⟨b, o, none⟩) = some (E.cells l) := by
          unfold oldOf
          split
          · rename_i h0; rw [List.length_eq_zero_iff.1 h0]; rfl
          · simp only [cut_b, hf]
            rw [cutB_c (by omega), hx]
        have hkill : kill H e c E.w (some ⟨b, o, none⟩) = some (H.set b .dead) := by
          unfold kill
          simp only [hf, true_and, ho, if_true]
        simp only [Eng.app, Option.bind_some, hm0, if_false, hbig, hc2, hroom, hone, Bool.true_eq_false, hold, hc3, Nat.one_ne_zero, hkill, Option.map_some, set_n']
      · refine .inr (.inr ⟨H.n, 0, l.length + m.length, E.cells l ++ E.cells m, by simp, by simp, by simp, push_f_eq rfl, by simp [Nat.add_mul], ?_⟩)
        simp only [List.drop_zero]
        rw [List.take_of_length_le (by simp [Nat.add_mul]), E.cells_append]

/-- Cutting off the front. -/
theorem Own.drop (r : Own E H e v l) {sz : Nat} (hsz : sz = E.w) {i : Nat} (hi : i ≤ l.length) {q : IntKind} : ∃ v', slS e sz v (some (.int q (i : Int))) none none H = some v' ∧ Own E H e v' (l.drop i) ∧ blockOf v' = blockOf v := by
  subst hsz
  rcases r with ⟨rfl, rfl⟩ | ⟨rfl, ⟨b, o, s⟩, rfl, hs, hbb⟩ | ⟨b, o, c, xs, rfl, hl, hbn, hf, ho, hx⟩
  · simp only [List.length_nil, Nat.le_zero_eq] at hi
    subst hi
    exact ⟨.slice none 0 0, rfl, .inl ⟨by simp, rfl⟩, rfl⟩
  · simp only at hs
    subst hs
    simp only [List.length_nil, Nat.le_zero_eq] at hi
    subst hi
    exact ⟨.slice (some ⟨b, o, none⟩) 0 0, by simp [slS, highOf, lowOf, bnd], .inr (.inl ⟨by simp, _, rfl, rfl, hbb⟩), rfl⟩
  · have hc2 : (2 * c + 1) / 2 = c := by omega
    have hmul := Nat.mul_le_mul_right E.w hl
    have hmi := Nat.mul_le_mul_right E.w hi
    refine ⟨.slice (some ⟨b, o + i * E.w, none⟩) (l.length - i) (2 * (c - i) + 1), ?_, .inr (.inr ⟨b, o + i * E.w, c - i, xs, by simp, by simp; omega, hbn, hf, by rw [Nat.sub_mul]; omega, ?_⟩), rfl⟩
    · simp only [slS, highOf, lowOf, bnd, hc2, Option.bind_some, show (0 : Int) ≤ (i : Int) ∧ (i : Int) ≤ (l.length : Nat) from ⟨by omega, by omega⟩, Int.toNat_natCast, hl, hf, rowOf, show (2 * c + 1) % 2 = 1 by omega]
      simp
    · rw [List.length_drop, Nat.sub_mul, ← E.cells_drop, ← hx, List.drop_take, List.drop_drop]

/-- A front part that is only read. -/
theorem Own.front (r : Own E H e v l) {sz : Nat} (hsz : sz = E.w) {i : Nat} (hi : i ≤ l.length) {q : IntKind} : ∃ v', slS e sz v none (some (.int q (i : Int))) (some (.int q (i : Int))) H = some v' ∧ Rd E H v' (l.take i) ∧ blockOf v' = blockOf v := by
  subst hsz
  rcases r with ⟨rfl, rfl⟩ | ⟨rfl, ⟨b, o, s⟩, rfl, hs, hbb⟩ | ⟨b, o, c, xs, rfl, hl, hbn, hf, ho, hx⟩
  · simp only [List.length_nil, Nat.le_zero_eq] at hi
    subst hi
    exact ⟨.slice none 0 0, rfl, .inl ⟨by simp, rfl⟩, rfl⟩
  · simp only at hs
    subst hs
    simp only [List.length_nil, Nat.le_zero_eq] at hi
    subst hi
    exact ⟨.slice (some ⟨b, o, none⟩) 0 0, by simp [slS, lowOf, bnd], .inr (.inl ⟨by simp, _, _, rfl, rfl⟩), rfl⟩
  · have hc2 : (2 * c + 1) / 2 = c := by omega
    have hmul := Nat.mul_le_mul_right E.w hl
    have hmi := Nat.mul_le_mul_right E.w hi
    have hval : slS e E.w (.slice (some ⟨b, o, none⟩) l.length (2 * c + 1)) none (some (.int q (i : Int))) (some (.int q (i : Int))) H = some (.slice (some ⟨b, if i = 0 then o else o + 0 * E.w, none⟩) (i - 0) (2 * (i - 0))) := by
      simp only [slS, lowOf, bnd, hc2, Option.bind_some, show (0 : Int) ≤ (i : Int) ∧ (i : Int) ≤ (c : Nat) from ⟨by omega, by omega⟩, show (0 : Int) ≤ (i : Int) ∧ (i : Int) ≤ (i : Nat) from ⟨by omega, by omega⟩, Int.toNat_natCast, and_self, if_true, Option.map_some]
    refine ⟨_, hval, ?_, rfl⟩
    have e1 : (if i = 0 then o else o + 0 * E.w) = o := by split <;> omega
    rw [e1, Nat.sub_zero]
    by_cases h0 : i = 0
    · subst h0; exact .inr (.inl ⟨by simp, _, _, rfl, rfl⟩)
    · have hlen : (l.take i).length = i := by simp; omega
      refine .inr (.inr ⟨b, o, 2 * i, by rw [hlen], fun h => h0 (by rw [← hlen, h]; rfl), hbn, ?_⟩)
      rw [hlen, hf, cutB_c (by omega), ← E.cells_take, ← hx, List.take_take, Nat.min_eq_left hmi]

end Go.Proofs.Ytehnchfnhbmkdaa.Eng

/-
  The engine, part 24: more numbers: shifts, quotients, conversions.
  Conditions: none. By an AI agent.
-/
namespace Go.Proofs.Ytehnchfnhbmkdaa.Eng
open Go

variable {P : Program} {H : AHeap}

theorem xbin_gr {op : BinOp} {t : TypeId} {ox oy : Operand} {q q' : IntKind} {a b : Int} {v : Value} (h : pv P (do eqGuard op t ox oy (.int q a) (.int q' b); binOp op t (.int q a) (.int q' b)) = some v) (hg : gr 9 v = true) :
    xbin P op t ox oy (.int q a) (.int q' b) = some v := by
  have e : xbin P op t ox oy (.int q a) (.int q' b) = pvg P (do eqGuard op t ox oy (.int q a) (.int q' b); binOp op t (.int q a) (.int q' b)) := rfl
  rw [e, pvg_some h hg]

@[go_sem] theorem shr_lit {t : TypeId} {ox oy : Operand} {q q' : IntKind} {a b : Int} (h : 0 ≤ b ∧ b < 8) : xbin P .shr t ox oy (.int q a) (.int q' b) = some (.int q (a / 2 ^ b.toNat)) := by
  refine xbin_gr ?_ rfl
  have hb : ¬ b < 0 := by omega
  have hm : min b.toNat q.bits = b.toNat := by cases q <;> simp [IntKind.bits] <;> omega
  simp [eqGuard, binOp, Op.shift, Bind.bind, Sem.bind, Pure.pure, pv, hb, hm]
  rw [Int.fdiv_eq_ediv_of_nonneg]
  exact Int.pow_nonneg (by decide)

theorem wrap_u64 {n : Int} (h1 : 0 ≤ n ∧ n < 18446744073709551616) : IntKind.wrap .u64 n = n := by
  unfold IntKind.wrap
  simp only [IntKind.bits, IntKind.signed, Bool.false_and]
  simp
  omega
theorem wrap_u32 {n : Int} (h1 : 0 ≤ n ∧ n < 4294967296) : IntKind.wrap .u32 n = n := by
  unfold IntKind.wrap
  simp only [IntKind.bits, IntKind.signed, Bool.false_and]
  simp
  omega
theorem wrap_u8 {n : Int} (h1 : 0 ≤ n ∧ n < 256) : IntKind.wrap .u8 n = n := by
  unfold IntKind.wrap
  simp only [IntKind.bits, IntKind.signed, Bool.false_and]
  simp
  omega
attribute [go_sem] wrap_i64 wrap_u64 wrap_u32 wrap_u8

end Go.Proofs.Ytehnchfnhbmkdaa.Eng
