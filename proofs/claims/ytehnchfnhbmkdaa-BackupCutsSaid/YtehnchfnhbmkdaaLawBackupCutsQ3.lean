/-
  7 texts in one (merge.py): Sh Eng19 Eng20 Chunk Chunk2 Chunk3 Known.
  Conditions: none. By an AI agent.
-/
import Derived.Test.YtehnchfnhbmkdaaLawBackupCutsQ2
import Derived.Test.YtehnchfnhbmkdaaChecked
import Derived.KernelRfl
import Derived.Shelf.AbstractIn
import Derived.RangeFuncGives
import Derived.Shelf.SlIter.Collect
import Derived.RangeFuncIn
import Derived.Maps.AppendAt
import Derived.WalkKit
import Derived.OwnWalkIn
import Derived.TacticsInMore
import Derived.RegionIn
import Derived.LoopNIn
import Derived.LoopIn

/-
  The seat's functions as terms over the engine's combinators (a program of ours printed it).
  Conditions: none. By an AI agent.
-/
set_option linter.unusedVariables false
namespace Go.Proofs.Ytehnchfnhbmkdaa
open Go Eng

/-! ticketline.ticketlinelaw48.cuts -/

noncomputable def s_law_cuts (mg : GT) (mc : CT) (ms : ST) (P : Program) (C : CallF) (a0 : Value) (a1 : Value) (a2 : Value) (a3 : Value) (H : AHeap) (K0 : K) : Res :=
enterK C F.backup_Cut [a0, a1] H fun t14 h1 =>
bareK (xextract t14 0) h1 fun t15 h2 =>
bareK (xextract t14 1) h2 fun t16 h3 =>
enterK C F.law_same [t15, a2] h3 fun t19 h4 =>
mg t19 true (fun o1 => o1 t16 h4) h4 fun t21 h5 =>
mg t19 true (fun o2 => o2 a3 h5) h5 fun t22 h6 =>
mg t19 true (fun o3 => bareK (xbin P .eql T.int (.tmp 21) (.tmp 22) t21 t22) h6 o3) h6 fun t23 h7 =>
pickK t19 t23 (.bool false) fun t24 =>
K0 .ret [(8, t24)] h7

theorem s_law_cuts_eq (M : CombL) (C : CallF) (LP : LoopH) (a0 : Value) (a1 : Value) (a2 : Value) (a3 : Value) (H : AHeap) : dBodyL M Try.prog hints C LP F.law_cuts [a0, a1, a2, a3] H = s_law_cuts M.b.g M.c M.s Try.prog C a0 a1 a2 a3 H (endK Try.prog [.tmp 8]) := by kernel_rfl

/-! ticketline.ticketlinelaw48.pieces -/

noncomputable def s_law_pieces (mg : GT) (mc : CT) (ms : ST) (P : Program) (C : CallF) (L0 : Value → Value → Value → Value → Value → AHeap → K → Res) (a0 : Value) (a1 : Value) (H : AHeap) (K0 : K) : Res :=
bareK (lenS a0) H fun t10 h1 =>
bareK (xbin P .add T.int (.tmp 10) (.tmp 11) t10 a1) h1 fun t12 h2 =>
bareK (xbin P .sub T.int (.tmp 12) (.const (.int .i64 1)) t12 (.int .i64 1)) h2 fun t13 h3 =>
bareK (xbin P .quo T.int (.tmp 13) (.tmp 14) t13 a1) h3 fun t15 h4 =>
nextK C h4 (xbuiltin P .max [T.int, T.int] [(.int .i64 1), t15] h4) fun t16 h5 =>
ms (fun k1 =>
L0 a0 a1 t16 (.slice none 0 0) (.int .i64 0) h5 (blkK [6] 0 k1)) (seqK (fun tT h6 =>
K0 .ret [(4, (get tT 6))] h6) K0)

noncomputable def s_law_pieces_b0 (mg : GT) (mc : CT) (ms : ST) (P : Program) (C : CallF) (L0 : Value → Value → Value → Value → Value → AHeap → K → Res) (v0 : Value) (v1 : Value) (v5 : Value) (v6 : Value) (v7 : Value) (H : AHeap) (k : K) : Res :=
bareK (xbin P .lss T.int (.tmp 17) (.tmp 18) v7 v5) H fun t19 h6 =>
mc t19 (fun k2 => k2 .normal [(0, v0), (1, v1), (5, v5), (6, v6), (7, v7)] h6) (fun k2 =>
k2 (.exit 0) [(19, t19), (18, v5), (17, v7), (0, v0), (1, v1), (5, v5), (6, v6), (7, v7)] h6) (seqK (fun tT h7 =>
ms (fun k3 =>
enterK C F.law_check [(get tT 0)] h7 fun t23 h8 =>
enterK C F.law_many [t23, (.int .i64 4)] h8 fun t24 h9 =>
enterK C F.law_many [(get tT 7), (.int .i64 2)] h9 fun t26 h10 =>
bothK (app T.uint8 1 1 t24 (srcS 1 t26 h10) h10) fun t27 h11 =>
enterK C F.law_many [(get tT 5), (.int .i64 2)] h11 fun t30 h12 =>
bothK (app T.uint8 1 1 t27 (srcS 1 t30 h12) h12) fun t31 h13 =>
bareK (xbin P .mul T.int (.tmp 35) (.tmp 36) (get tT 7) (get tT 1)) h13 fun t37 h14 =>
bareK (lenS (get tT 0)) h14 fun t39 h15 =>
bareK (xbin P .add T.int (.tmp 40) (.const (.int .i64 1)) (get tT 7) (.int .i64 1)) h15 fun t41 h16 =>
bareK (xbin P .mul T.int (.tmp 41) (.tmp 42) t41 (get tT 1)) h16 fun t43 h17 =>
nextK C h17 (xbuiltin P .min [T.int, T.int] [t39, t43] h17) fun t44 h18 =>
bareK (slS T.uint8 1 (get tT 0) (some t37) (some t44) none h18) h18 fun t45 h19 =>
bothK (app T.uint8 1 1 t31 (srcS 1 t45 h19) h19) fun t46 h20 =>
bothK (bldL T.sl_uint8 [(.slice none 0 0)] 1 [(0, t46)] h20) fun t47 h21 =>
bothK (app T.sl_uint8 1 24 (get tT 6) (srcS 1 t47 h21) h21) fun t48 h22 =>
k3 .normal [(0, (get tT 0)), (1, (get tT 1)), (5, (get tT 5)), (6, t48), (7, (get tT 7))] h22) (seqK (fun tT_1 h23 =>
bareK (xbin P .add T.int (.tmp 20) (.const (.int .i64 1)) (get tT_1 7) (.int .i64 1)) h23 fun t21 h24 =>
k .normal [(0, (get tT_1 0)), (1, (get tT_1 1)), (5, (get tT_1 5)), (6, (get tT_1 6)), (7, t21)] h24) (afterK [0, 1, 5, 6, 7] k))) (afterK [0, 1, 5, 6, 7] k))

theorem s_law_pieces_eq (M : CombL) (C : CallF) (LP : LoopH) (a0 : Value) (a1 : Value) (H : AHeap) : dBodyL M Try.prog hints C LP F.law_pieces [a0, a1] H = s_law_pieces M.b.g M.c M.s Try.prog C (fun v0 v1 v5 v6 v7 H k => loopL M Try.prog hints C LP F.law_pieces 0 [(0, v0), (1, v1), (5, v5), (6, v6), (7, v7)] H k) a0 a1 H (endK Try.prog [.tmp 4]) := by kernel_rfl

theorem s_law_pieces_b0_eq (M : CombL) (C : CallF) (LP : LoopH) (v0 : Value) (v1 : Value) (v5 : Value) (v6 : Value) (v7 : Value) (H : AHeap) (k : K) : bodyL M Try.prog hints C LP F.law_pieces 0 [(0, v0), (1, v1), (5, v5), (6, v6), (7, v7)] H (afterK [0, 1, 5, 6, 7] k) = s_law_pieces_b0 M.b.g M.c M.s Try.prog C (fun v0 v1 v5 v6 v7 H k => loopL M Try.prog hints C LP F.law_pieces 0 [(0, v0), (1, v1), (5, v5), (6, v6), (7, v7)] H k) v0 v1 v5 v6 v7 H k := by kernel_rfl

/-! ticketline.ticketlinelaw48.joins -/

noncomputable def s_law_joins (mg : GT) (mc : CT) (ms : ST) (P : Program) (C : CallF) (a0 : Value) (a1 : Value) (a2 : Value) (H : AHeap) (K0 : K) : Res :=
enterK C F.backup_Join [a0] H fun t11 h1 =>
bareK (xextract t11 0) h1 fun t12 h2 =>
bareK (xextract t11 1) h2 fun t13 h3 =>
bothK (xconv P T.sl_uint8 T.string t12 h3) fun t15 h4 =>
bothK (xconv P T.sl_uint8 T.string a1 h4) fun t17 h5 =>
bareK (xbin P .eql T.string (.tmp 15) (.tmp 17) t15 t17) h5 fun t18 h6 =>
mg t18 true (fun o1 => o1 t13 h6) h6 fun t20 h7 =>
mg t18 true (fun o2 => o2 a2 h7) h7 fun t21 h8 =>
mg t18 true (fun o3 => bareK (xbin P .eql T.int (.tmp 20) (.tmp 21) t20 t21) h8 o3) h8 fun t22 h9 =>
pickK t18 t22 (.bool false) fun t23 =>
K0 .ret [(6, t23)] h9

theorem s_law_joins_eq (M : CombL) (C : CallF) (LP : LoopH) (a0 : Value) (a1 : Value) (a2 : Value) (H : AHeap) : dBodyL M Try.prog hints C LP F.law_joins [a0, a1, a2] H = s_law_joins M.b.g M.c M.s Try.prog C a0 a1 a2 H (endK Try.prog [.tmp 6]) := by kernel_rfl

/-! ticketline.ticketlinelaw48.joined -/

noncomputable def s_law_joined (mg : GT) (mc : CT) (ms : ST) (P : Program) (C : CallF) (L0 : Value → Value → AHeap → K → Res) (L1 : Value → Value → Value → Value → AHeap → K → Res) (L2 : Value → Value → Value → Value → Value → Value → Value → AHeap → K → Res) (L3 : Value → Value → Value → Value → Value → AHeap → K → Res) (L4 : Value → Value → Value → Value → Value → Value → Value → AHeap → K → Res) (a0 : Value) (H : AHeap) (K0 : K) : Res :=
ms (fun k1 =>
L0 a0 (.int .i64 0) H (blkK [0] 0 k1)) (seqK (fun tT h1 =>
bareK (lenS (get tT 0)) h1 fun t56 h2 =>
bareK (xbin P .eql T.int (.tmp 56) (.const (.int .i64 0)) t56 (.int .i64 0)) h2 fun t57 h3 =>
mc t57 (fun k2 => k2 .ret [(2, (.slice none 0 0)), (3, (.int .i64 4))] h3) (fun k2 =>
k2 .normal [(0, (get tT 0))] h3) (seqK (fun tT_1 h4 =>
bareK (ixS 1 (get tT_1 0) (.int .i64 0)) h4 fun t60 h5 =>
bareK (ld1 h5 t60) h5 fun t61 h6 =>
enterK C F.law_part [t61] h6 fun t62 h7 =>
bareK (xextract t62 0) h7 fun t63 h8 =>
bareK (xextract t62 1) h8 fun t64 h9 =>
bareK (xextract t62 2) h9 fun t65 h10 =>
bareK (xextract t62 3) h10 fun t66 h11 =>
bareK (xextract t62 4) h11 fun t67 h12 =>
ms (fun k3 =>
L1 (get tT_1 0) t63 t65 (.int .i64 0) h12 (blkK [0, 10, 12] 2 k3)) (seqK (fun tT_2 h13 =>
ms (fun k4 =>
L3 (get tT_2 0) (get tT_2 10) (get tT_2 12) (.slice none 0 0) (.int .i64 0) h13 (blkK [10, 27] 6 k4)) (seqK (fun tT_3 h14 =>
enterK C F.law_check [(get tT_3 27)] h14 fun t152 h15 =>
bareK (xbin P .neq T.int (.tmp 152) (.tmp 153) t152 (get tT_3 10)) h15 fun t154 h16 =>
mc t154 (fun k5 => k5 .ret [(2, (.slice none 0 0)), (3, (.int .i64 10))] h16) (fun k5 =>
k5 .normal [(27, (get tT_3 27))] h16) (seqK (fun tT_4 h17 =>
K0 .ret [(2, (get tT_4 27)), (3, (.int .i64 0))] h17) K0)) K0)) K0)) K0)) K0)

noncomputable def s_law_joined_b0 (mg : GT) (mc : CT) (ms : ST) (P : Program) (C : CallF) (L0 : Value → Value → AHeap → K → Res) (L1 : Value → Value → Value → Value → AHeap → K → Res) (L2 : Value → Value → Value → Value → Value → Value → Value → AHeap → K → Res) (L3 : Value → Value → Value → Value → Value → AHeap → K → Res) (L4 : Value → Value → Value → Value → Value → Value → Value → AHeap → K → Res) (v0 : Value) (v4 : Value) (H : AHeap) (k : K) : Res :=
bareK (lenS v0) H fun t38 h1 =>
bareK (xbin P .lss T.int (.tmp 36) (.tmp 38) v4 t38) h1 fun t39 h2 =>
mc t39 (fun k2 => k2 .normal [(0, v0), (4, v4)] h2) (fun k2 =>
k2 (.exit 0) [(39, t39), (38, t38), (37, v0), (36, v4), (0, v0), (4, v4)] h2) (seqK (fun tT h3 =>
ms (fun k3 =>
bareK (ixS 1 (get tT 0) (get tT 4)) h3 fun t45 h4 =>
bareK (ld1 h4 t45) h4 fun t46 h5 =>
enterK C F.law_part [t46] h5 fun t47 h6 =>
bareK (xextract t47 0) h6 fun t48 h7 =>
bareK (xextract t47 1) h7 fun t49 h8 =>
bareK (xextract t47 2) h8 fun t50 h9 =>
bareK (xextract t47 3) h9 fun t51 h10 =>
bareK (xextract t47 4) h10 fun t52 h11 =>
bareK (xun P .not t52) h11 fun t54 h12 =>
mc t54 (fun k4 => k4 .ret [(2, (.slice none 0 0)), (3, (.int .i64 12))] h12) (fun k4 =>
k4 .normal [(0, (get tT 0)), (4, (get tT 4))] h12) (blkK [0, 4] 1 k3)) (seqK (fun tT_1 h13 =>
bareK (xbin P .add T.int (.tmp 40) (.const (.int .i64 1)) (get tT_1 4) (.int .i64 1)) h13 fun t41 h14 =>
k .normal [(0, (get tT_1 0)), (4, t41)] h14) (afterK [0, 4] k))) (afterK [0, 4] k))

noncomputable def s_law_joined_b1 (mg : GT) (mc : CT) (ms : ST) (P : Program) (C : CallF) (L0 : Value → Value → AHeap → K → Res) (L1 : Value → Value → Value → Value → AHeap → K → Res) (L2 : Value → Value → Value → Value → Value → Value → Value → AHeap → K → Res) (L3 : Value → Value → Value → Value → Value → AHeap → K → Res) (L4 : Value → Value → Value → Value → Value → Value → Value → AHeap → K → Res) (v0 : Value) (v10 : Value) (v12 : Value) (v15 : Value) (H : AHeap) (k : K) : Res :=
bareK (lenS v0) H fun t70 h13 =>
bareK (xbin P .lss T.int (.tmp 68) (.tmp 70) v15 t70) h13 fun t71 h14 =>
mc t71 (fun k4 => k4 .normal [(0, v0), (10, v10), (12, v12), (15, v15)] h14) (fun k4 =>
k4 (.exit 2) [(71, t71), (70, t70), (69, v0), (68, v15), (0, v0), (10, v10), (12, v12), (15, v15)] h14) (seqK (fun tT h15 =>
ms (fun k5 =>
bareK (ixS 1 (get tT 0) (get tT 15)) h15 fun t77 h16 =>
bareK (ld1 h16 t77) h16 fun t78 h17 =>
enterK C F.law_part [t78] h17 fun t79 h18 =>
bareK (xextract t79 0) h18 fun t80 h19 =>
bareK (xextract t79 1) h19 fun t81 h20 =>
bareK (xextract t79 2) h20 fun t82 h21 =>
bareK (xextract t79 3) h21 fun t83 h22 =>
bareK (xextract t79 4) h22 fun t84 h23 =>
bareK (xbin P .neq T.int (.tmp 85) (.tmp 86) t80 (get tT 10)) h23 fun t87 h24 =>
mg t87 false (fun o6 => o6 t82 h24) h24 fun t89 h25 =>
mg t87 false (fun o7 => o7 (get tT 12) h25) h25 fun t90 h26 =>
mg t87 false (fun o8 => bareK (xbin P .neq T.int (.tmp 89) (.tmp 90) t89 t90) h26 o8) h26 fun t91 h27 =>
pickK t87 (.bool true) t91 fun t92 =>
mc t92 (fun k9 => k9 .ret [(2, (.slice none 0 0)), (3, (.int .i64 11))] h27) (fun k9 =>
k9 .normal [(0, (get tT 0)), (10, (get tT 10)), (12, (get tT 12)), (15, (get tT 15)), (17, t81), (19, t83)] h27) (seqK (fun tT_1 h28 =>
ms (fun k10 =>
L2 (get tT_1 0) (get tT_1 10) (get tT_1 12) (get tT_1 15) (get tT_1 17) (get tT_1 19) (.int .i64 0) h28 (blkK [0, 10, 12, 15] 4 k10)) (blkK [0, 10, 12, 15] 3 k5)) (blkK [0, 10, 12, 15] 3 k5))) (seqK (fun tT_2 h29 =>
bareK (xbin P .add T.int (.tmp 72) (.const (.int .i64 1)) (get tT_2 15) (.int .i64 1)) h29 fun t73 h30 =>
k .normal [(0, (get tT_2 0)), (10, (get tT_2 10)), (12, (get tT_2 12)), (15, t73)] h30) (afterK [0, 10, 12, 15] k))) (afterK [0, 10, 12, 15] k))

noncomputable def s_law_joined_b2 (mg : GT) (mc : CT) (ms : ST) (P : Program) (C : CallF) (L0 : Value → Value → AHeap → K → Res) (L1 : Value → Value → Value → Value → AHeap → K → Res) (L2 : Value → Value → Value → Value → Value → Value → Value → AHeap → K → Res) (L3 : Value → Value → Value → Value → Value → AHeap → K → Res) (L4 : Value → Value → Value → Value → Value → Value → Value → AHeap → K → Res) (v0 : Value) (v10 : Value) (v12 : Value) (v15 : Value) (v17 : Value) (v19 : Value) (v21 : Value) (H : AHeap) (k : K) : Res :=
bareK (xbin P .lss T.int (.tmp 93) (.tmp 94) v21 v15) H fun t95 h29 =>
mc t95 (fun k11 => k11 .normal [(0, v0), (10, v10), (12, v12), (15, v15), (17, v17), (19, v19), (21, v21)] h29) (fun k11 =>
k11 (.exit 4) [(95, t95), (94, v15), (93, v21), (0, v0), (10, v10), (12, v12), (15, v15), (17, v17), (19, v19), (21, v21)] h29) (seqK (fun tT h30 =>
ms (fun k12 =>
bareK (ixS 1 (get tT 0) (get tT 21)) h30 fun t101 h31 =>
bareK (ld1 h31 t101) h31 fun t102 h32 =>
enterK C F.law_part [t102] h32 fun t103 h33 =>
bareK (xextract t103 0) h33 fun t104 h34 =>
bareK (xextract t103 1) h34 fun t105 h35 =>
bareK (xextract t103 2) h35 fun t106 h36 =>
bareK (xextract t103 3) h36 fun t107 h37 =>
bareK (xextract t103 4) h37 fun t108 h38 =>
bareK (xbin P .eql T.int (.tmp 109) (.tmp 110) t105 (get tT 17)) h38 fun t111 h39 =>
mg t111 true (fun o13 => o13 t107 h39) h39 fun t113 h40 =>
mg t111 true (fun o14 => o14 (get tT 19) h40) h40 fun t114 h41 =>
mg t111 true (fun o15 => bareK (xbin P .neq T.string (.tmp 113) (.tmp 114) t113 t114) h41 o15) h41 fun t115 h42 =>
pickK t111 t115 (.bool false) fun t116 =>
mc t116 (fun k16 => k16 .ret [(2, (.slice none 0 0)), (3, (.int .i64 11))] h42) (fun k16 =>
k16 .normal [(0, (get tT 0)), (10, (get tT 10)), (12, (get tT 12)), (15, (get tT 15)), (17, (get tT 17)), (19, (get tT 19)), (21, (get tT 21))] h42) (blkK [0, 10, 12, 15, 17, 19, 21] 5 k12)) (seqK (fun tT_1 h43 =>
bareK (xbin P .add T.int (.tmp 96) (.const (.int .i64 1)) (get tT_1 21) (.int .i64 1)) h43 fun t97 h44 =>
k .normal [(0, (get tT_1 0)), (10, (get tT_1 10)), (12, (get tT_1 12)), (15, (get tT_1 15)), (17, (get tT_1 17)), (19, (get tT_1 19)), (21, t97)] h44) (afterK [0, 10, 12, 15, 17, 19, 21] k))) (afterK [0, 10, 12, 15, 17, 19, 21] k))

noncomputable def s_law_joined_b3 (mg : GT) (mc : CT) (ms : ST) (P : Program) (C : CallF) (L0 : Value → Value → AHeap → K → Res) (L1 : Value → Value → Value → Value → AHeap → K → Res) (L2 : Value → Value → Value → Value → Value → Value → Value → AHeap → K → Res) (L3 : Value → Value → Value → Value → Value → AHeap → K → Res) (L4 : Value → Value → Value → Value → Value → Value → Value → AHeap → K → Res) (v0 : Value) (v10 : Value) (v12 : Value) (v27 : Value) (v28 : Value) (H : AHeap) (k : K) : Res :=
bareK (xbin P .lss T.int (.tmp 117) (.tmp 118) v28 v12) H fun t119 h14 =>
mc t119 (fun k5 => k5 .normal [(0, v0), (10, v10), (12, v12), (27, v27), (28, v28)] h14) (fun k5 =>
k5 (.exit 6) [(119, t119), (118, v12), (117, v28), (0, v0), (10, v10), (12, v12), (27, v27), (28, v28)] h14) (seqK (fun tT h15 =>
ms (fun k6 =>
ms (fun k7 =>
L4 (get tT 0) (get tT 10) (get tT 12) (get tT 27) (get tT 28) (.bool false) (.int .i64 0) h15 (blkK [0, 10, 12, 27, 28, 29] 8 k7)) (seqK (fun tT_1 h16 =>
bareK (xun P .not (get tT_1 29)) h16 fun t150 h17 =>
mc t150 (fun k8 => k8 .ret [(2, (.slice none 0 0)), (3, (.int .i64 4))] h17) (fun k8 =>
k8 .normal [(0, (get tT_1 0)), (10, (get tT_1 10)), (12, (get tT_1 12)), (27, (get tT_1 27)), (28, (get tT_1 28))] h17) (blkK [0, 10, 12, 27, 28] 7 k6)) (blkK [0, 10, 12, 27, 28] 7 k6))) (seqK (fun tT_2 h18 =>
bareK (xbin P .add T.int (.tmp 120) (.const (.int .i64 1)) (get tT_2 28) (.int .i64 1)) h18 fun t121 h19 =>
k .normal [(0, (get tT_2 0)), (10, (get tT_2 10)), (12, (get tT_2 12)), (27, (get tT_2 27)), (28, t121)] h19) (afterK [0, 10, 12, 27, 28] k))) (afterK [0, 10, 12, 27, 28] k))

noncomputable def s_law_joined_b4 (mg : GT) (mc : CT) (ms : ST) (P : Program) (C : CallF) (L0 : Value → Value → AHeap → K → Res) (L1 : Value → Value → Value → Value → AHeap → K → Res) (L2 : Value → Value → Value → Value → Value → Value → Value → AHeap → K → Res) (L3 : Value → Value → Value → Value → Value → AHeap → K → Res) (L4 : Value → Value → Value → Value → Value → Value → Value → AHeap → K → Res) (v0 : Value) (v10 : Value) (v12 : Value) (v27 : Value) (v28 : Value) (v29 : Value) (v30 : Value) (H : AHeap) (k : K) : Res :=
bareK (lenS v0) H fun t124 h16 =>
bareK (xbin P .lss T.int (.tmp 122) (.tmp 124) v30 t124) h16 fun t125 h17 =>
mc t125 (fun k8 => k8 .normal [(0, v0), (10, v10), (12, v12), (27, v27), (28, v28), (29, v29), (30, v30)] h17) (fun k8 =>
k8 (.exit 8) [(125, t125), (124, t124), (123, v0), (122, v30), (0, v0), (10, v10), (12, v12), (27, v27), (28, v28), (29, v29), (30, v30)] h17) (seqK (fun tT h18 =>
ms (fun k9 =>
bareK (ixS 1 (get tT 0) (get tT 30)) h18 fun t131 h19 =>
bareK (ld1 h19 t131) h19 fun t132 h20 =>
enterK C F.law_part [t132] h20 fun t133 h21 =>
bareK (xextract t133 0) h21 fun t134 h22 =>
bareK (xextract t133 1) h22 fun t135 h23 =>
bareK (xextract t133 2) h23 fun t136 h24 =>
bareK (xextract t133 3) h24 fun t137 h25 =>
bareK (xextract t133 4) h25 fun t138 h26 =>
bareK (xbin P .eql T.int (.tmp 139) (.tmp 140) t135 (get tT 28)) h26 fun t141 h27 =>
mg t141 true (fun o10 => o10 (get tT 29) h27) h27 fun t143 h28 =>
mg t141 true (fun o11 => bareK (xun P .not t143) h28 o11) h28 fun t144 h29 =>
pickK t141 t144 (.bool false) fun t145 =>
mc t145 (fun k12 => bothK (app T.uint8 1 1 (get tT 27) (srcT t137) h29) fun t148 h30 =>
k12 .normal [(0, (get tT 0)), (10, (get tT 10)), (12, (get tT 12)), (27, t148), (28, (get tT 28)), (29, (.bool true)), (30, (get tT 30))] h30) (fun k12 =>
k12 .normal [(0, (get tT 0)), (10, (get tT 10)), (12, (get tT 12)), (27, (get tT 27)), (28, (get tT 28)), (29, (get tT 29)), (30, (get tT 30))] h29) (blkK [0, 10, 12, 27, 28, 29, 30] 9 k9)) (seqK (fun tT_1 h31 =>
bareK (xbin P .add T.int (.tmp 126) (.const (.int .i64 1)) (get tT_1 30) (.int .i64 1)) h31 fun t127 h32 =>
k .normal [(0, (get tT_1 0)), (10, (get tT_1 10)), (12, (get tT_1 12)), (27, (get tT_1 27)), (28, (get tT_1 28)), (29, (get tT_1 29)), (30, t127)] h32) (afterK [0, 10, 12, 27, 28, 29, 30] k))) (afterK [0, 10, 12, 27, 28, 29, 30] k))

theorem s_law_joined_eq (M : CombL) (C : CallF) (LP : LoopH) (a0 : Value) (H : AHeap) : dBodyL M Try.prog hints C LP F.law_joined [a0] H = s_law_joined M.b.g M.c M.s Try.prog C (fun v0 v4 H k => loopL M Try.prog hints C LP F.law_joined 0 [(0, v0), (4, v4)] H k) (fun v0 v10 v12 v15 H k => loopL M Try.prog hints C LP F.law_joined 1 [(0, v0), (10, v10), (12, v12), (15, v15)] H k) (fun v0 v10 v12 v15 v17 v19 v21 H k => loopL M Try.prog hints C LP F.law_joined 2 [(0, v0), (10, v10), (12, v12), (15, v15), (17, v17), (19, v19), (21, v21)] H k) (fun v0 v10 v12 v27 v28 H k => loopL M Try.prog hints C LP F.law_joined 3 [(0, v0), (10, v10), (12, v12), (27, v27), (28, v28)] H k) (fun v0 v10 v12 v27 v28 v29 v30 H k => loopL M Try.prog hints C LP F.law_joined 4 [(0, v0), (10, v10), (12, v12), (27, v27), (28, v28), (29, v29), (30, v30)] H k) a0 H (endK Try.prog [.tmp 2, .tmp 3]) := by kernel_rfl

theorem s_law_joined_b0_eq (M : CombL) (C : CallF) (LP : LoopH) (v0 : Value) (v4 : Value) (H : AHeap) (k : K) : bodyL M Try.prog hints C LP F.law_joined 0 [(0, v0), (4, v4)] H (afterK [0, 4] k) = s_law_joined_b0 M.b.g M.c M.s Try.prog C (fun v0 v4 H k => loopL M Try.prog hints C LP F.law_joined 0 [(0, v0), (4, v4)] H k) (fun v0 v10 v12 v15 H k => loopL M Try.prog hints C LP F.law_joined 1 [(0, v0), (10, v10), (12, v12), (15, v15)] H k) (fun v0 v10 v12 v15 v17 v19 v21 H k => loopL M Try.prog hints C LP F.law_joined 2 [(0, v0), (10, v10), (12, v12), (15, v15), (17, v17), (19, v19), (21, v21)] H k) (fun v0 v10 v12 v27 v28 H k => loopL M Try.prog hints C LP F.law_joined 3 [(0, v0), (10, v10), (12, v12), (27, v27), (28, v28)] H k) (fun v0 v10 v12 v27 v28 v29 v30 H k => loopL M Try.prog hints C LP F.law_joined 4 [(0, v0), (10, v10), (12, v12), (27, v27), (28, v28), (29, v29), (30, v30)] H k) v0 v4 H k := by kernel_rfl

theorem s_law_joined_b1_eq (M : CombL) (C : CallF) (LP : LoopH) (v0 : Value) (v10 : Value) (v12 : Value) (v15 : Value) (H : AHeap) (k : K) : bodyL M Try.prog hints C LP F.law_joined 1 [(0, v0), (10, v10), (12, v12), (15, v15)] H (afterK [0, 10, 12, 15] k) = s_law_joined_b1 M.b.g M.c M.s Try.prog C (fun v0 v4 H k => loopL M Try.prog hints C LP F.law_joined 0 [(0, v0), (4, v4)] H k) (fun v0 v10 v12 v15 H k => loopL M Try.prog hints C LP F.law_joined 1 [(0, v0), (10, v10), (12, v12), (15, v15)] H k) (fun v0 v10 v12 v15 v17 v19 v21 H k => loopL M Try.prog hints C LP F.law_joined 2 [(0, v0), (10, v10), (12, v12), (15, v15), (17, v17), (19, v19), (21, v21)] H k) (fun v0 v10 v12 v27 v28 H k => loopL M Try.prog hints C LP F.law_joined 3 [(0, v0), (10, v10), (12, v12), (27, v27), (28, v28)] H k) (fun v0 v10 v12 v27 v28 v29 v30 H k => loopL M Try.prog hints C LP F.law_joined 4 [(0, v0), (10, v10), (12, v12), (27, v27), (28, v28), (29, v29), (30, v30)] H k) v0 v10 v12 v15 H k := by kernel_rfl

theorem s_law_joined_b2_eq (M : CombL) (C : CallF) (LP : LoopH) (v0 : Value) (v10 : Value) (v12 : Value) (v15 : Value) (v17 : Value) (v19 : Value) (v21 : Value) (H : AHeap) (k : K) : bodyL M Try.prog hints C LP F.law_joined 2 [(0, v0), (10, v10), (12, v12), (15, v15), (17, v17), (19, v19), (21, v21)] H (afterK [0, 10, 12, 15, 17, 19, 21] k) = s_law_joined_b2 M.b.g M.c M.s Try.prog C (fun v0 v4 H k => loopL M Try.prog hints C LP F.law_joined 0 [(0, v0), (4, v4)] H k) (fun v0 v10 v12 v15 H k => loopL M Try.prog hints C LP F.law_joined 1 [(0, v0), (10, v10), (12, v12), (15, v15)] H k) (fun v0 v10 v12 v15 v17 v19 v21 H k => loopL M Try.prog hints C LP F.law_joined 2 [(0, v0), (10, v10), (12, v12), (15, v15), (17, v17), (19, v19), (21, v21)] H k) (fun v0 v10 v12 v27 v28 H k => loopL M Try.prog hints C LP F.law_joined 3 [(0, v0), (10, v10), (12, v12), (27, v27), (28, v28)] H k) (fun v0 v10 v12 v27 v28 v29 v30 H k => loopL M Try.prog hints C LP F.law_joined 4 [(0, v0), (10, v10), (12, v12), (27, v27), (28, v28), (29, v29), (30, v30)] H k) v0 v10 v12 v15 v17 v19 v21 H k := by kernel_rfl

theorem s_law_joined_b3_eq (M : CombL) (C : CallF) (LP : LoopH) (v0 : Value) (v10 : Value) (v12 : Value) (v27 : Value) (v28 : Value) (H : AHeap) (k : K) : bodyL M Try.prog hints C LP F.law_joined 3 [(0, v0), (10, v10), (12, v12), (27, v27), (28, v28)] H (afterK [0, 10, 12, 27, 28] k) = s_law_joined_b3 M.b.g M.c M.s Try.prog C (fun v0 v4 H k => loopL M Try.prog hints C LP F.law_joined 0 [(0, v0), (4, v4)] H k) (fun v0 v10 v12 v15 H k => loopL M Try.prog hints C LP F.law_joined 1 [(0, v0), (10, v10), (12, v12), (15, v15)] H k) (fun v0 v10 v12 v15 v17 v19 v21 H k => loopL M Try.prog hints C LP F.law_joined 2 [(0, v0), (10, v10), (12, v12), (15, v15), (17, v17), (19, v19), (21, v21)] H k) (fun v0 v10 v12 v27 v28 H k => loopL M Try.prog hints C LP F.law_joined 3 [(0, v0), (10, v10), (12, v12), (27, v27), (28, v28)] H k) (fun v0 v10 v12 v27 v28 v29 v30 H k => loopL M Try.prog hints C LP F.law_joined 4 [(0, v0), (10, v10), (12, v12), (27, v27), (28, v28), (29, v29), (30, v30)] H k) v0 v10 v12 v27 v28 H k := by kernel_rfl

theorem s_law_joined_b4_eq (M : CombL) (C : CallF) (LP : LoopH) (v0 : Value) (v10 : Value) (v12 : Value) (v27 : Value) (v28 : Value) (v29 : Value) (v30 : Value) (H : AHeap) (k : K) : bodyL M Try.prog hints C LP F.law_joined 4 [(0, v0), (10, v10), (12, v12), (27, v27), (28, v28), (29, v29), (30, v30)] H (afterK [0, 10, 12, 27, 28, 29, 30] k) = s_law_joined_b4 M.b.g M.c M.s Try.prog C (fun v0 v4 H k => loopL M Try.prog hints C LP F.law_joined 0 [(0, v0), (4, v4)] H k) (fun v0 v10 v12 v15 H k => loopL M Try.prog hints C LP F.law_joined 1 [(0, v0), (10, v10), (12, v12), (15, v15)] H k) (fun v0 v10 v12 v15 v17 v19 v21 H k => loopL M Try.prog hints C LP F.law_joined 2 [(0, v0), (10, v10), (12, v12), (15, v15), (17, v17), (19, v19), (21, v21)] H k) (fun v0 v10 v12 v27 v28 H k => loopL M Try.prog hints C LP F.law_joined 3 [(0, v0), (10, v10), (12, v12), (27, v27), (28, v28)] H k) (fun v0 v10 v12 v27 v28 v29 v30 H k => loopL M Try.prog hints C LP F.law_joined 4 [(0, v0), (10, v10), (12, v12), (27, v27), (28, v28), (29, v29), (30, v30)] H k) v0 v10 v12 v27 v28 v29 v30 H k := by kernel_rfl

/-! ticketline.backup.Cut -/

noncomputable def s_backup_Cut (mg : GT) (mc : CT) (ms : ST) (P : Program) (C : CallF) (L0 : Value → Value → Value → Value → Value → Value → AHeap → K → Res) (a0 : Value) (a1 : Value) (H : AHeap) (K0 : K) : Res :=
ms (fun k1 =>
bareK (xbin P .lss T.int (.tmp 13) (.const (.int .i64 1)) a1 (.int .i64 1)) H fun t14 h1 =>
mg t14 false (fun o2 => o2 a1 h1) h1 fun t16 h2 =>
mg t14 false (fun o3 => bareK (xbin P .gtr T.int (.tmp 16) (.const (.int .i64 65536)) t16 (.int .i64 65536)) h2 o3) h2 fun t17 h3 =>
pickK t14 (.bool true) t17 fun t18 =>
mc t18 (fun k4 => k4 .ret [(4, (.slice none 0 0)), (5, (.int .i64 2))] h3) (fun k4 =>
bareK (lenS a0) h3 fun t21 h4 =>
bareK (xbin P .gtr T.int (.tmp 21) (.const (.int .i64 4194304)) t21 (.int .i64 4194304)) h4 fun t22 h5 =>
mc t22 (fun k5 => k5 .ret [(4, (.slice none 0 0)), (5, (.int .i64 5))] h5) (fun k5 =>
k5 .normal [(0, a0), (1, a1)] h5) (afterK [0, 1] k4)) (blkK [0, 1] 0 k1)) (seqK (fun tT h6 =>
enterK C F.slices_Chunk_byte [(get tT 0), (get tT 1)] h6 fun t25 h7 =>
enterK C F.slices_Collect_byte [t25] h7 fun t26 h8 =>
bareK (lenS t26) h8 fun t28 h9 =>
bareK (xbin P .gtr T.int (.tmp 28) (.const (.int .i64 65535)) t28 (.int .i64 65535)) h9 fun t29 h10 =>
mc t29 (fun k6 => k6 .ret [(4, (.slice none 0 0)), (5, (.int .i64 5))] h10) (fun k6 =>
k6 .normal [(0, (get tT 0)), (6, t26)] h10) (seqK (fun tT_1 h11 =>
bareK (lenS (get tT_1 6)) h11 fun t31 h12 =>
bareK (xbin P .eql T.int (.tmp 31) (.const (.int .i64 0)) t31 (.int .i64 0)) h12 fun t32 h13 =>
mc t32 (fun k7 => bothK (bldL T.sl_uint8 [(.slice none 0 0)] 1 [(0, (.slice none 0 0))] h13) fun t33 h14 =>
k7 .normal [(0, (get tT_1 0)), (6, t33)] h14) (fun k7 =>
k7 .normal [(0, (get tT_1 0)), (6, (get tT_1 6))] h13) (seqK (fun tT_2 h15 =>
enterK C F.backup_Check [(get tT_2 0)] h15 fun t35 h16 =>
enterK C F.backup_four [t35] h16 fun t36 h17 =>
bareK (lenS (get tT_2 6)) h17 fun t38 h18 =>
ms (fun k8 =>
L0 (get tT_2 6) t36 (.slice none 0 0) (get tT_2 6) t38 (.int .i64 0) h18 (blkK [8] 1 k8)) (seqK (fun tT_3 h19 =>
K0 .ret [(4, (get tT_3 8)), (5, (.int .i64 0))] h19) K0)) K0)) K0)) K0)

noncomputable def s_backup_Cut_b0 (mg : GT) (mc : CT) (ms : ST) (P : Program) (C : CallF) (L0 : Value → Value → Value → Value → Value → Value → AHeap → K → Res) (v6 : Value) (v7 : Value) (v8 : Value) (v37 : Value) (v38 : Value) (v39 : Value) (H : AHeap) (k : K) : Res :=
bareK (xbin P .lss T.int (.tmp 39) (.tmp 38) v39 v38) H fun t40 h19 =>
mc t40 (fun k9 => k9 .normal [(6, v6), (7, v7), (8, v8), (37, v37), (38, v38), (39, v39)] h19) (fun k9 =>
k9 (.exit 1) [(40, t40), (6, v6), (7, v7), (8, v8), (37, v37), (38, v38), (39, v39)] h19) (seqK (fun tT h20 =>
ms (fun k10 =>
bareK (ixS 1 (get tT 37) (get tT 39)) h20 fun t42 h21 =>
bareK (ld1 h21 t42) h21 fun t43 h22 =>
enterK C F.slices_Clone_byte [(get tT 7)] h22 fun t45 h23 =>
bareK (xbin P .shr T.int (.tmp 46) (.const (.int .u64 8)) (get tT 39) (.int .u64 8)) h23 fun t47 h24 =>
bothK (xconv P T.int T.uint8 t47 h24) fun t48 h25 =>
bothK (xconv P T.int T.uint8 (get tT 39) h25) fun t50 h26 =>
bareK (lenS (get tT 6)) h26 fun t52 h27 =>
bareK (xbin P .shr T.int (.tmp 52) (.const (.int .u64 8)) t52 (.int .u64 8)) h27 fun t53 h28 =>
bothK (xconv P T.int T.uint8 t53 h28) fun t54 h29 =>
bareK (lenS (get tT 6)) h29 fun t56 h30 =>
bothK (xconv P T.int T.uint8 t56 h30) fun t57 h31 =>
bothK (bldL T.uint8 [(.int .u8 0)] 4 [(0, t48), (1, t50), (2, t54), (3, t57)] h31) fun t58 h32 =>
bothK (app T.uint8 1 1 t45 (srcS 1 t58 h32) h32) fun t59 h33 =>
bothK (app T.uint8 1 1 t59 (srcS 1 t43 h33) h33) fun t63 h34 =>
bothK (bldL T.sl_uint8 [(.slice none 0 0)] 1 [(0, t63)] h34) fun t64 h35 =>
bothK (app T.sl_uint8 1 24 (get tT 8) (srcS 1 t64 h35) h35) fun t65 h36 =>
k10 .normal [(6, (get tT 6)), (7, (get tT 7)), (8, t65), (37, (get tT 37)), (38, (get tT 38)), (39, (get tT 39))] h36) (seqK (fun tT_1 h37 =>
bareK (xbin P .add T.int (.tmp 39) (.const (.int .i64 1)) (get tT_1 39) (.int .i64 1)) h37 fun t66 h38 =>
k .normal [(6, (get tT_1 6)), (7, (get tT_1 7)), (8, (get tT_1 8)), (37, (get tT_1 37)), (38, (get tT_1 38)), (39, t66)] h38) (afterK [6, 7, 8, 37, 38, 39] k))) (afterK [6, 7, 8, 37, 38, 39] k))

theorem s_backup_Cut_eq (M : CombL) (C : CallF) (LP : LoopH) (a0 : Value) (a1 : Value) (H : AHeap) : dBodyL M Try.prog hints C LP F.backup_Cut [a0, a1] H = s_backup_Cut M.b.g M.c M.s Try.prog C (fun v6 v7 v8 v37 v38 v39 H k => loopL M Try.prog hints C LP F.backup_Cut 0 [(6, v6), (7, v7), (8, v8), (37, v37), (38, v38), (39, v39)] H k) a0 a1 H (endK Try.prog [.tmp 4, .tmp 5]) := by kernel_rfl

theorem s_backup_Cut_b0_eq (M : CombL) (C : CallF) (LP : LoopH) (v6 : Value) (v7 : Value) (v8 : Value) (v37 : Value) (v38 : Value) (v39 : Value) (H : AHeap) (k : K) : bodyL M Try.prog hints C LP F.backup_Cut 0 [(6, v6), (7, v7), (8, v8), (37, v37), (38, v38), (39, v39)] H (afterK [6, 7, 8, 37, 38, 39] k) = s_backup_Cut_b0 M.b.g M.c M.s Try.prog C (fun v6 v7 v8 v37 v38 v39 H k => loopL M Try.prog hints C LP F.backup_Cut 0 [(6, v6), (7, v7), (8, v8), (37, v37), (38, v38), (39, v39)] H k) v6 v7 v8 v37 v38 v39 H k := by kernel_rfl

/-! ticketline.ticketlinelaw48.decodes -/

noncomputable def s_law_decodes (mg : GT) (mc : CT) (ms : ST) (P : Program) (C : CallF) (a0 : Value) (a1 : Value) (a2 : Value) (H : AHeap) (K0 : K) : Res :=
enterK C F.backup_Decode [a0] H fun t11 h1 =>
bareK (xextract t11 0) h1 fun t12 h2 =>
bareK (xextract t11 1) h2 fun t13 h3 =>
bareK (xbin P .neq T.int (.tmp 14) (.tmp 15) t13 a2) h3 fun t16 h4 =>
mg t16 false (fun o1 => o1 a1 h4) h4 fun t18 h5 =>
mg t16 false (fun o2 => bareK (xbin P .eql T.p_model_Model (.tmp 18) (.const (.pointer none)) t18 (.pointer none)) h5 o2) h5 fun t19 h6 =>
pickK t16 (.bool true) t19 fun t20 =>
mc t20 (fun k3 => bareK (xbin P .eql T.p_model_Model (.tmp 21) (.const (.pointer none)) t12 (.pointer none)) h6 fun t22 h7 =>
mg t22 true (fun o4 => o4 t13 h7) h7 fun t24 h8 =>
mg t22 true (fun o5 => o5 a2 h8) h8 fun t25 h9 =>
mg t22 true (fun o6 => bareK (xbin P .eql T.int (.tmp 24) (.tmp 25) t24 t25) h9 o6) h9 fun t26 h10 =>
pickK t22 t26 (.bool false) fun t27 =>
k3 .ret [(6, t27)] h10) (fun k3 =>
k3 .normal [(1, a1), (7, t12)] h6) (seqK (fun tT h11 =>
bareK (xbin P .neq T.p_model_Model (.tmp 28) (.const (.pointer none)) (get tT 7) (.pointer none)) h11 fun t29 h12 =>
mg t29 true (fun o7 => o7 (get tT 7) h12) h12 fun t31 h13 =>
mg t29 true (fun o8 => o8 (get tT 1) h13) h13 fun t32 h14 =>
mg t29 true (fun o9 => enterK C F.model_Equal [t31, t32] h14 o9) h14 fun t33 h15 =>
pickK t29 t33 (.bool false) fun t34 =>
K0 .ret [(6, t34)] h15) K0)

theorem s_law_decodes_eq (M : CombL) (C : CallF) (LP : LoopH) (a0 : Value) (a1 : Value) (a2 : Value) (H : AHeap) : dBodyL M Try.prog hints C LP F.law_decodes [a0, a1, a2] H = s_law_decodes M.b.g M.c M.s Try.prog C a0 a1 a2 H (endK Try.prog [.tmp 6]) := by kernel_rfl

/-! ticketline.ticketlinelaw48.small -/

noncomputable def s_law_small (mg : GT) (mc : CT) (ms : ST) (P : Program) (C : CallF) (L0 : Value → Value → AHeap → K → Res) (a0 : Value) (H : AHeap) (K0 : K) : Res :=
ms (fun k1 =>
L0 a0 (.int .i64 0) H (blkK [0] 0 k1)) (seqK (fun tT h1 =>
bareK (lenS (get tT 0)) h1 fun t31 h2 =>
bareK (xbin P .leq T.int (.tmp 31) (.const (.int .i64 30)) t31 (.int .i64 30)) h2 fun t32 h3 =>
K0 .ret [(2, t32)] h3) K0)

noncomputable def s_law_small_b0 (mg : GT) (mc : CT) (ms : ST) (P : Program) (C : CallF) (L0 : Value → Value → AHeap → K → Res) (v0 : Value) (v3 : Value) (H : AHeap) (k : K) : Res :=
bareK (lenS v0) H fun t6 h1 =>
bareK (xbin P .lss T.int (.tmp 4) (.tmp 6) v3 t6) h1 fun t7 h2 =>
mg t7 true (fun o2 => o2 v3 h2) h2 fun t9 h3 =>
mg t7 true (fun o3 => bareK (xbin P .lss T.int (.tmp 9) (.const (.int .i64 31)) t9 (.int .i64 31)) h3 o3) h3 fun t10 h4 =>
pickK t7 t10 (.bool false) fun t11 =>
mc t11 (fun k4 => k4 .normal [(0, v0), (3, v3)] h4) (fun k4 =>
k4 (.exit 0) [(11, t11), (10, t10), (9, t9), (8, t7), (7, t7), (6, t6), (5, v0), (4, v3), (0, v0), (3, v3)] h4) (seqK (fun tT h5 =>
ms (fun k5 =>
bareK (ixS 2 (get tT 0) (get tT 3)) h5 fun t16 h6 =>
bareK (fad 0 t16) h6 fun t17 h7 =>
bareK (ld1 h7 t17) h7 fun t18 h8 =>
bareK (lenT t18) h8 fun t19 h9 =>
bareK (xbin P .gtr T.int (.tmp 19) (.const (.int .i64 30)) t19 (.int .i64 30)) h9 fun t20 h10 =>
mg t20 false (fun o6 => o6 (get tT 0) h10) h10 fun t22 h11 =>
mg t20 false (fun o7 => o7 (get tT 3) h11) h11 fun t23 h12 =>
mg t20 false (fun o8 => bareK (ixS 2 t22 t23) h12 o8) h12 fun t24 h13 =>
mg t20 false (fun o9 => bareK (fad 1 t24) h13 o9) h13 fun t25 h14 =>
mg t20 false (fun o10 => bareK (ld1 h14 t25) h14 o10) h14 fun t26 h15 =>
mg t20 false (fun o11 => bareK (lenT t26) h15 o11) h15 fun t27 h16 =>
mg t20 false (fun o12 => bareK (xbin P .gtr T.int (.tmp 27) (.const (.int .i64 44)) t27 (.int .i64 44)) h16 o12) h16 fun t28 h17 =>
pickK t20 (.bool true) t28 fun t29 =>
mc t29 (fun k13 => k13 .ret [(2, (.bool false))] h17) (fun k13 =>
k13 .normal [(0, (get tT 0)), (3, (get tT 3))] h17) (blkK [0, 3] 1 k5)) (seqK (fun tT_1 h18 =>
bareK (xbin P .add T.int (.tmp 12) (.const (.int .i64 1)) (get tT_1 3) (.int .i64 1)) h18 fun t13 h19 =>
k .normal [(0, (get tT_1 0)), (3, t13)] h19) (afterK [0, 3] k))) (afterK [0, 3] k))

theorem s_law_small_eq (M : CombL) (C : CallF) (LP : LoopH) (a0 : Value) (H : AHeap) : dBodyL M Try.prog hints C LP F.law_small [a0] H = s_law_small M.b.g M.c M.s Try.prog C (fun v0 v3 H k => loopL M Try.prog hints C LP F.law_small 0 [(0, v0), (3, v3)] H k) a0 H (endK Try.prog [.tmp 2]) := by kernel_rfl

theorem s_law_small_b0_eq (M : CombL) (C : CallF) (LP : LoopH) (v0 : Value) (v3 : Value) (H : AHeap) (k : K) : bodyL M Try.prog hints C LP F.law_small 0 [(0, v0), (3, v3)] H (afterK [0, 3] k) = s_law_small_b0 M.b.g M.c M.s Try.prog C (fun v0 v3 H k => loopL M Try.prog hints C LP F.law_small 0 [(0, v0), (3, v3)] H k) v0 v3 H k := by kernel_rfl

/-! ticketline.ticketlinelaw48.filled -/

noncomputable def s_law_filled (mg : GT) (mc : CT) (ms : ST) (P : Program) (C : CallF) (L0 : Value → Value → Value → AHeap → K → Res) (a0 : Value) (H : AHeap) (K0 : K) : Res :=
bareK (bldS #[(.slice none 0 0)] [(0, 1)] []) H fun t5 h1 =>
bothK (newv T.model_Model t5 h1) fun t6 h2 =>
ms (fun k1 =>
L0 a0 t6 (.int .i64 0) h2 (blkK [3] 0 k1)) (seqK (fun tT h3 =>
K0 .ret [(2, (get tT 3))] h3) K0)

noncomputable def s_law_filled_b0 (mg : GT) (mc : CT) (ms : ST) (P : Program) (C : CallF) (L0 : Value → Value → Value → AHeap → K → Res) (v0 : Value) (v3 : Value) (v4 : Value) (H : AHeap) (k : K) : Res :=
bareK (lenS v0) H fun t9 h3 =>
bareK (xbin P .lss T.int (.tmp 7) (.tmp 9) v4 t9) h3 fun t10 h4 =>
mc t10 (fun k2 => k2 .normal [(0, v0), (3, v3), (4, v4)] h4) (fun k2 =>
k2 (.exit 0) [(10, t10), (9, t9), (8, v0), (7, v4), (0, v0), (3, v3), (4, v4)] h4) (seqK (fun tT h5 =>
ms (fun k3 =>
bareK (ixS 2 (get tT 0) (get tT 4)) h5 fun t16 h6 =>
bareK (fad 0 t16) h6 fun t17 h7 =>
bareK (ld1 h7 t17) h7 fun t18 h8 =>
bareK (ixS 2 (get tT 0) (get tT 4)) h8 fun t21 h9 =>
bareK (fad 1 t21) h9 fun t22 h10 =>
bareK (ld1 h10 t22) h10 fun t23 h11 =>
enterK C F.model_Model_Put [(get tT 3), t18, t23] h11 fun t24 h12 =>
checkK true <|
k3 .normal [(0, (get tT 0)), (3, (get tT 3)), (4, (get tT 4))] h12) (seqK (fun tT_1 h13 =>
bareK (xbin P .add T.int (.tmp 11) (.const (.int .i64 1)) (get tT_1 4) (.int .i64 1)) h13 fun t12 h14 =>
k .normal [(0, (get tT_1 0)), (3, (get tT_1 3)), (4, t12)] h14) (afterK [0, 3, 4] k))) (afterK [0, 3, 4] k))

theorem s_law_filled_eq (M : CombL) (C : CallF) (LP : LoopH) (a0 : Value) (H : AHeap) : dBodyL M Try.prog hints C LP F.law_filled [a0] H = s_law_filled M.b.g M.c M.s Try.prog C (fun v0 v3 v4 H k => loopL M Try.prog hints C LP F.law_filled 0 [(0, v0), (3, v3), (4, v4)] H k) a0 H (endK Try.prog [.tmp 2]) := by kernel_rfl

theorem s_law_filled_b0_eq (M : CombL) (C : CallF) (LP : LoopH) (v0 : Value) (v3 : Value) (v4 : Value) (H : AHeap) (k : K) : bodyL M Try.prog hints C LP F.law_filled 0 [(0, v0), (3, v3), (4, v4)] H (afterK [0, 3, 4] k) = s_law_filled_b0 M.b.g M.c M.s Try.prog C (fun v0 v3 v4 H k => loopL M Try.prog hints C LP F.law_filled 0 [(0, v0), (3, v3), (4, v4)] H k) v0 v3 v4 H k := by kernel_rfl

/-! ticketline.ticketlinelaw48.bytesOf -/

noncomputable def s_law_bytesOf (mg : GT) (mc : CT) (ms : ST) (P : Program) (C : CallF) (L0 : Value → Value → Value → AHeap → K → Res) (L1 : Value → Value → Value → Value → AHeap → K → Res) (a0 : Value) (H : AHeap) (K0 : K) : Res :=
bothK (bldL T.uint8 [(.int .u8 0)] 3 [(0, (.int .u8 84)), (1, (.int .u8 76)), (2, (.int .u8 1))] H) fun t6 h1 =>
bareK (lenS a0) h1 fun t8 h2 =>
enterK C F.law_many [t8, (.int .i64 4)] h2 fun t9 h3 =>
bothK (app T.uint8 1 1 t6 (srcS 1 t9 h3) h3) fun t10 h4 =>
ms (fun k1 =>
L0 a0 t10 (.int .i64 0) h4 (blkK [3] 0 k1)) (seqK (fun tT h5 =>
enterK C F.law_check [(get tT 3)] h5 fun t100 h6 =>
enterK C F.law_many [t100, (.int .i64 4)] h6 fun t101 h7 =>
bothK (app T.uint8 1 1 (get tT 3) (srcS 1 t101 h7) h7) fun t102 h8 =>
K0 .ret [(2, t102)] h8) K0)

noncomputable def s_law_bytesOf_b0 (mg : GT) (mc : CT) (ms : ST) (P : Program) (C : CallF) (L0 : Value → Value → Value → AHeap → K → Res) (L1 : Value → Value → Value → Value → AHeap → K → Res) (v0 : Value) (v3 : Value) (v4 : Value) (H : AHeap) (k : K) : Res :=
bareK (lenS v0) H fun t13 h5 =>
bareK (xbin P .lss T.int (.tmp 11) (.tmp 13) v4 t13) h5 fun t14 h6 =>
mc t14 (fun k2 => k2 .normal [(0, v0), (3, v3), (4, v4)] h6) (fun k2 =>
k2 (.exit 0) [(14, t14), (13, t13), (12, v0), (11, v4), (0, v0), (3, v3), (4, v4)] h6) (seqK (fun tT h7 =>
ms (fun k3 =>
ms (fun k4 =>
L1 (get tT 0) (get tT 3) (get tT 4) (.int .i64 0) h7 (blkK [0, 3, 4, 5] 2 k4)) (seqK (fun tT_1 h8 =>
bothK (xconv P T.int T.uint8 (get tT_1 5) h8) fun t62 h9 =>
bareK (ixS 2 (get tT_1 0) (get tT_1 4)) h9 fun t65 h10 =>
bareK (fad 0 t65) h10 fun t66 h11 =>
bareK (ld1 h11 t66) h11 fun t67 h12 =>
bareK (lenT t67) h12 fun t68 h13 =>
bareK (xbin P .sub T.int (.tmp 68) (.tmp 69) t68 (get tT_1 5)) h13 fun t70 h14 =>
bothK (xconv P T.int T.uint8 t70 h14) fun t71 h15 =>
bothK (bldL T.uint8 [(.int .u8 0)] 2 [(0, t62), (1, t71)] h15) fun t72 h16 =>
bothK (app T.uint8 1 1 (get tT_1 3) (srcS 1 t72 h16) h16) fun t73 h17 =>
bareK (ixS 2 (get tT_1 0) (get tT_1 4)) h17 fun t76 h18 =>
bareK (fad 0 t76) h18 fun t77 h19 =>
bareK (ld1 h19 t77) h19 fun t78 h20 =>
bareK (slT t78 (some (get tT_1 5)) none) h20 fun t80 h21 =>
bothK (app T.uint8 1 1 t73 (srcT t80) h21) fun t81 h22 =>
checkK (okV (some true) none h16 h17 h17 h17 && (okV (some true) none h16 h17 h17 h17 && (okV (some true) none h16 h17 h17 h18 && (okV (some true) none h16 h17 h18 h19 && (okV (some true) (blockOf t77) h16 h17 h19 h20 && (okV (some true) none h16 h17 h20 h20 && (okV (some true) (blockOf t78) h16 h17 h20 h21 && true))))))) <|
bareK (ixS 2 (get tT_1 0) (get tT_1 4)) h22 fun t85 h23 =>
bareK (fad 1 t85) h23 fun t86 h24 =>
bareK (ld1 h24 t86) h24 fun t87 h25 =>
bareK (lenT t87) h25 fun t88 h26 =>
bothK (xconv P T.int T.uint8 t88 h26) fun t89 h27 =>
bothK (bldL T.uint8 [(.int .u8 0)] 1 [(0, t89)] h27) fun t90 h28 =>
bothK (app T.uint8 1 1 t81 (srcS 1 t90 h28) h28) fun t91 h29 =>
bareK (ixS 2 (get tT_1 0) (get tT_1 4)) h29 fun t94 h30 =>
bareK (fad 1 t94) h30 fun t95 h31 =>
bareK (ld1 h31 t95) h31 fun t96 h32 =>
bothK (app T.uint8 1 1 t91 (srcT t96) h32) fun t97 h33 =>
checkK (okV (some true) none h28 h29 h29 h29 && (okV (some true) none h28 h29 h29 h29 && (okV (some true) none h28 h29 h29 h30 && (okV (some true) none h28 h29 h30 h31 && (okV (some true) (blockOf t95) h28 h29 h31 h32 && true))))) <|
k3 .normal [(0, (get tT_1 0)), (3, t97), (4, (get tT_1 4))] h33) (blkK [0, 3, 4] 1 k3))) (seqK (fun tT_2 h34 =>
bareK (xbin P .add T.int (.tmp 15) (.const (.int .i64 1)) (get tT_2 4) (.int .i64 1)) h34 fun t16 h35 =>
k .normal [(0, (get tT_2 0)), (3, (get tT_2 3)), (4, t16)] h35) (afterK [0, 3, 4] k))) (afterK [0, 3, 4] k))

noncomputable def s_law_bytesOf_b1 (mg : GT) (mc : CT) (ms : ST) (P : Program) (C : CallF) (L0 : Value → Value → Value → AHeap → K → Res) (L1 : Value → Value → Value → Value → AHeap → K → Res) (v0 : Value) (v3 : Value) (v4 : Value) (v5 : Value) (H : AHeap) (k : K) : Res :=
bareK (xbin P .gtr T.int (.tmp 17) (.const (.int .i64 0)) v4 (.int .i64 0)) H fun t18 h8 =>
mg t18 true (fun o5 => o5 v5 h8) h8 fun t20 h9 =>
mg t18 true (fun o6 => o6 v0 h9) h9 fun t21 h10 =>
mg t18 true (fun o7 => o7 v4 h10) h10 fun t22 h11 =>
mg t18 true (fun o8 => bareK (ixS 2 t21 t22) h11 o8) h11 fun t23 h12 =>
mg t18 true (fun o9 => bareK (fad 0 t23) h12 o9) h12 fun t24 h13 =>
mg t18 true (fun o10 => bareK (ld1 h13 t24) h13 o10) h13 fun t25 h14 =>
mg t18 true (fun o11 => bareK (lenT t25) h14 o11) h14 fun t26 h15 =>
mg t18 true (fun o12 => bareK (xbin P .lss T.int (.tmp 20) (.tmp 26) t20 t26) h15 o12) h15 fun t27 h16 =>
pickK t18 t27 (.bool false) fun t28 =>
mg t28 true (fun o13 => o13 v5 h16) h16 fun t30 h17 =>
mg t28 true (fun o14 => o14 v0 h17) h17 fun t31 h18 =>
mg t28 true (fun o15 => o15 v4 h18) h18 fun t32 h19 =>
mg t28 true (fun o16 => bareK (xbin P .sub T.int (.tmp 32) (.const (.int .i64 1)) t32 (.int .i64 1)) h19 o16) h19 fun t33 h20 =>
mg t28 true (fun o17 => bareK (ixS 2 t31 t33) h20 o17) h20 fun t34 h21 =>
mg t28 true (fun o18 => bareK (fad 0 t34) h21 o18) h21 fun t35 h22 =>
mg t28 true (fun o19 => bareK (ld1 h22 t35) h22 o19) h22 fun t36 h23 =>
mg t28 true (fun o20 => bareK (lenT t36) h23 o20) h23 fun t37 h24 =>
mg t28 true (fun o21 => bareK (xbin P .lss T.int (.tmp 30) (.tmp 37) t30 t37) h24 o21) h24 fun t38 h25 =>
pickK t28 t38 (.bool false) fun t39 =>
mg t39 true (fun o22 => o22 v0 h25) h25 fun t41 h26 =>
mg t39 true (fun o23 => o23 v4 h26) h26 fun t42 h27 =>
mg t39 true (fun o24 => bareK (ixS 2 t41 t42) h27 o24) h27 fun t43 h28 =>
mg t39 true (fun o25 => bareK (fad 0 t43) h28 o25) h28 fun t44 h29 =>
mg t39 true (fun o26 => bareK (ld1 h29 t44) h29 o26) h29 fun t45 h30 =>
mg t39 true (fun o27 => o27 v5 h30) h30 fun t46 h31 =>
mg t39 true (fun o28 => bareK (xindex P T.string t45 t46) h31 o28) h31 fun t47 h32 =>
mg t39 true (fun o29 => o29 v0 h32) h32 fun t48 h33 =>
mg t39 true (fun o30 => o30 v4 h33) h33 fun t49 h34 =>
mg t39 true (fun o31 => bareK (xbin P .sub T.int (.tmp 49) (.const (.int .i64 1)) t49 (.int .i64 1)) h34 o31) h34 fun t50 h35 =>
mg t39 true (fun o32 => bareK (ixS 2 t48 t50) h35 o32) h35 fun t51 h36 =>
mg t39 true (fun o33 => bareK (fad 0 t51) h36 o33) h36 fun t52 h37 =>
mg t39 true (fun o34 => bareK (ld1 h37 t52) h37 o34) h37 fun t53 h38 =>
mg t39 true (fun o35 => o35 v5 h38) h38 fun t54 h39 =>
mg t39 true (fun o36 => bareK (xindex P T.string t53 t54) h39 o36) h39 fun t55 h40 =>
mg t39 true (fun o37 => bareK (xbin P .eql T.uint8 (.tmp 47) (.tmp 55) t47 t55) h40 o37) h40 fun t56 h41 =>
pickK t39 t56 (.bool false) fun t57 =>
checkK true <|
mc t57 (fun k38 => k38 .normal [(0, v0), (3, v3), (4, v4), (5, v5)] h41) (fun k38 =>
k38 (.exit 2) [(57, t57), (56, t56), (55, t55), (54, t54), (53, t53), (52, t52), (51, t51), (50, t50), (49, t49), (48, t48), (47, t47), (46, t46), (45, t45), (44, t44), (43, t43), (42, t42), (41, t41), (40, t39), (39, t39), (38, t38), (37, t37), (36, t36), (35, t35), (34, t34), (33, t33), (32, t32), (31, t31), (30, t30), (29, t28), (28, t28), (27, t27), (26, t26), (25, t25), (24, t24), (23, t23), (22, t22), (21, t21), (20, t20), (19, t18), (18, t18), (17, v4), (0, v0), (3, v3), (4, v4), (5, v5)] h41) (seqK (fun tT h42 =>
ms (fun k39 =>
bareK (xbin P .add T.int (.tmp 58) (.const (.int .i64 1)) (get tT 5) (.int .i64 1)) h42 fun t59 h43 =>
k39 .normal [(0, (get tT 0)), (3, (get tT 3)), (4, (get tT 4)), (5, t59)] h43) (afterK [0, 3, 4, 5] k)) (afterK [0, 3, 4, 5] k))

theorem s_law_bytesOf_eq (M : CombL) (C : CallF) (LP : LoopH) (a0 : Value) (H : AHeap) : dBodyL M Try.prog hints C LP F.law_bytesOf [a0] H = s_law_bytesOf M.b.g M.c M.s Try.prog C (fun v0 v3 v4 H k => loopL M Try.prog hints C LP F.law_bytesOf 0 [(0, v0), (3, v3), (4, v4)] H k) (fun v0 v3 v4 v5 H k => loopL M Try.prog hints C LP F.law_bytesOf 1 [(0, v0), (3, v3), (4, v4), (5, v5)] H k) a0 H (endK Try.prog [.tmp 2]) := by kernel_rfl

theorem s_law_bytesOf_b0_eq (M : CombL) (C : CallF) (LP : LoopH) (v0 : Value) (v3 : Value) (v4 : Value) (H : AHeap) (k : K) : bodyL M Try.prog hints C LP F.law_bytesOf 0 [(0, v0), (3, v3), (4, v4)] H (afterK [0, 3, 4] k) = s_law_bytesOf_b0 M.b.g M.c M.s Try.prog C (fun v0 v3 v4 H k => loopL M Try.prog hints C LP F.law_bytesOf 0 [(0, v0), (3, v3), (4, v4)] H k) (fun v0 v3 v4 v5 H k => loopL M Try.prog hints C LP F.law_bytesOf 1 [(0, v0), (3, v3), (4, v4), (5, v5)] H k) v0 v3 v4 H k := by kernel_rfl

theorem s_law_bytesOf_b1_eq (M : CombL) (C : CallF) (LP : LoopH) (v0 : Value) (v3 : Value) (v4 : Value) (v5 : Value) (H : AHeap) (k : K) : bodyL M Try.prog hints C LP F.law_bytesOf 1 [(0, v0), (3, v3), (4, v4), (5, v5)] H (afterK [0, 3, 4, 5] k) = s_law_bytesOf_b1 M.b.g M.c M.s Try.prog C (fun v0 v3 v4 H k => loopL M Try.prog hints C LP F.law_bytesOf 0 [(0, v0), (3, v3), (4, v4)] H k) (fun v0 v3 v4 v5 H k => loopL M Try.prog hints C LP F.law_bytesOf 1 [(0, v0), (3, v3), (4, v4), (5, v5)] H k) v0 v3 v4 v5 H k := by kernel_rfl

/-! (*ticketline.model.Model).Pairs -/

noncomputable def s_model_Model_Pairs (mg : GT) (mc : CT) (ms : ST) (P : Program) (C : CallF) (a0 : Value) (H : AHeap) (K0 : K) : Res :=
bareK (xbin P .eql T.p_model_Model (.tmp 3) (.const (.pointer none)) a0 (.pointer none)) H fun t4 h1 =>
mc t4 (fun k1 => k1 .ret [(2, (.slice none 0 0))] h1) (fun k1 =>
k1 .normal [(0, a0)] h1) (seqK (fun tT h2 =>
bareK (xnilCheck (get tT 0)) h2 fun t6 h3 =>
bareK (fad 0 t6) h3 fun t7 h4 =>
bareK (ld1 h4 t7) h4 fun t8 h5 =>
enterK C F.slices_Clone_Pair [t8] h5 fun t9 h6 =>
K0 .ret [(2, t9)] h6) K0)

theorem s_model_Model_Pairs_eq (M : CombL) (C : CallF) (LP : LoopH) (a0 : Value) (H : AHeap) : dBodyL M Try.prog hints C LP F.model_Model_Pairs [a0] H = s_model_Model_Pairs M.b.g M.c M.s Try.prog C a0 H (endK Try.prog [.tmp 2]) := by kernel_rfl

/-! ticketline.backup.Check -/

noncomputable def s_backup_Check (mg : GT) (mc : CT) (ms : ST) (P : Program) (C : CallF) (L0 : Value → Value → Value → Value → Value → AHeap → K → Res) (a0 : Value) (H : AHeap) (K0 : K) : Res :=
bareK (lenS a0) H fun t8 h1 =>
ms (fun k1 =>
L0 (.int .u32 1) (.int .u32 0) a0 t8 (.int .i64 0) h1 (blkK [3, 4] 0 k1)) (seqK (fun tT h2 =>
bareK (xbin P .shl T.uint32 (.tmp 23) (.const (.int .u64 16)) (get tT 4) (.int .u64 16)) h2 fun t24 h3 =>
bareK (xbin P .or T.uint32 (.tmp 24) (.tmp 25) t24 (get tT 3)) h3 fun t26 h4 =>
K0 .ret [(2, t26)] h4) K0)

noncomputable def s_backup_Check_b0 (mg : GT) (mc : CT) (ms : ST) (P : Program) (C : CallF) (L0 : Value → Value → Value → Value → Value → AHeap → K → Res) (v3 : Value) (v4 : Value) (v7 : Value) (v8 : Value) (v9 : Value) (H : AHeap) (k : K) : Res :=
bareK (xbin P .lss T.int (.tmp 9) (.tmp 8) v9 v8) H fun t10 h2 =>
mc t10 (fun k2 => k2 .normal [(3, v3), (4, v4), (7, v7), (8, v8), (9, v9)] h2) (fun k2 =>
k2 (.exit 0) [(10, t10), (3, v3), (4, v4), (7, v7), (8, v8), (9, v9)] h2) (seqK (fun tT h3 =>
ms (fun k3 =>
bareK (ixS 1 (get tT 7) (get tT 9)) h3 fun t11 h4 =>
bareK (ld1 h4 t11) h4 fun t12 h5 =>
bothK (xconv P T.uint8 T.uint32 t12 h5) fun t15 h6 =>
bareK (xbin P .add T.uint32 (.tmp 13) (.tmp 15) (get tT 3) t15) h6 fun t16 h7 =>
bareK (xbin P .rem T.uint32 (.tmp 16) (.const (.int .u32 65521)) t16 (.int .u32 65521)) h7 fun t17 h8 =>
bareK (xbin P .add T.uint32 (.tmp 18) (.tmp 19) (get tT 4) t17) h8 fun t20 h9 =>
bareK (xbin P .rem T.uint32 (.tmp 20) (.const (.int .u32 65521)) t20 (.int .u32 65521)) h9 fun t21 h10 =>
k3 .normal [(3, t17), (4, t21), (7, (get tT 7)), (8, (get tT 8)), (9, (get tT 9))] h10) (seqK (fun tT_1 h11 =>
bareK (xbin P .add T.int (.tmp 9) (.const (.int .i64 1)) (get tT_1 9) (.int .i64 1)) h11 fun t22 h12 =>
k .normal [(3, (get tT_1 3)), (4, (get tT_1 4)), (7, (get tT_1 7)), (8, (get tT_1 8)), (9, t22)] h12) (afterK [3, 4, 7, 8, 9] k))) (afterK [3, 4, 7, 8, 9] k))

theorem s_backup_Check_eq (M : CombL) (C : CallF) (LP : LoopH) (a0 : Value) (H : AHeap) : dBodyL M Try.prog hints C LP F.backup_Check [a0] H = s_backup_Check M.b.g M.c M.s Try.prog C (fun v3 v4 v7 v8 v9 H k => loopL M Try.prog hints C LP F.backup_Check 0 [(3, v3), (4, v4), (7, v7), (8, v8), (9, v9)] H k) a0 H (endK Try.prog [.tmp 2]) := by kernel_rfl

theorem s_backup_Check_b0_eq (M : CombL) (C : CallF) (LP : LoopH) (v3 : Value) (v4 : Value) (v7 : Value) (v8 : Value) (v9 : Value) (H : AHeap) (k : K) : bodyL M Try.prog hints C LP F.backup_Check 0 [(3, v3), (4, v4), (7, v7), (8, v8), (9, v9)] H (afterK [3, 4, 7, 8, 9] k) = s_backup_Check_b0 M.b.g M.c M.s Try.prog C (fun v3 v4 v7 v8 v9 H k => loopL M Try.prog hints C LP F.backup_Check 0 [(3, v3), (4, v4), (7, v7), (8, v8), (9, v9)] H k) v3 v4 v7 v8 v9 H k := by kernel_rfl

/-! ticketline.ticketlinelaw48.check -/

noncomputable def s_law_check (mg : GT) (mc : CT) (ms : ST) (P : Program) (C : CallF) (L0 : Value → Value → Value → Value → AHeap → K → Res) (a0 : Value) (H : AHeap) (K0 : K) : Res :=
ms (fun k1 =>
L0 a0 (.int .i64 1) (.int .i64 0) (.int .i64 0) H (blkK [3, 4] 0 k1)) (seqK (fun tT h1 =>
bareK (xbin P .mul T.int (.const (.int .i64 65536)) (.tmp 24) (.int .i64 65536) (get tT 4)) h1 fun t25 h2 =>
bareK (xbin P .add T.int (.tmp 25) (.tmp 26) t25 (get tT 3)) h2 fun t27 h3 =>
K0 .ret [(2, t27)] h3) K0)

noncomputable def s_law_check_b0 (mg : GT) (mc : CT) (ms : ST) (P : Program) (C : CallF) (L0 : Value → Value → Value → Value → AHeap → K → Res) (v0 : Value) (v3 : Value) (v4 : Value) (v5 : Value) (H : AHeap) (k : K) : Res :=
bareK (lenS v0) H fun t8 h1 =>
bareK (xbin P .lss T.int (.tmp 6) (.tmp 8) v5 t8) h1 fun t9 h2 =>
mc t9 (fun k2 => k2 .normal [(0, v0), (3, v3), (4, v4), (5, v5)] h2) (fun k2 =>
k2 (.exit 0) [(9, t9), (8, t8), (7, v0), (6, v5), (0, v0), (3, v3), (4, v4), (5, v5)] h2) (seqK (fun tT h3 =>
ms (fun k3 =>
bareK (ixS 1 (get tT 0) (get tT 5)) h3 fun t15 h4 =>
bareK (ld1 h4 t15) h4 fun t16 h5 =>
bothK (xconv P T.uint8 T.int t16 h5) fun t17 h6 =>
bareK (xbin P .add T.int (.tmp 12) (.tmp 17) (get tT 3) t17) h6 fun t18 h7 =>
bareK (xbin P .rem T.int (.tmp 18) (.const (.int .i64 65521)) t18 (.int .i64 65521)) h7 fun t19 h8 =>
bareK (xbin P .add T.int (.tmp 20) (.tmp 21) (get tT 4) t19) h8 fun t22 h9 =>
bareK (xbin P .rem T.int (.tmp 22) (.const (.int .i64 65521)) t22 (.int .i64 65521)) h9 fun t23 h10 =>
k3 .normal [(0, (get tT 0)), (3, t19), (4, t23), (5, (get tT 5))] h10) (seqK (fun tT_1 h11 =>
bareK (xbin P .add T.int (.tmp 10) (.const (.int .i64 1)) (get tT_1 5) (.int .i64 1)) h11 fun t11 h12 =>
k .normal [(0, (get tT_1 0)), (3, (get tT_1 3)), (4, (get tT_1 4)), (5, t11)] h12) (afterK [0, 3, 4, 5] k))) (afterK [0, 3, 4, 5] k))

theorem s_law_check_eq (M : CombL) (C : CallF) (LP : LoopH) (a0 : Value) (H : AHeap) : dBodyL M Try.prog hints C LP F.law_check [a0] H = s_law_check M.b.g M.c M.s Try.prog C (fun v0 v3 v4 v5 H k => loopL M Try.prog hints C LP F.law_check 0 [(0, v0), (3, v3), (4, v4), (5, v5)] H k) a0 H (endK Try.prog [.tmp 2]) := by kernel_rfl

theorem s_law_check_b0_eq (M : CombL) (C : CallF) (LP : LoopH) (v0 : Value) (v3 : Value) (v4 : Value) (v5 : Value) (H : AHeap) (k : K) : bodyL M Try.prog hints C LP F.law_check 0 [(0, v0), (3, v3), (4, v4), (5, v5)] H (afterK [0, 3, 4, 5] k) = s_law_check_b0 M.b.g M.c M.s Try.prog C (fun v0 v3 v4 v5 H k => loopL M Try.prog hints C LP F.law_check 0 [(0, v0), (3, v3), (4, v4), (5, v5)] H k) v0 v3 v4 v5 H k := by kernel_rfl

/-! ticketline.ticketlinelaw48.encodes -/

noncomputable def s_law_encodes (mg : GT) (mc : CT) (ms : ST) (P : Program) (C : CallF) (a0 : Value) (a1 : Value) (a2 : Value) (H : AHeap) (K0 : K) : Res :=
enterK C F.backup_Encode [a0] H fun t11 h1 =>
bareK (xextract t11 0) h1 fun t12 h2 =>
bareK (xextract t11 1) h2 fun t13 h3 =>
bothK (xconv P T.sl_uint8 T.string t12 h3) fun t15 h4 =>
bothK (xconv P T.sl_uint8 T.string a1 h4) fun t17 h5 =>
bareK (xbin P .eql T.string (.tmp 15) (.tmp 17) t15 t17) h5 fun t18 h6 =>
mg t18 true (fun o1 => o1 t13 h6) h6 fun t20 h7 =>
mg t18 true (fun o2 => o2 a2 h7) h7 fun t21 h8 =>
mg t18 true (fun o3 => bareK (xbin P .eql T.int (.tmp 20) (.tmp 21) t20 t21) h8 o3) h8 fun t22 h9 =>
pickK t18 t22 (.bool false) fun t23 =>
K0 .ret [(6, t23)] h9

theorem s_law_encodes_eq (M : CombL) (C : CallF) (LP : LoopH) (a0 : Value) (a1 : Value) (a2 : Value) (H : AHeap) : dBodyL M Try.prog hints C LP F.law_encodes [a0, a1, a2] H = s_law_encodes M.b.g M.c M.s Try.prog C a0 a1 a2 H (endK Try.prog [.tmp 6]) := by kernel_rfl

/-! ticketline.ticketlinelaw48.many -/

noncomputable def s_law_many (mg : GT) (mc : CT) (ms : ST) (P : Program) (C : CallF) (L0 : Value → Value → Value → AHeap → K → Res) (a0 : Value) (a1 : Value) (H : AHeap) (K0 : K) : Res :=
bothK (mkS T.uint8 [(.int .u8 0)] 1 a1 a1 H) fun t8 h1 =>
bareK (xbin P .sub T.int (.tmp 9) (.const (.int .i64 1)) a1 (.int .i64 1)) h1 fun t10 h2 =>
ms (fun k1 =>
L0 a0 t8 t10 h2 (blkK [5] 0 k1)) (seqK (fun tT h3 =>
K0 .ret [(4, (get tT 5))] h3) K0)

noncomputable def s_law_many_b0 (mg : GT) (mc : CT) (ms : ST) (P : Program) (C : CallF) (L0 : Value → Value → Value → AHeap → K → Res) (v0 : Value) (v5 : Value) (v6 : Value) (H : AHeap) (k : K) : Res :=
bareK (xbin P .geq T.int (.tmp 11) (.const (.int .i64 0)) v6 (.int .i64 0)) H fun t12 h3 =>
mc t12 (fun k2 => k2 .normal [(0, v0), (5, v5), (6, v6)] h3) (fun k2 =>
k2 (.exit 0) [(12, t12), (11, v6), (0, v0), (5, v5), (6, v6)] h3) (seqK (fun tT h4 =>
ms (fun k3 =>
bareK (xbin P .rem T.int (.tmp 17) (.const (.int .i64 256)) (get tT 0) (.int .i64 256)) h4 fun t18 h5 =>
bothK (xconv P T.int T.uint8 t18 h5) fun t19 h6 =>
bareK (ixS 1 (get tT 5) (get tT 6)) h6 fun t20 h7 =>
quietK (st1 h7 t20 t19) fun _ h8 =>
bareK (xbin P .quo T.int (.tmp 21) (.const (.int .i64 256)) (get tT 0) (.int .i64 256)) h8 fun t22 h9 =>
k3 .normal [(0, t22), (5, (get tT 5)), (6, (get tT 6))] h9) (seqK (fun tT_1 h10 =>
bareK (xbin P .sub T.int (.tmp 13) (.const (.int .i64 1)) (get tT_1 6) (.int .i64 1)) h10 fun t14 h11 =>
k .normal [(0, (get tT_1 0)), (5, (get tT_1 5)), (6, t14)] h11) (afterK [0, 5, 6] k))) (afterK [0, 5, 6] k))

theorem s_law_many_eq (M : CombL) (C : CallF) (LP : LoopH) (a0 : Value) (a1 : Value) (H : AHeap) : dBodyL M Try.prog hints C LP F.law_many [a0, a1] H = s_law_many M.b.g M.c M.s Try.prog C (fun v0 v5 v6 H k => loopL M Try.prog hints C LP F.law_many 0 [(0, v0), (5, v5), (6, v6)] H k) a0 a1 H (endK Try.prog [.tmp 4]) := by kernel_rfl

theorem s_law_many_b0_eq (M : CombL) (C : CallF) (LP : LoopH) (v0 : Value) (v5 : Value) (v6 : Value) (H : AHeap) (k : K) : bodyL M Try.prog hints C LP F.law_many 0 [(0, v0), (5, v5), (6, v6)] H (afterK [0, 5, 6] k) = s_law_many_b0 M.b.g M.c M.s Try.prog C (fun v0 v5 v6 H k => loopL M Try.prog hints C LP F.law_many 0 [(0, v0), (5, v5), (6, v6)] H k) v0 v5 v6 H k := by kernel_rfl

/-! ticketline.ticketlinelaw48.right -/

noncomputable def s_law_right (mg : GT) (mc : CT) (ms : ST) (P : Program) (C : CallF) (a0 : Value) (H : AHeap) (K0 : K) : Res :=
bothK (app T.uint8 1 1 (.slice none 0 0) (srcS 1 a0 H) H) fun t7 h1 =>
enterK C F.law_read [a0] h1 fun t10 h2 =>
bareK (xextract t10 0) h2 fun t11 h3 =>
bareK (xextract t10 1) h3 fun t12 h4 =>
bareK (xun P .not t12) h4 fun t14 h5 =>
mc t14 (fun k1 => enterK C F.law_decodes [t7, (.pointer none), (.int .i64 12)] h5 fun t16 h6 =>
mg t16 true (fun o2 => o2 t7 h6) h6 fun t18 h7 =>
mg t16 true (fun o3 => bothK (xconv P T.sl_uint8 T.string t18 h7) o3) h7 fun t19 h8 =>
mg t16 true (fun o4 => o4 a0 h8) h8 fun t20 h9 =>
mg t16 true (fun o5 => bothK (xconv P T.sl_uint8 T.string t20 h9) o5) h9 fun t21 h10 =>
mg t16 true (fun o6 => bareK (xbin P .eql T.string (.tmp 19) (.tmp 21) t19 t21) h10 o6) h10 fun t22 h11 =>
pickK t16 t22 (.bool false) fun t23 =>
k1 .ret [(2, t23)] h11) (fun k1 =>
k1 .normal [(0, a0), (3, t7), (4, t11)] h5) (seqK (fun tT h12 =>
enterK C F.law_filled [(get tT 4)] h12 fun t26 h13 =>
enterK C F.law_decodes [(get tT 3), t26, (.int .i64 0)] h13 fun t27 h14 =>
mg t27 true (fun o7 => o7 (get tT 3) h14) h14 fun t29 h15 =>
mg t27 true (fun o8 => bothK (xconv P T.sl_uint8 T.string t29 h15) o8) h15 fun t30 h16 =>
mg t27 true (fun o9 => o9 (get tT 0) h16) h16 fun t31 h17 =>
mg t27 true (fun o10 => bothK (xconv P T.sl_uint8 T.string t31 h17) o10) h17 fun t32 h18 =>
mg t27 true (fun o11 => bareK (xbin P .eql T.string (.tmp 30) (.tmp 32) t30 t32) h18 o11) h18 fun t33 h19 =>
pickK t27 t33 (.bool false) fun t34 =>
K0 .ret [(2, t34)] h19) K0)

theorem s_law_right_eq (M : CombL) (C : CallF) (LP : LoopH) (a0 : Value) (H : AHeap) : dBodyL M Try.prog hints C LP F.law_right [a0] H = s_law_right M.b.g M.c M.s Try.prog C a0 H (endK Try.prog [.tmp 2]) := by kernel_rfl

/-! ticketline.backup.Encode -/

noncomputable def s_backup_Encode (mg : GT) (mc : CT) (ms : ST) (P : Program) (C : CallF) (L0 : Value → Value → Value → Value → Value → AHeap → K → Res) (a0 : Value) (H : AHeap) (K0 : K) : Res :=
bareK (xbin P .eql T.p_model_Model (.tmp 10) (.const (.pointer none)) a0 (.pointer none)) H fun t11 h1 =>
mc t11 (fun k1 => k1 .ret [(2, (.slice none 0 0)), (3, (.int .i64 1))] h1) (fun k1 =>
k1 .normal [(0, a0)] h1) (seqK (fun tT h2 =>
enterK C F.model_Model_Pairs [(get tT 0)] h2 fun t13 h3 =>
bothK (bldL T.uint8 [(.int .u8 0)] 3 [(0, (.int .u8 84)), (1, (.int .u8 76)), (2, (.int .u8 1))] h3) fun t14 h4 =>
bareK (lenS t13) h4 fun t16 h5 =>
bothK (xconv P T.int T.uint32 t16 h5) fun t17 h6 =>
enterK C F.backup_four [t17] h6 fun t18 h7 =>
bothK (app T.uint8 1 1 t14 (srcS 1 t18 h7) h7) fun t19 h8 =>
bareK (lenS t13) h8 fun t21 h9 =>
ms (fun k2 =>
L0 t19 (.string (mk [])) t13 t21 (.int .i64 0) h9 (blkK [5] 0 k2)) (seqK (fun tT_1 h10 =>
enterK C F.backup_Check [(get tT_1 5)] h10 fun t63 h11 =>
enterK C F.backup_four [t63] h11 fun t64 h12 =>
bothK (app T.uint8 1 1 (get tT_1 5) (srcS 1 t64 h12) h12) fun t65 h13 =>
K0 .ret [(2, t65), (3, (.int .i64 0))] h13) K0)) K0)

noncomputable def s_backup_Encode_b0 (mg : GT) (mc : CT) (ms : ST) (P : Program) (C : CallF) (L0 : Value → Value → Value → Value → Value → AHeap → K → Res) (v5 : Value) (v6 : Value) (v20 : Value) (v21 : Value) (v22 : Value) (H : AHeap) (k : K) : Res :=
bareK (xbin P .lss T.int (.tmp 22) (.tmp 21) v22 v21) H fun t23 h10 =>
mc t23 (fun k3 => k3 .normal [(5, v5), (6, v6), (20, v20), (21, v21), (22, v22)] h10) (fun k3 =>
k3 (.exit 0) [(23, t23), (5, v5), (6, v6), (20, v20), (21, v21), (22, v22)] h10) (seqK (fun tT h11 =>
ms (fun k4 =>
bareK (ixS 2 (get tT 20) (get tT 22)) h11 fun t24 h12 =>
bareK (ldN 2 h12 t24) h12 fun t25 h13 =>
bothK (newv T.api_Pair (.agg #[(.string (mk [])), (.string (mk []))]) h13) fun t8 h14 =>
quietK (stN 2 h14 t8 t25) fun _ h15 =>
bareK (fad 0 t8) h15 fun t27 h16 =>
bareK (ld1 h16 t27) h16 fun t28 h17 =>
enterK C F.keys_Prefix [(get tT 6), t28] h17 fun t29 h18 =>
bothK (xconv P T.int T.uint8 t29 h18) fun t32 h19 =>
bareK (fad 0 t8) h19 fun t33 h20 =>
bareK (ld1 h20 t33) h20 fun t34 h21 =>
bareK (lenT t34) h21 fun t35 h22 =>
bareK (xbin P .sub T.int (.tmp 35) (.tmp 36) t35 t29) h22 fun t37 h23 =>
bothK (xconv P T.int T.uint8 t37 h23) fun t38 h24 =>
bothK (bldL T.uint8 [(.int .u8 0)] 2 [(0, t32), (1, t38)] h24) fun t39 h25 =>
bothK (app T.uint8 1 1 (get tT 5) (srcS 1 t39 h25) h25) fun t40 h26 =>
bareK (fad 0 t8) h26 fun t42 h27 =>
bareK (ld1 h27 t42) h27 fun t43 h28 =>
bareK (slT t43 (some t29) none) h28 fun t45 h29 =>
bothK (app T.uint8 1 1 t40 (srcT t45) h29) fun t46 h30 =>
bareK (fad 1 t8) h30 fun t48 h31 =>
bareK (ld1 h31 t48) h31 fun t49 h32 =>
bareK (lenT t49) h32 fun t50 h33 =>
bothK (xconv P T.int T.uint8 t50 h33) fun t51 h34 =>
bothK (bldL T.uint8 [(.int .u8 0)] 1 [(0, t51)] h34) fun t52 h35 =>
bothK (app T.uint8 1 1 t46 (srcS 1 t52 h35) h35) fun t53 h36 =>
bareK (fad 1 t8) h36 fun t55 h37 =>
bareK (ld1 h37 t55) h37 fun t56 h38 =>
bothK (app T.uint8 1 1 t53 (srcT t56) h38) fun t57 h39 =>
bareK (fad 0 t8) h39 fun t58 h40 =>
bareK (ld1 h40 t58) h40 fun t59 h41 =>
k4 .normal [(5, t57), (6, t59), (20, (get tT 20)), (21, (get tT 21)), (22, (get tT 22))] h41) (seqK (fun tT_1 h42 =>
bareK (xbin P .add T.int (.tmp 22) (.const (.int .i64 1)) (get tT_1 22) (.int .i64 1)) h42 fun t60 h43 =>
k .normal [(5, (get tT_1 5)), (6, (get tT_1 6)), (20, (get tT_1 20)), (21, (get tT_1 21)), (22, t60)] h43) (afterK [5, 6, 20, 21, 22] k))) (afterK [5, 6, 20, 21, 22] k))

theorem s_backup_Encode_eq (M : CombL) (C : CallF) (LP : LoopH) (a0 : Value) (H : AHeap) : dBodyL M Try.prog hints C LP F.backup_Encode [a0] H = s_backup_Encode M.b.g M.c M.s Try.prog C (fun v5 v6 v20 v21 v22 H k => loopL M Try.prog hints C LP F.backup_Encode 0 [(5, v5), (6, v6), (20, v20), (21, v21), (22, v22)] H k) a0 H (endK Try.prog [.tmp 2, .tmp 3]) := by kernel_rfl

theorem s_backup_Encode_b0_eq (M : CombL) (C : CallF) (LP : LoopH) (v5 : Value) (v6 : Value) (v20 : Value) (v21 : Value) (v22 : Value) (H : AHeap) (k : K) : bodyL M Try.prog hints C LP F.backup_Encode 0 [(5, v5), (6, v6), (20, v20), (21, v21), (22, v22)] H (afterK [5, 6, 20, 21, 22] k) = s_backup_Encode_b0 M.b.g M.c M.s Try.prog C (fun v5 v6 v20 v21 v22 H k => loopL M Try.prog hints C LP F.backup_Encode 0 [(5, v5), (6, v6), (20, v20), (21, v21), (22, v22)] H k) v5 v6 v20 v21 v22 H k := by kernel_rfl

/-! ticketline.model.Equal -/

noncomputable def s_model_Equal (mg : GT) (mc : CT) (ms : ST) (P : Program) (C : CallF) (a0 : Value) (a1 : Value) (H : AHeap) (K0 : K) : Res :=
bareK (xbin P .eql T.p_model_Model (.tmp 6) (.const (.pointer none)) a0 (.pointer none)) H fun t7 h1 =>
bareK (xbin P .eql T.p_model_Model (.tmp 8) (.const (.pointer none)) a1 (.pointer none)) h1 fun t9 h2 =>
bareK (xbin P .neq T.bool (.tmp 7) (.tmp 9) t7 t9) h2 fun t10 h3 =>
mg t10 false (fun o1 => o1 (.func (.func F.model_Model_Len) #[] #[]) h3) h3 fun t12 h4 =>
mg t10 false (fun o2 => o2 a0 h4) h4 fun t13 h5 =>
mg t10 false (fun o3 => callK P C t12 [t13] h5 o3) h5 fun t14 h6 =>
mg t10 false (fun o4 => o4 (.func (.func F.model_Model_Len) #[] #[]) h6) h6 fun t15 h7 =>
mg t10 false (fun o5 => o5 a1 h7) h7 fun t16 h8 =>
mg t10 false (fun o6 => callK P C t15 [t16] h8 o6) h8 fun t17 h9 =>
mg t10 false (fun o7 => bareK (xbin P .neq T.int (.tmp 14) (.tmp 17) t14 t17) h9 o7) h9 fun t18 h10 =>
pickK t10 (.bool true) t18 fun t19 =>
mc t19 (fun k8 => k8 .ret [(4, (.bool false))] h10) (fun k8 =>
k8 .normal [(0, a0), (1, a1)] h10) (seqK (fun tT h11 =>
enterK C F.model_Model_Pairs [(get tT 0)] h11 fun t21 h12 =>
enterK C F.model_Model_Pairs [(get tT 1)] h12 fun t23 h13 =>
enterK C F.slices_Equal_Pair [t21, t23] h13 fun t24 h14 =>
K0 .ret [(4, t24)] h14) K0)

theorem s_model_Equal_eq (M : CombL) (C : CallF) (LP : LoopH) (a0 : Value) (a1 : Value) (H : AHeap) : dBodyL M Try.prog hints C LP F.model_Equal [a0, a1] H = s_model_Equal M.b.g M.c M.s Try.prog C a0 a1 H (endK Try.prog [.tmp 4]) := by kernel_rfl

/-! ticketline.backup.Decode -/

noncomputable def s_backup_Decode (mg : GT) (mc : CT) (ms : ST) (P : Program) (C : CallF) (L0 : Value → Value → Value → Value → Value → Value → AHeap → K → Res) (a0 : Value) (H : AHeap) (K0 : K) : Res :=
bareK (lenS a0) H fun t15 h1 =>
bareK (xbin P .gtr T.int (.tmp 15) (.const (.int .i64 4194304)) t15 (.int .i64 4194304)) h1 fun t16 h2 =>
mc t16 (fun k1 => k1 .ret [(2, (.pointer none)), (3, (.int .i64 5))] h2) (fun k1 =>
k1 .normal [(0, a0)] h2) (seqK (fun tT h3 =>
bareK (lenS (get tT 0)) h3 fun t18 h4 =>
bareK (xbin P .lss T.int (.tmp 18) (.const (.int .i64 7)) t18 (.int .i64 7)) h4 fun t19 h5 =>
mc t19 (fun k2 => k2 .ret [(2, (.pointer none)), (3, (.int .i64 12))] h5) (fun k2 =>
k2 .normal [(0, (get tT 0))] h5) (seqK (fun tT_1 h6 =>
bareK (bldS #[(.slice none 0 0)] [(0, 1)] []) h6 fun t20 h7 =>
bothK (newv T.model_Model t20 h7) fun t21 h8 =>
bareK (slS T.uint8 1 (get tT_1 0) (some (.int .i64 7)) none none h8) h8 fun t23 h9 =>
bareK (slS T.uint8 1 (get tT_1 0) (some (.int .i64 3)) (some (.int .i64 7)) none h9) h9 fun t25 h10 =>
enterK C F.backup_number [t25] h10 fun t26 h11 =>
ms (fun k3 =>
L0 (get tT_1 0) t21 t23 (.string (mk [])) t26 (.int .u32 0) h11 (blkK [0, 4] 0 k3)) (seqK (fun tT_2 h12 =>
enterK C F.backup_Encode [(get tT_2 4)] h12 fun t79 h13 =>
bareK (xextract t79 0) h13 fun t80 h14 =>
bareK (xextract t79 1) h14 fun t81 h15 =>
bareK (xbin P .neq T.api_Errno (.tmp 82) (.const (.int .i64 0)) t81 (.int .i64 0)) h15 fun t83 h16 =>
mg t83 false (fun o4 => o4 t80 h16) h16 fun t85 h17 =>
mg t83 false (fun o5 => o5 (get tT_2 0) h17) h17 fun t86 h18 =>
mg t83 false (fun o6 => enterK C F.bytes_Equal [t85, t86] h18 o6) h18 fun t87 h19 =>
mg t83 false (fun o7 => bareK (xun P .not t87) h19 o7) h19 fun t88 h20 =>
pickK t83 (.bool true) t88 fun t89 =>
mc t89 (fun k8 => k8 .ret [(2, (.pointer none)), (3, (.int .i64 12))] h20) (fun k8 =>
k8 .normal [(4, (get tT_2 4))] h20) (seqK (fun tT_3 h21 =>
K0 .ret [(2, (get tT_3 4)), (3, (.int .i64 0))] h21) K0)) K0)) K0)) K0)

noncomputable def s_backup_Decode_b0 (mg : GT) (mc : CT) (ms : ST) (P : Program) (C : CallF) (L0 : Value → Value → Value → Value → Value → Value → AHeap → K → Res) (v0 : Value) (v4 : Value) (v5 : Value) (v6 : Value) (v26 : Value) (v27 : Value) (H : AHeap) (k : K) : Res :=
bareK (xbin P .lss T.uint32 (.tmp 27) (.tmp 26) v27 v26) H fun t28 h12 =>
mc t28 (fun k4 => k4 .normal [(0, v0), (4, v4), (5, v5), (6, v6), (26, v26), (27, v27)] h12) (fun k4 =>
k4 (.exit 0) [(28, t28), (0, v0), (4, v4), (5, v5), (6, v6), (26, v26), (27, v27)] h12) (seqK (fun tT h13 =>
ms (fun k5 =>
bareK (lenS (get tT 5)) h13 fun t30 h14 =>
bareK (xbin P .eql T.int (.tmp 30) (.const (.int .i64 0)) t30 (.int .i64 0)) h14 fun t31 h15 =>
mg t31 false (fun o6 => o6 (get tT 5) h15) h15 fun t33 h16 =>
mg t31 false (fun o7 => bareK (ixS 1 t33 (.int .i64 0)) h16 o7) h16 fun t34 h17 =>
mg t31 false (fun o8 => bareK (ld1 h17 t34) h17 o8) h17 fun t35 h18 =>
mg t31 false (fun o9 => bothK (xconv P T.uint8 T.int t35 h18) o9) h18 fun t36 h19 =>
mg t31 false (fun o10 => o10 (get tT 6) h19) h19 fun t37 h20 =>
mg t31 false (fun o11 => bareK (lenT t37) h20 o11) h20 fun t38 h21 =>
mg t31 false (fun o12 => bareK (xbin P .gtr T.int (.tmp 36) (.tmp 38) t36 t38) h21 o12) h21 fun t39 h22 =>
pickK t31 (.bool true) t39 fun t40 =>
mc t40 (fun k13 => k13 .ret [(2, (.pointer none)), (3, (.int .i64 12))] h22) (fun k13 =>
k13 .normal [(0, (get tT 0)), (4, (get tT 4)), (5, (get tT 5)), (6, (get tT 6)), (26, (get tT 26)), (27, (get tT 27))] h22) (seqK (fun tT_1 h23 =>
bareK (ixS 1 (get tT_1 5) (.int .i64 0)) h23 fun t43 h24 =>
bareK (ld1 h24 t43) h24 fun t44 h25 =>
bareK (slT (get tT_1 6) none (some t44)) h25 fun t45 h26 =>
bareK (slS T.uint8 1 (get tT_1 5) (some (.int .i64 1)) none none h26) h26 fun t48 h27 =>
enterK C F.backup_take [t48] h27 fun t49 h28 =>
bareK (xextract t49 0) h28 fun t50 h29 =>
bareK (xextract t49 1) h29 fun t51 h30 =>
bareK (xextract t49 2) h30 fun t52 h31 =>
bareK (xun P .not t52) h31 fun t54 h32 =>
mc t54 (fun k14 => k14 .ret [(2, (.pointer none)), (3, (.int .i64 12))] h32) (fun k14 =>
k14 .normal [(0, (get tT_1 0)), (4, (get tT_1 4)), (7, t45), (8, t50), (9, t51), (26, (get tT_1 26)), (27, (get tT_1 27))] h32) (seqK (fun tT_2 h33 =>
enterK C F.backup_take [(get tT_2 9)] h33 fun t57 h34 =>
bareK (xextract t57 0) h34 fun t58 h35 =>
bareK (xextract t57 1) h35 fun t59 h36 =>
bareK (xextract t57 2) h36 fun t60 h37 =>
bareK (xun P .not t60) h37 fun t62 h38 =>
mg t62 false (fun o15 => o15 (get tT_2 4) h38) h38 fun t64 h39 =>
mg t62 false (fun o16 => o16 (get tT_2 7) h39) h39 fun t65 h40 =>
mg t62 false (fun o17 => o17 (get tT_2 8) h40) h40 fun t66 h41 =>
mg t62 false (fun o18 => bareK (xbin P .add T.string (.tmp 65) (.tmp 66) t65 t66) h41 o18) h41 fun t67 h42 =>
mg t62 false (fun o19 => o19 t58 h42) h42 fun t68 h43 =>
mg t62 false (fun o20 => enterK C F.model_Model_Insert [t64, t67, t68] h43 o20) h43 fun t69 h44 =>
mg t62 false (fun o21 => bareK (xbin P .neq T.api_Errno (.tmp 69) (.const (.int .i64 0)) t69 (.int .i64 0)) h44 o21) h44 fun t70 h45 =>
pickK t62 (.bool true) t70 fun t71 =>
mc t71 (fun k22 => k22 .ret [(2, (.pointer none)), (3, (.int .i64 12))] h45) (fun k22 =>
k22 .normal [(0, (get tT_2 0)), (4, (get tT_2 4)), (7, (get tT_2 7)), (8, (get tT_2 8)), (9, t59), (26, (get tT_2 26)), (27, (get tT_2 27))] h45) (seqK (fun tT_3 h46 =>
bareK (xbin P .add T.string (.tmp 73) (.tmp 74) (get tT_3 7) (get tT_3 8)) h46 fun t75 h47 =>
k5 .normal [(0, (get tT_3 0)), (4, (get tT_3 4)), (5, (get tT_3 9)), (6, t75), (26, (get tT_3 26)), (27, (get tT_3 27))] h47) (blkK [0, 4, 5, 6, 26, 27] 1 k5))) (blkK [0, 4, 5, 6, 26, 27] 1 k5))) (blkK [0, 4, 5, 6, 26, 27] 1 k5))) (seqK (fun tT_4 h48 =>
bareK (xbin P .add T.uint32 (.tmp 27) (.const (.int .u32 1)) (get tT_4 27) (.int .u32 1)) h48 fun t76 h49 =>
k .normal [(0, (get tT_4 0)), (4, (get tT_4 4)), (5, (get tT_4 5)), (6, (get tT_4 6)), (26, (get tT_4 26)), (27, t76)] h49) (afterK [0, 4, 5, 6, 26, 27] k))) (afterK [0, 4, 5, 6, 26, 27] k))

theorem s_backup_Decode_eq (M : CombL) (C : CallF) (LP : LoopH) (a0 : Value) (H : AHeap) : dBodyL M Try.prog hints C LP F.backup_Decode [a0] H = s_backup_Decode M.b.g M.c M.s Try.prog C (fun v0 v4 v5 v6 v26 v27 H k => loopL M Try.prog hints C LP F.backup_Decode 0 [(0, v0), (4, v4), (5, v5), (6, v6), (26, v26), (27, v27)] H k) a0 H (endK Try.prog [.tmp 2, .tmp 3]) := by kernel_rfl

theorem s_backup_Decode_b0_eq (M : CombL) (C : CallF) (LP : LoopH) (v0 : Value) (v4 : Value) (v5 : Value) (v6 : Value) (v26 : Value) (v27 : Value) (H : AHeap) (k : K) : bodyL M Try.prog hints C LP F.backup_Decode 0 [(0, v0), (4, v4), (5, v5), (6, v6), (26, v26), (27, v27)] H (afterK [0, 4, 5, 6, 26, 27] k) = s_backup_Decode_b0 M.b.g M.c M.s Try.prog C (fun v0 v4 v5 v6 v26 v27 H k => loopL M Try.prog hints C LP F.backup_Decode 0 [(0, v0), (4, v4), (5, v5), (6, v6), (26, v26), (27, v27)] H k) v0 v4 v5 v6 v26 v27 H k := by kernel_rfl

/-! ticketline.model.Of -/

noncomputable def s_model_Of (mg : GT) (mc : CT) (ms : ST) (P : Program) (C : CallF) (L0 : Value → Value → Value → Value → AHeap → K → Res) (a0 : Value) (H : AHeap) (K0 : K) : Res :=
bareK (lenS a0) H fun t8 h1 =>
ms (fun k1 =>
L0 a0 a0 t8 (.int .i64 0) h1 (blkK [0] 0 k1)) (seqK (fun tT h2 =>
bareK (lenS (get tT 0)) h2 fun t39 h3 =>
bareK (xbin P .gtr T.int (.tmp 39) (.const (.int .i64 20000)) t39 (.int .i64 20000)) h3 fun t40 h4 =>
mc t40 (fun k2 => k2 .ret [(2, (.pointer none)), (3, (.int .i64 7))] h4) (fun k2 =>
k2 .normal [(0, (get tT 0))] h4) (seqK (fun tT_1 h5 =>
enterK C F.slices_Clone_Pair [(get tT_1 0)] h5 fun t42 h6 =>
bareK (bldS #[(.slice none 0 0)] [(0, 1)] [(0, t42)]) h6 fun t43 h7 =>
bothK (newv T.model_Model t43 h7) fun t44 h8 =>
K0 .ret [(2, t44), (3, (.int .i64 0))] h8) K0)) K0)

noncomputable def s_model_Of_b0 (mg : GT) (mc : CT) (ms : ST) (P : Program) (C : CallF) (L0 : Value → Value → Value → Value → AHeap → K → Res) (v0 : Value) (v7 : Value) (v8 : Value) (v9 : Value) (H : AHeap) (k : K) : Res :=
bareK (xbin P .lss T.int (.tmp 9) (.tmp 8) v9 v8) H fun t10 h2 =>
mc t10 (fun k2 => k2 .normal [(0, v0), (7, v7), (8, v8), (9, v9)] h2) (fun k2 =>
k2 (.exit 0) [(10, t10), (0, v0), (7, v7), (8, v8), (9, v9)] h2) (seqK (fun tT h3 =>
ms (fun k3 =>
bareK (ixS 2 (get tT 7) (get tT 9)) h3 fun t12 h4 =>
bareK (ldN 2 h4 t12) h4 fun t13 h5 =>
bothK (newv T.api_Pair (.agg #[(.string (mk [])), (.string (mk []))]) h5) fun t5 h6 =>
quietK (stN 2 h6 t5 t13) fun _ h7 =>
bareK (fad 0 t5) h7 fun t14 h8 =>
bareK (ld1 h8 t14) h8 fun t15 h9 =>
bareK (fad 1 t5) h9 fun t16 h10 =>
bareK (ld1 h10 t16) h10 fun t17 h11 =>
bothK (bldL T.string [(.string (mk []))] 1 [(0, t17)] h11) fun t18 h12 =>
enterK C F.model_check [t15, t18] h12 fun t19 h13 =>
bareK (xbin P .neq T.api_Errno (.tmp 20) (.const (.int .i64 0)) t19 (.int .i64 0)) h13 fun t21 h14 =>
mc t21 (fun k4 => k4 .ret [(2, (.pointer none)), (3, t19)] h14) (fun k4 =>
k4 .normal [(0, (get tT 0)), (4, (get tT 9)), (5, t5), (7, (get tT 7)), (8, (get tT 8)), (9, (get tT 9))] h14) (seqK (fun tT_1 h15 =>
bareK (xbin P .gtr T.int (.tmp 23) (.const (.int .i64 0)) (get tT_1 4) (.int .i64 0)) h15 fun t24 h16 =>
mg t24 true (fun o5 => o5 (get tT_1 0) h16) h16 fun t26 h17 =>
mg t24 true (fun o6 => o6 (get tT_1 4) h17) h17 fun t27 h18 =>
mg t24 true (fun o7 => bareK (xbin P .sub T.int (.tmp 27) (.const (.int .i64 1)) t27 (.int .i64 1)) h18 o7) h18 fun t28 h19 =>
mg t24 true (fun o8 => bareK (ixS 2 t26 t28) h19 o8) h19 fun t29 h20 =>
mg t24 true (fun o9 => bareK (fad 0 t29) h20 o9) h20 fun t30 h21 =>
mg t24 true (fun o10 => bareK (ld1 h21 t30) h21 o10) h21 fun t31 h22 =>
mg t24 true (fun o11 => bareK (fad 0 (get tT_1 5)) h22 o11) h22 fun t32 h23 =>
mg t24 true (fun o12 => bareK (ld1 h23 t32) h23 o12) h23 fun t33 h24 =>
mg t24 true (fun o13 => enterK C F.keys_Compare [t31, t33] h24 o13) h24 fun t34 h25 =>
mg t24 true (fun o14 => bareK (xbin P .geq T.int (.tmp 34) (.const (.int .i64 0)) t34 (.int .i64 0)) h25 o14) h25 fun t35 h26 =>
pickK t24 t35 (.bool false) fun t36 =>
checkK true <|
mc t36 (fun k15 => k15 .ret [(2, (.pointer none)), (3, (.int .i64 13))] h26) (fun k15 =>
k15 .normal [(0, (get tT_1 0)), (7, (get tT_1 7)), (8, (get tT_1 8)), (9, (get tT_1 9))] h26) (blkK [0, 7, 8, 9] 1 k3)) (blkK [0, 7, 8, 9] 1 k3))) (seqK (fun tT_2 h27 =>
bareK (xbin P .add T.int (.tmp 9) (.const (.int .i64 1)) (get tT_2 9) (.int .i64 1)) h27 fun t37 h28 =>
k .normal [(0, (get tT_2 0)), (7, (get tT_2 7)), (8, (get tT_2 8)), (9, t37)] h28) (afterK [0, 7, 8, 9] k))) (afterK [0, 7, 8, 9] k))

theorem s_model_Of_eq (M : CombL) (C : CallF) (LP : LoopH) (a0 : Value) (H : AHeap) : dBodyL M Try.prog hints C LP F.model_Of [a0] H = s_model_Of M.b.g M.c M.s Try.prog C (fun v0 v7 v8 v9 H k => loopL M Try.prog hints C LP F.model_Of 0 [(0, v0), (7, v7), (8, v8), (9, v9)] H k) a0 H (endK Try.prog [.tmp 2, .tmp 3]) := by kernel_rfl

theorem s_model_Of_b0_eq (M : CombL) (C : CallF) (LP : LoopH) (v0 : Value) (v7 : Value) (v8 : Value) (v9 : Value) (H : AHeap) (k : K) : bodyL M Try.prog hints C LP F.model_Of 0 [(0, v0), (7, v7), (8, v8), (9, v9)] H (afterK [0, 7, 8, 9] k) = s_model_Of_b0 M.b.g M.c M.s Try.prog C (fun v0 v7 v8 v9 H k => loopL M Try.prog hints C LP F.model_Of 0 [(0, v0), (7, v7), (8, v8), (9, v9)] H k) v0 v7 v8 v9 H k := by kernel_rfl

/-! ticketline.ticketlinelaw48.same -/

noncomputable def s_law_same (mg : GT) (mc : CT) (ms : ST) (P : Program) (C : CallF) (L0 : Value → Value → Value → AHeap → K → Res) (a0 : Value) (a1 : Value) (H : AHeap) (K0 : K) : Res :=
bareK (lenS a0) H fun t7 h1 =>
bareK (lenS a1) h1 fun t9 h2 =>
bareK (xbin P .neq T.int (.tmp 7) (.tmp 9) t7 t9) h2 fun t10 h3 =>
mc t10 (fun k1 => k1 .ret [(4, (.bool false))] h3) (fun k1 =>
k1 .normal [(0, a0), (1, a1)] h3) (seqK (fun tT h4 =>
ms (fun k2 =>
L0 (get tT 0) (get tT 1) (.int .i64 0) h4 (blkK [] 0 k2)) (seqK (fun tT_1 h5 =>
K0 .ret [(4, (.bool true))] h5) K0)) K0)

noncomputable def s_law_same_b0 (mg : GT) (mc : CT) (ms : ST) (P : Program) (C : CallF) (L0 : Value → Value → Value → AHeap → K → Res) (v0 : Value) (v1 : Value) (v5 : Value) (H : AHeap) (k : K) : Res :=
bareK (lenS v0) H fun t13 h5 =>
bareK (xbin P .lss T.int (.tmp 11) (.tmp 13) v5 t13) h5 fun t14 h6 =>
mc t14 (fun k3 => k3 .normal [(0, v0), (1, v1), (5, v5)] h6) (fun k3 =>
k3 (.exit 0) [(14, t14), (13, t13), (12, v0), (11, v5), (0, v0), (1, v1), (5, v5)] h6) (seqK (fun tT h7 =>
ms (fun k4 =>
bareK (ixS 1 (get tT 0) (get tT 5)) h7 fun t19 h8 =>
bareK (ld1 h8 t19) h8 fun t20 h9 =>
bothK (xconv P T.sl_uint8 T.string t20 h9) fun t21 h10 =>
bareK (ixS 1 (get tT 1) (get tT 5)) h10 fun t24 h11 =>
bareK (ld1 h11 t24) h11 fun t25 h12 =>
bothK (xconv P T.sl_uint8 T.string t25 h12) fun t26 h13 =>
bareK (xbin P .neq T.string (.tmp 21) (.tmp 26) t21 t26) h13 fun t27 h14 =>
checkK true <|
mc t27 (fun k5 => k5 .ret [(4, (.bool false))] h14) (fun k5 =>
k5 .normal [(0, (get tT 0)), (1, (get tT 1)), (5, (get tT 5))] h14) (blkK [0, 1, 5] 1 k4)) (seqK (fun tT_1 h15 =>
bareK (xbin P .add T.int (.tmp 15) (.const (.int .i64 1)) (get tT_1 5) (.int .i64 1)) h15 fun t16 h16 =>
k .normal [(0, (get tT_1 0)), (1, (get tT_1 1)), (5, t16)] h16) (afterK [0, 1, 5] k))) (afterK [0, 1, 5] k))

theorem s_law_same_eq (M : CombL) (C : CallF) (LP : LoopH) (a0 : Value) (a1 : Value) (H : AHeap) : dBodyL M Try.prog hints C LP F.law_same [a0, a1] H = s_law_same M.b.g M.c M.s Try.prog C (fun v0 v1 v5 H k => loopL M Try.prog hints C LP F.law_same 0 [(0, v0), (1, v1), (5, v5)] H k) a0 a1 H (endK Try.prog [.tmp 4]) := by kernel_rfl

theorem s_law_same_b0_eq (M : CombL) (C : CallF) (LP : LoopH) (v0 : Value) (v1 : Value) (v5 : Value) (H : AHeap) (k : K) : bodyL M Try.prog hints C LP F.law_same 0 [(0, v0), (1, v1), (5, v5)] H (afterK [0, 1, 5] k) = s_law_same_b0 M.b.g M.c M.s Try.prog C (fun v0 v1 v5 H k => loopL M Try.prog hints C LP F.law_same 0 [(0, v0), (1, v1), (5, v5)] H k) v0 v1 v5 H k := by kernel_rfl

/-! ticketline.backup.Join -/

noncomputable def s_backup_Join (mg : GT) (mc : CT) (ms : ST) (P : Program) (C : CallF) (L0 : Value → Value → Value → Value → Value → AHeap → K → Res) (L1 : Value → Value → Value → Value → AHeap → K → Res) (L2 : Value → Value → Value → Value → Value → AHeap → K → Res) (L3 : Value → Value → Value → Value → Value → AHeap → K → Res) (a0 : Value) (H : AHeap) (K0 : K) : Res :=
bareK (lenS a0) H fun t18 h1 =>
bareK (xbin P .gtr T.int (.tmp 18) (.const (.int .i64 65535)) t18 (.int .i64 65535)) h1 fun t19 h2 =>
mc t19 (fun k1 => k1 .ret [(2, (.slice none 0 0)), (3, (.int .i64 5))] h2) (fun k1 =>
k1 .normal [(0, a0)] h2) (seqK (fun tT h3 =>
bareK (lenS (get tT 0)) h3 fun t21 h4 =>
ms (fun k2 =>
L0 (get tT 0) (.int .i64 0) (get tT 0) t21 (.int .i64 0) h4 (blkK [0, 4] 0 k2)) (seqK (fun tT_1 h5 =>
bareK (xbin P .gtr T.int (.tmp 33) (.const (.int .i64 4194304)) (get tT_1 4) (.int .i64 4194304)) h5 fun t34 h6 =>
mc t34 (fun k3 => k3 .ret [(2, (.slice none 0 0)), (3, (.int .i64 5))] h6) (fun k3 =>
k3 .normal [(0, (get tT_1 0))] h6) (seqK (fun tT_2 h7 =>
bareK (lenS (get tT_2 0)) h7 fun t36 h8 =>
ms (fun k4 =>
L1 (get tT_2 0) (get tT_2 0) t36 (.int .i64 0) h8 (blkK [0] 2 k4)) (seqK (fun tT_3 h9 =>
bareK (lenS (get tT_3 0)) h9 fun t55 h10 =>
bareK (xbin P .eql T.int (.tmp 55) (.const (.int .i64 0)) t55 (.int .i64 0)) h10 fun t56 h11 =>
mc t56 (fun k5 => k5 .ret [(2, (.slice none 0 0)), (3, (.int .i64 4))] h11) (fun k5 =>
k5 .normal [(0, (get tT_3 0))] h11) (seqK (fun tT_4 h12 =>
bothK (xmakeMap P T.map_uint32_uint8 none h12) fun t57 h13 =>
bareK (lenS (get tT_4 0)) h13 fun t59 h14 =>
ms (fun k6 =>
L2 (get tT_4 0) t57 (get tT_4 0) t59 (.int .i64 0) h14 (blkK [0, 9] 4 k6)) (seqK (fun tT_5 h15 =>
bareK (xlenM P [T.map_uint32_uint8] (get tT_5 9) h15) h15 fun t109 h16 =>
bareK (ixS 1 (get tT_5 0) (.int .i64 0)) h16 fun t111 h17 =>
bareK (ld1 h17 t111) h17 fun t112 h18 =>
bareK (slS T.uint8 1 t112 (some (.int .i64 6)) (some (.int .i64 8)) none h18) h18 fun t113 h19 =>
enterK C F.backup_number [t113] h19 fun t114 h20 =>
bothK (xconv P T.uint32 T.int t114 h20) fun t115 h21 =>
bareK (xbin P .lss T.int (.tmp 109) (.tmp 115) t109 t115) h21 fun t116 h22 =>
checkK true <|
mc t116 (fun k7 => k7 .ret [(2, (.slice none 0 0)), (3, (.int .i64 4))] h22) (fun k7 =>
k7 .normal [(0, (get tT_5 0)), (9, (get tT_5 9))] h22) (seqK (fun tT_6 h23 =>
bareK (xlenM P [T.map_uint32_uint8] (get tT_6 9) h23) h23 fun t118 h24 =>
ms (fun k8 =>
L3 (get tT_6 0) (get tT_6 9) (.slice none 0 0) t118 (.int .i64 0) h24 (blkK [0, 15] 6 k8)) (seqK (fun tT_7 h25 =>
enterK C F.backup_Check [(get tT_7 15)] h25 fun t130 h26 =>
bareK (ixS 1 (get tT_7 0) (.int .i64 0)) h26 fun t132 h27 =>
bareK (ld1 h27 t132) h27 fun t133 h28 =>
bareK (slS T.uint8 1 t133 none (some (.int .i64 4)) none h28) h28 fun t134 h29 =>
enterK C F.backup_number [t134] h29 fun t135 h30 =>
bareK (xbin P .neq T.uint32 (.tmp 130) (.tmp 135) t130 t135) h30 fun t136 h31 =>
checkK (okV (some true) none h25 h26 h26 h26 && (okV (some true) none h25 h26 h26 h27 && (okV (some true) (blockOf t132) h25 h26 h27 h28 && (okV (some true) (blockOf t133) h25 h26 h28 h29 && true)))) <|
mc t136 (fun k9 => k9 .ret [(2, (.slice none 0 0)), (3, (.int .i64 10))] h31) (fun k9 =>
k9 .normal [(15, (get tT_7 15))] h31) (seqK (fun tT_8 h32 =>
K0 .ret [(2, (get tT_8 15)), (3, (.int .i64 0))] h32) K0)) K0)) K0)) K0)) K0)) K0)) K0)) K0)) K0)

noncomputable def s_backup_Join_b0 (mg : GT) (mc : CT) (ms : ST) (P : Program) (C : CallF) (L0 : Value → Value → Value → Value → Value → AHeap → K → Res) (L1 : Value → Value → Value → Value → AHeap → K → Res) (L2 : Value → Value → Value → Value → Value → AHeap → K → Res) (L3 : Value → Value → Value → Value → Value → AHeap → K → Res) (v0 : Value) (v4 : Value) (v20 : Value) (v21 : Value) (v22 : Value) (H : AHeap) (k : K) : Res :=
bareK (xbin P .lss T.int (.tmp 22) (.tmp 21) v22 v21) H fun t23 h5 =>
mc t23 (fun k3 => k3 .normal [(0, v0), (4, v4), (20, v20), (21, v21), (22, v22)] h5) (fun k3 =>
k3 (.exit 0) [(23, t23), (0, v0), (4, v4), (20, v20), (21, v21), (22, v22)] h5) (seqK (fun tT h6 =>
ms (fun k4 =>
bareK (ixS 1 (get tT 20) (get tT 22)) h6 fun t24 h7 =>
bareK (ld1 h7 t24) h7 fun t25 h8 =>
bareK (lenS t25) h8 fun t28 h9 =>
bareK (xbin P .sub T.int (.tmp 28) (.const (.int .i64 8)) t28 (.int .i64 8)) h9 fun t29 h10 =>
nextK C h10 (xbuiltin P .max [T.int, T.int] [(.int .i64 0), t29] h10) fun t30 h11 =>
bareK (xbin P .add T.int (.tmp 26) (.tmp 30) (get tT 4) t30) h11 fun t31 h12 =>
k4 .normal [(0, (get tT 0)), (4, t31), (20, (get tT 20)), (21, (get tT 21)), (22, (get tT 22))] h12) (seqK (fun tT_1 h13 =>
bareK (xbin P .add T.int (.tmp 22) (.const (.int .i64 1)) (get tT_1 22) (.int .i64 1)) h13 fun t32 h14 =>
k .normal [(0, (get tT_1 0)), (4, (get tT_1 4)), (20, (get tT_1 20)), (21, (get tT_1 21)), (22, t32)] h14) (afterK [0, 4, 20, 21, 22] k))) (afterK [0, 4, 20, 21, 22] k))

noncomputable def s_backup_Join_b1 (mg : GT) (mc : CT) (ms : ST) (P : Program) (C : CallF) (L0 : Value → Value → Value → Value → Value → AHeap → K → Res) (L1 : Value → Value → Value → Value → AHeap → K → Res) (L2 : Value → Value → Value → Value → Value → AHeap → K → Res) (L3 : Value → Value → Value → Value → Value → AHeap → K → Res) (v0 : Value) (v35 : Value) (v36 : Value) (v37 : Value) (H : AHeap) (k : K) : Res :=
bareK (xbin P .lss T.int (.tmp 37) (.tmp 36) v37 v36) H fun t38 h9 =>
mc t38 (fun k5 => k5 .normal [(0, v0), (35, v35), (36, v36), (37, v37)] h9) (fun k5 =>
k5 (.exit 2) [(38, t38), (0, v0), (35, v35), (36, v36), (37, v37)] h9) (seqK (fun tT h10 =>
ms (fun k6 =>
bareK (ixS 1 (get tT 35) (get tT 37)) h10 fun t39 h11 =>
bareK (ld1 h11 t39) h11 fun t40 h12 =>
bareK (lenS t40) h12 fun t42 h13 =>
bareK (xbin P .lss T.int (.tmp 42) (.const (.int .i64 8)) t42 (.int .i64 8)) h13 fun t43 h14 =>
mg t43 false (fun o7 => o7 t40 h14) h14 fun t45 h15 =>
mg t43 false (fun o8 => bareK (slS T.uint8 1 t45 (some (.int .i64 4)) (some (.int .i64 6)) none h15) h15 o8) h15 fun t46 h16 =>
mg t43 false (fun o9 => enterK C F.backup_number [t46] h16 o9) h16 fun t47 h17 =>
mg t43 false (fun o10 => o10 t40 h17) h17 fun t48 h18 =>
mg t43 false (fun o11 => bareK (slS T.uint8 1 t48 (some (.int .i64 6)) (some (.int .i64 8)) none h18) h18 o11) h18 fun t49 h19 =>
mg t43 false (fun o12 => enterK C F.backup_number [t49] h19 o12) h19 fun t50 h20 =>
mg t43 false (fun o13 => bareK (xbin P .geq T.uint32 (.tmp 47) (.tmp 50) t47 t50) h20 o13) h20 fun t51 h21 =>
pickK t43 (.bool true) t51 fun t52 =>
checkK (okV (goesV t43 false) none h16 h17 h17 h18 && (okV (goesV t43 false) (blockOf t48) h16 h17 h18 h19 && true)) <|
mc t52 (fun k14 => k14 .ret [(2, (.slice none 0 0)), (3, (.int .i64 12))] h21) (fun k14 =>
k14 .normal [(0, (get tT 0)), (35, (get tT 35)), (36, (get tT 36)), (37, (get tT 37))] h21) (blkK [0, 35, 36, 37] 3 k6)) (seqK (fun tT_1 h22 =>
bareK (xbin P .add T.int (.tmp 37) (.const (.int .i64 1)) (get tT_1 37) (.int .i64 1)) h22 fun t53 h23 =>
k .normal [(0, (get tT_1 0)), (35, (get tT_1 35)), (36, (get tT_1 36)), (37, t53)] h23) (afterK [0, 35, 36, 37] k))) (afterK [0, 35, 36, 37] k))

noncomputable def s_backup_Join_b2 (mg : GT) (mc : CT) (ms : ST) (P : Program) (C : CallF) (L0 : Value → Value → Value → Value → Value → AHeap → K → Res) (L1 : Value → Value → Value → Value → AHeap → K → Res) (L2 : Value → Value → Value → Value → Value → AHeap → K → Res) (L3 : Value → Value → Value → Value → Value → AHeap → K → Res) (v0 : Value) (v9 : Value) (v58 : Value) (v59 : Value) (v60 : Value) (H : AHeap) (k : K) : Res :=
bareK (xbin P .lss T.int (.tmp 60) (.tmp 59) v60 v59) H fun t61 h15 =>
mc t61 (fun k7 => k7 .normal [(0, v0), (9, v9), (58, v58), (59, v59), (60, v60)] h15) (fun k7 =>
k7 (.exit 4) [(61, t61), (0, v0), (9, v9), (58, v58), (59, v59), (60, v60)] h15) (seqK (fun tT h16 =>
ms (fun k8 =>
bareK (ixS 1 (get tT 58) (get tT 60)) h16 fun t62 h17 =>
bareK (ld1 h17 t62) h17 fun t63 h18 =>
bareK (slS T.uint8 1 t63 (some (.int .i64 4)) (some (.int .i64 6)) none h18) h18 fun t65 h19 =>
enterK C F.backup_number [t65] h19 fun t66 h20 =>
bareK (xlookup P T.map_uint32_uint8 (get tT 9) t66 true h20) h20 fun t70 h21 =>
bareK (xextract t70 0) h21 fun t71 h22 =>
bareK (xextract t70 1) h22 fun t72 h23 =>
bareK (slS T.uint8 1 t63 none (some (.int .i64 4)) none h23) h23 fun t74 h24 =>
enterK C F.backup_number [t74] h24 fun t75 h25 =>
bareK (ixS 1 (get tT 0) (.int .i64 0)) h25 fun t77 h26 =>
bareK (ld1 h26 t77) h26 fun t78 h27 =>
bareK (slS T.uint8 1 t78 none (some (.int .i64 4)) none h27) h27 fun t79 h28 =>
enterK C F.backup_number [t79] h28 fun t80 h29 =>
bareK (xbin P .neq T.uint32 (.tmp 75) (.tmp 80) t75 t80) h29 fun t81 h30 =>
mg t81 false (fun o9 => o9 t63 h30) h30 fun t83 h31 =>
mg t81 false (fun o10 => bareK (slS T.uint8 1 t83 (some (.int .i64 6)) (some (.int .i64 8)) none h31) h31 o10) h31 fun t84 h32 =>
mg t81 false (fun o11 => enterK C F.backup_number [t84] h32 o11) h32 fun t85 h33 =>
mg t81 false (fun o12 => o12 (get tT 0) h33) h33 fun t86 h34 =>
mg t81 false (fun o13 => bareK (ixS 1 t86 (.int .i64 0)) h34 o13) h34 fun t87 h35 =>
mg t81 false (fun o14 => bareK (ld1 h35 t87) h35 o14) h35 fun t88 h36 =>
mg t81 false (fun o15 => bareK (slS T.uint8 1 t88 (some (.int .i64 6)) (some (.int .i64 8)) none h36) h36 o15) h36 fun t89 h37 =>
mg t81 false (fun o16 => enterK C F.backup_number [t89] h37 o16) h37 fun t90 h38 =>
mg t81 false (fun o17 => bareK (xbin P .neq T.uint32 (.tmp 85) (.tmp 90) t85 t90) h38 o17) h38 fun t91 h39 =>
pickK t81 (.bool true) t91 fun t92 =>
mg t92 false (fun o18 => o18 t72 h39) h39 fun t94 h40 =>
mg t92 false (fun o19 => o19 t94 h40) h40 fun t95 h41 =>
mg t95 true (fun o20 => o20 t71 h41) h41 fun t96 h42 =>
mg t95 true (fun o21 => o21 t63 h42) h42 fun t97 h43 =>
mg t95 true (fun o22 => bareK (slS T.uint8 1 t97 (some (.int .i64 8)) none none h43) h43 o22) h43 fun t98 h44 =>
mg t95 true (fun o23 => enterK C F.bytes_Equal [t96, t98] h44 o23) h44 fun t99 h45 =>
mg t95 true (fun o24 => bareK (xun P .not t99) h45 o24) h45 fun t100 h46 =>
mg t92 false (fun o25 => pickK t95 t100 (.bool false) fun v => o25 v h46) h46 fun t101 h47 =>
pickK t92 (.bool true) t101 fun t102 =>
checkK (okV (some true) none h24 h25 h25 h25 && (okV (some true) none h24 h25 h25 h26 && (okV (some true) (blockOf t77) h24 h25 h26 h27 && (okV (some true) (blockOf t78) h24 h25 h27 h28 && (okV (goesV t81 false) none h32 h33 h33 h34 && (okV (goesV t81 false) none h32 h33 h34 h35 && (okV (goesV t81 false) (blockOf t87) h32 h33 h35 h36 && (okV (goesV t81 false) (blockOf t88) h32 h33 h36 h37 && true)))))))) <|
mc t102 (fun k26 => k26 .ret [(2, (.slice none 0 0)), (3, (.int .i64 11))] h47) (fun k26 =>
k26 .normal [(0, (get tT 0)), (9, (get tT 9)), (11, t63), (12, t66), (58, (get tT 58)), (59, (get tT 59)), (60, (get tT 60))] h47) (seqK (fun tT_1 h48 =>
bareK (slS T.uint8 1 (get tT_1 11) (some (.int .i64 8)) none none h48) h48 fun t106 h49 =>
quietK (xmapUpdate P T.map_uint32_uint8 (get tT_1 9) (get tT_1 12) t106 h49) fun _ h50 =>
k8 .normal [(0, (get tT_1 0)), (9, (get tT_1 9)), (58, (get tT_1 58)), (59, (get tT_1 59)), (60, (get tT_1 60))] h50) (blkK [0, 9, 58, 59, 60] 5 k8))) (seqK (fun tT_2 h51 =>
bareK (xbin P .add T.int (.tmp 60) (.const (.int .i64 1)) (get tT_2 60) (.int .i64 1)) h51 fun t107 h52 =>
k .normal [(0, (get tT_2 0)), (9, (get tT_2 9)), (58, (get tT_2 58)), (59, (get tT_2 59)), (60, t107)] h52) (afterK [0, 9, 58, 59, 60] k))) (afterK [0, 9, 58, 59, 60] k))

noncomputable def s_backup_Join_b3 (mg : GT) (mc : CT) (ms : ST) (P : Program) (C : CallF) (L0 : Value → Value → Value → Value → Value → AHeap → K → Res) (L1 : Value → Value → Value → Value → AHeap → K → Res) (L2 : Value → Value → Value → Value → Value → AHeap → K → Res) (L3 : Value → Value → Value → Value → Value → AHeap → K → Res) (v0 : Value) (v9 : Value) (v15 : Value) (v118 : Value) (v119 : Value) (H : AHeap) (k : K) : Res :=
bareK (xbin P .lss T.int (.tmp 119) (.tmp 118) v119 v118) H fun t120 h25 =>
mc t120 (fun k9 => k9 .normal [(0, v0), (9, v9), (15, v15), (118, v118), (119, v119)] h25) (fun k9 =>
k9 (.exit 6) [(120, t120), (0, v0), (9, v9), (15, v15), (118, v118), (119, v119)] h25) (seqK (fun tT h26 =>
ms (fun k10 =>
bothK (xconv P T.int T.uint32 (get tT 119) h26) fun t125 h27 =>
bareK (xlookup P T.map_uint32_uint8 (get tT 9) t125 false h27) h27 fun t126 h28 =>
bothK (app T.uint8 1 1 (get tT 15) (srcS 1 t126 h28) h28) fun t127 h29 =>
k10 .normal [(0, (get tT 0)), (9, (get tT 9)), (15, t127), (118, (get tT 118)), (119, (get tT 119))] h29) (seqK (fun tT_1 h30 =>
bareK (xbin P .add T.int (.tmp 119) (.const (.int .i64 1)) (get tT_1 119) (.int .i64 1)) h30 fun t128 h31 =>
k .normal [(0, (get tT_1 0)), (9, (get tT_1 9)), (15, (get tT_1 15)), (118, (get tT_1 118)), (119, t128)] h31) (afterK [0, 9, 15, 118, 119] k))) (afterK [0, 9, 15, 118, 119] k))

theorem s_backup_Join_eq (M : CombL) (C : CallF) (LP : LoopH) (a0 : Value) (H : AHeap) : dBodyL M Try.prog hints C LP F.backup_Join [a0] H = s_backup_Join M.b.g M.c M.s Try.prog C (fun v0 v4 v20 v21 v22 H k => loopL M Try.prog hints C LP F.backup_Join 0 [(0, v0), (4, v4), (20, v20), (21, v21), (22, v22)] H k) (fun v0 v35 v36 v37 H k => loopL M Try.prog hints C LP F.backup_Join 1 [(0, v0), (35, v35), (36, v36), (37, v37)] H k) (fun v0 v9 v58 v59 v60 H k => loopL M Try.prog hints C LP F.backup_Join 2 [(0, v0), (9, v9), (58, v58), (59, v59), (60, v60)] H k) (fun v0 v9 v15 v118 v119 H k => loopL M Try.prog hints C LP F.backup_Join 3 [(0, v0), (9, v9), (15, v15), (118, v118), (119, v119)] H k) a0 H (endK Try.prog [.tmp 2, .tmp 3]) := by kernel_rfl

theorem s_backup_Join_b0_eq (M : CombL) (C : CallF) (LP : LoopH) (v0 : Value) (v4 : Value) (v20 : Value) (v21 : Value) (v22 : Value) (H : AHeap) (k : K) : bodyL M Try.prog hints C LP F.backup_Join 0 [(0, v0), (4, v4), (20, v20), (21, v21), (22, v22)] H (afterK [0, 4, 20, 21, 22] k) = s_backup_Join_b0 M.b.g M.c M.s Try.prog C (fun v0 v4 v20 v21 v22 H k => loopL M Try.prog hints C LP F.backup_Join 0 [(0, v0), (4, v4), (20, v20), (21, v21), (22, v22)] H k) (fun v0 v35 v36 v37 H k => loopL M Try.prog hints C LP F.backup_Join 1 [(0, v0), (35, v35), (36, v36), (37, v37)] H k) (fun v0 v9 v58 v59 v60 H k => loopL M Try.prog hints C LP F.backup_Join 2 [(0, v0), (9, v9), (58, v58), (59, v59), (60, v60)] H k) (fun v0 v9 v15 v118 v119 H k => loopL M Try.prog hints C LP F.backup_Join 3 [(0, v0), (9, v9), (15, v15), (118, v118), (119, v119)] H k) v0 v4 v20 v21 v22 H k := by kernel_rfl

theorem s_backup_Join_b1_eq (M : CombL) (C : CallF) (LP : LoopH) (v0 : Value) (v35 : Value) (v36 : Value) (v37 : Value) (H : AHeap) (k : K) : bodyL M Try.prog hints C LP F.backup_Join 1 [(0, v0), (35, v35), (36, v36), (37, v37)] H (afterK [0, 35, 36, 37] k) = s_backup_Join_b1 M.b.g M.c M.s Try.prog C (fun v0 v4 v20 v21 v22 H k => loopL M Try.prog hints C LP F.backup_Join 0 [(0, v0), (4, v4), (20, v20), (21, v21), (22, v22)] H k) (fun v0 v35 v36 v37 H k => loopL M Try.prog hints C LP F.backup_Join 1 [(0, v0), (35, v35), (36, v36), (37, v37)] H k) (fun v0 v9 v58 v59 v60 H k => loopL M Try.prog hints C LP F.backup_Join 2 [(0, v0), (9, v9), (58, v58), (59, v59), (60, v60)] H k) (fun v0 v9 v15 v118 v119 H k => loopL M Try.prog hints C LP F.backup_Join 3 [(0, v0), (9, v9), (15, v15), (118, v118), (119, v119)] H k) v0 v35 v36 v37 H k := by kernel_rfl

theorem s_backup_Join_b2_eq (M : CombL) (C : CallF) (LP : LoopH) (v0 : Value) (v9 : Value) (v58 : Value) (v59 : Value) (v60 : Value) (H : AHeap) (k : K) : bodyL M Try.prog hints C LP F.backup_Join 2 [(0, v0), (9, v9), (58, v58), (59, v59), (60, v60)] H (afterK [0, 9, 58, 59, 60] k) = s_backup_Join_b2 M.b.g M.c M.s Try.prog C (fun v0 v4 v20 v21 v22 H k => loopL M Try.prog hints C LP F.backup_Join 0 [(0, v0), (4, v4), (20, v20), (21, v21), (22, v22)] H k) (fun v0 v35 v36 v37 H k => loopL M Try.prog hints C LP F.backup_Join 1 [(0, v0), (35, v35), (36, v36), (37, v37)] H k) (fun v0 v9 v58 v59 v60 H k => loopL M Try.prog hints C LP F.backup_Join 2 [(0, v0), (9, v9), (58, v58), (59, v59), (60, v60)] H k) (fun v0 v9 v15 v118 v119 H k => loopL M Try.prog hints C LP F.backup_Join 3 [(0, v0), (9, v9), (15, v15), (118, v118), (119, v119)] H k) v0 v9 v58 v59 v60 H k := by kernel_rfl

theorem s_backup_Join_b3_eq (M : CombL) (C : CallF) (LP : LoopH) (v0 : Value) (v9 : Value) (v15 : Value) (v118 : Value) (v119 : Value) (H : AHeap) (k : K) : bodyL M Try.prog hints C LP F.backup_Join 3 [(0, v0), (9, v9), (15, v15), (118, v118), (119, v119)] H (afterK [0, 9, 15, 118, 119] k) = s_backup_Join_b3 M.b.g M.c M.s Try.prog C (fun v0 v4 v20 v21 v22 H k => loopL M Try.prog hints C LP F.backup_Join 0 [(0, v0), (4, v4), (20, v20), (21, v21), (22, v22)] H k) (fun v0 v35 v36 v37 H k => loopL M Try.prog hints C LP F.backup_Join 1 [(0, v0), (35, v35), (36, v36), (37, v37)] H k) (fun v0 v9 v58 v59 v60 H k => loopL M Try.prog hints C LP F.backup_Join 2 [(0, v0), (9, v9), (58, v58), (59, v59), (60, v60)] H k) (fun v0 v9 v15 v118 v119 H k => loopL M Try.prog hints C LP F.backup_Join 3 [(0, v0), (9, v9), (15, v15), (118, v118), (119, v119)] H k) v0 v9 v15 v118 v119 H k := by kernel_rfl

/-! ticketline.ticketlinelaw48.part -/

noncomputable def s_law_part (mg : GT) (mc : CT) (ms : ST) (P : Program) (C : CallF) (a0 : Value) (H : AHeap) (K0 : K) : Res :=
bareK (lenS a0) H fun t11 h1 =>
bareK (xbin P .lss T.int (.tmp 11) (.const (.int .i64 8)) t11 (.int .i64 8)) h1 fun t12 h2 =>
mc t12 (fun k1 => k1 .ret [(2, (.int .i64 0)), (3, (.int .i64 0)), (4, (.int .i64 0)), (5, (.string (mk []))), (6, (.bool false))] h2) (fun k1 =>
k1 .normal [(0, a0)] h2) (seqK (fun tT h3 =>
bareK (ixS 1 (get tT 0) (.int .i64 0)) h3 fun t14 h4 =>
bareK (ld1 h4 t14) h4 fun t15 h5 =>
bothK (xconv P T.uint8 T.int t15 h5) fun t16 h6 =>
bareK (xbin P .mul T.int (.tmp 16) (.const (.int .i64 256)) t16 (.int .i64 256)) h6 fun t17 h7 =>
bareK (ixS 1 (get tT 0) (.int .i64 1)) h7 fun t19 h8 =>
bareK (ld1 h8 t19) h8 fun t20 h9 =>
bothK (xconv P T.uint8 T.int t20 h9) fun t21 h10 =>
bareK (xbin P .add T.int (.tmp 17) (.tmp 21) t17 t21) h10 fun t22 h11 =>
bareK (xbin P .mul T.int (.tmp 22) (.const (.int .i64 256)) t22 (.int .i64 256)) h11 fun t23 h12 =>
bareK (ixS 1 (get tT 0) (.int .i64 2)) h12 fun t25 h13 =>
bareK (ld1 h13 t25) h13 fun t26 h14 =>
bothK (xconv P T.uint8 T.int t26 h14) fun t27 h15 =>
bareK (xbin P .add T.int (.tmp 23) (.tmp 27) t23 t27) h15 fun t28 h16 =>
bareK (xbin P .mul T.int (.tmp 28) (.const (.int .i64 256)) t28 (.int .i64 256)) h16 fun t29 h17 =>
bareK (ixS 1 (get tT 0) (.int .i64 3)) h17 fun t31 h18 =>
bareK (ld1 h18 t31) h18 fun t32 h19 =>
bothK (xconv P T.uint8 T.int t32 h19) fun t33 h20 =>
bareK (xbin P .add T.int (.tmp 29) (.tmp 33) t29 t33) h20 fun t34 h21 =>
checkK true <|
bareK (ixS 1 (get tT 0) (.int .i64 4)) h21 fun t36 h22 =>
bareK (ld1 h22 t36) h22 fun t37 h23 =>
bothK (xconv P T.uint8 T.int t37 h23) fun t38 h24 =>
bareK (xbin P .mul T.int (.tmp 38) (.const (.int .i64 256)) t38 (.int .i64 256)) h24 fun t39 h25 =>
bareK (ixS 1 (get tT 0) (.int .i64 5)) h25 fun t41 h26 =>
bareK (ld1 h26 t41) h26 fun t42 h27 =>
bothK (xconv P T.uint8 T.int t42 h27) fun t43 h28 =>
bareK (xbin P .add T.int (.tmp 39) (.tmp 43) t39 t43) h28 fun t44 h29 =>
bareK (ixS 1 (get tT 0) (.int .i64 6)) h29 fun t46 h30 =>
bareK (ld1 h30 t46) h30 fun t47 h31 =>
bothK (xconv P T.uint8 T.int t47 h31) fun t48 h32 =>
bareK (xbin P .mul T.int (.tmp 48) (.const (.int .i64 256)) t48 (.int .i64 256)) h32 fun t49 h33 =>
bareK (ixS 1 (get tT 0) (.int .i64 7)) h33 fun t51 h34 =>
bareK (ld1 h34 t51) h34 fun t52 h35 =>
bothK (xconv P T.uint8 T.int t52 h35) fun t53 h36 =>
bareK (xbin P .add T.int (.tmp 49) (.tmp 53) t49 t53) h36 fun t54 h37 =>
checkK true <|
bareK (slS T.uint8 1 (get tT 0) (some (.int .i64 8)) none none h37) h37 fun t59 h38 =>
bothK (xconv P T.sl_uint8 T.string t59 h38) fun t60 h39 =>
bareK (xbin P .lss T.int (.tmp 61) (.tmp 62) t44 t54) h39 fun t63 h40 =>
checkK true <|
K0 .ret [(2, t34), (3, t44), (4, t54), (5, t60), (6, t63)] h40) K0)

theorem s_law_part_eq (M : CombL) (C : CallF) (LP : LoopH) (a0 : Value) (H : AHeap) : dBodyL M Try.prog hints C LP F.law_part [a0] H = s_law_part M.b.g M.c M.s Try.prog C a0 H (endK Try.prog [.tmp 2, .tmp 3, .tmp 4, .tmp 5, .tmp 6]) := by kernel_rfl

/-! slices.Collect[[]byte] -/

noncomputable def s_slices_Collect_byte (mg : GT) (mc : CT) (ms : ST) (P : Program) (C : CallF) (a0 : Value) (H : AHeap) (K0 : K) : Res :=
enterK C F.slices_AppendSeq_bytes [(.slice none 0 0), a0] H fun t4 h1 =>
K0 .ret [(2, t4)] h1

theorem s_slices_Collect_byte_eq (M : CombL) (C : CallF) (LP : LoopH) (a0 : Value) (H : AHeap) : dBodyL M Try.prog hints C LP F.slices_Collect_byte [a0] H = s_slices_Collect_byte M.b.g M.c M.s Try.prog C a0 H (endK Try.prog [.tmp 2]) := by kernel_rfl

/-! slices.Chunk[[]byte,byte] -/

noncomputable def s_slices_Chunk_byte (mg : GT) (mc : CT) (ms : ST) (P : Program) (C : CallF) (a0 : Value) (a1 : Value) (H : AHeap) (K0 : K) : Res :=
bothK (newv T.sl_uint8 a0 H) fun t2 h1 =>
bothK (newv T.int a1 h1) fun t3 h2 =>
bareK (ld1 h2 t3) h2 fun t5 h3 =>
bareK (xbin P .lss T.int (.tmp 5) (.const (.int .i64 1)) t5 (.int .i64 1)) h3 fun t6 h4 =>
mc t6 (fun k1 => none) (fun k1 =>
k1 .normal [(2, t2), (3, t3)] h4) (seqK (fun tT h5 =>
K0 .ret [(4, (.func (.func F.slices_Chunk_byte_1) #[] #[(get tT 2), (get tT 3)]))] h5) K0)

theorem s_slices_Chunk_byte_eq (M : CombL) (C : CallF) (LP : LoopH) (a0 : Value) (a1 : Value) (H : AHeap) : dBodyL M Try.prog hints C LP F.slices_Chunk_byte [a0, a1] H = s_slices_Chunk_byte M.b.g M.c M.s Try.prog C a0 a1 H (endK Try.prog [.tmp 4]) := by kernel_rfl

/-! ticketline.backup.four -/

noncomputable def s_backup_four (mg : GT) (mc : CT) (ms : ST) (P : Program) (C : CallF) (a0 : Value) (H : AHeap) (K0 : K) : Res :=
bareK (xbin P .shr T.uint32 (.tmp 3) (.const (.int .u64 24)) a0 (.int .u64 24)) H fun t4 h1 =>
bothK (xconv P T.uint32 T.uint8 t4 h1) fun t5 h2 =>
bareK (xbin P .shr T.uint32 (.tmp 6) (.const (.int .u64 16)) a0 (.int .u64 16)) h2 fun t7 h3 =>
bothK (xconv P T.uint32 T.uint8 t7 h3) fun t8 h4 =>
bareK (xbin P .shr T.uint32 (.tmp 9) (.const (.int .u64 8)) a0 (.int .u64 8)) h4 fun t10 h5 =>
bothK (xconv P T.uint32 T.uint8 t10 h5) fun t11 h6 =>
bothK (xconv P T.uint32 T.uint8 a0 h6) fun t13 h7 =>
bothK (bldL T.uint8 [(.int .u8 0)] 4 [(0, t5), (1, t8), (2, t11), (3, t13)] h7) fun t14 h8 =>
K0 .ret [(2, t14)] h8

theorem s_backup_four_eq (M : CombL) (C : CallF) (LP : LoopH) (a0 : Value) (H : AHeap) : dBodyL M Try.prog hints C LP F.backup_four [a0] H = s_backup_four M.b.g M.c M.s Try.prog C a0 H (endK Try.prog [.tmp 2]) := by kernel_rfl

/-! slices.Clone[[]byte,byte] -/

noncomputable def s_slices_Clone_byte (mg : GT) (mc : CT) (ms : ST) (P : Program) (C : CallF) (a0 : Value) (H : AHeap) (K0 : K) : Res :=
bareK (xbin P .eql T.sl_uint8 (.tmp 3) (.const (.slice none 0 0)) a0 (.slice none 0 0)) H fun t4 h1 =>
mc t4 (fun k1 => k1 .ret [(2, (.slice none 0 0))] h1) (fun k1 =>
k1 .normal [(0, a0)] h1) (seqK (fun tT h2 =>
bothK (bldL T.uint8 [(.int .u8 0)] 0 [] h2) fun t5 h3 =>
bothK (app T.uint8 1 1 t5 (srcS 1 (get tT 0) h3) h3) fun t7 h4 =>
K0 .ret [(2, t7)] h4) K0)

theorem s_slices_Clone_byte_eq (M : CombL) (C : CallF) (LP : LoopH) (a0 : Value) (H : AHeap) : dBodyL M Try.prog hints C LP F.slices_Clone_byte [a0] H = s_slices_Clone_byte M.b.g M.c M.s Try.prog C a0 H (endK Try.prog [.tmp 2]) := by kernel_rfl

/-! (*ticketline.model.Model).Put -/

noncomputable def s_model_Model_Put (mg : GT) (mc : CT) (ms : ST) (P : Program) (C : CallF) (a0 : Value) (a1 : Value) (a2 : Value) (H : AHeap) (K0 : K) : Res :=
bothK (bldL T.string [(.string (mk []))] 1 [(0, a2)] H) fun t14 h1 =>
enterK C F.model_Model_at [a0, a1, t14] h1 fun t15 h2 =>
bareK (xextract t15 0) h2 fun t16 h3 =>
bareK (xextract t15 1) h3 fun t17 h4 =>
bareK (xextract t15 2) h4 fun t18 h5 =>
bareK (xbin P .neq T.api_Errno (.tmp 19) (.const (.int .i64 0)) t18 (.int .i64 0)) h5 fun t20 h6 =>
mc t20 (fun k1 => k1 .ret [(6, t18)] h6) (fun k1 =>
k1 .normal [(0, a0), (1, a1), (2, a2), (7, t16), (8, t17)] h6) (seqK (fun tT h7 =>
bareK (bldS #[(.string (mk [])), (.string (mk []))] [(0, 1), (1, 1)] [(0, (get tT 1)), (1, (get tT 2))]) h7 fun t27 h8 =>
enterK C F.model_Model_set [(get tT 0), (get tT 7), (get tT 8), t27] h8 fun t28 h9 =>
K0 .ret [(6, t28)] h9) K0)

theorem s_model_Model_Put_eq (M : CombL) (C : CallF) (LP : LoopH) (a0 : Value) (a1 : Value) (a2 : Value) (H : AHeap) : dBodyL M Try.prog hints C LP F.model_Model_Put [a0, a1, a2] H = s_model_Model_Put M.b.g M.c M.s Try.prog C a0 a1 a2 H (endK Try.prog [.tmp 6]) := by kernel_rfl

/-! slices.Clone[[]ticketline.api.Pair,ticketline.api.Pair] -/

noncomputable def s_slices_Clone_Pair (mg : GT) (mc : CT) (ms : ST) (P : Program) (C : CallF) (a0 : Value) (H : AHeap) (K0 : K) : Res :=
bareK (xbin P .eql T.sl_api_Pair (.tmp 3) (.const (.slice none 0 0)) a0 (.slice none 0 0)) H fun t4 h1 =>
mc t4 (fun k1 => k1 .ret [(2, (.slice none 0 0))] h1) (fun k1 =>
k1 .normal [(0, a0)] h1) (seqK (fun tT h2 =>
bothK (bldL T.api_Pair [(.string (mk [])), (.string (mk []))] 0 [] h2) fun t5 h3 =>
bothK (app T.api_Pair 2 32 t5 (srcS 2 (get tT 0) h3) h3) fun t7 h4 =>
K0 .ret [(2, t7)] h4) K0)

theorem s_slices_Clone_Pair_eq (M : CombL) (C : CallF) (LP : LoopH) (a0 : Value) (H : AHeap) : dBodyL M Try.prog hints C LP F.slices_Clone_Pair [a0] H = s_slices_Clone_Pair M.b.g M.c M.s Try.prog C a0 H (endK Try.prog [.tmp 2]) := by kernel_rfl

/-! ticketline.ticketlinelaw48.read -/

noncomputable def s_law_read (mg : GT) (mc : CT) (ms : ST) (P : Program) (C : CallF) (L0 : Value → Value → Value → AHeap → K → Res) (L1 : Value → Value → Value → Value → Value → AHeap → K → Res) (L2 : Value → Value → Value → Value → Value → Value → Value → AHeap → K → Res) (a0 : Value) (H : AHeap) (K0 : K) : Res :=
bareK (lenS a0) H fun t15 h1 =>
bareK (xbin P .lss T.int (.tmp 15) (.const (.int .i64 7)) t15 (.int .i64 7)) h1 fun t16 h2 =>
mc t16 (fun k1 => k1 .ret [(2, (.slice none 0 0)), (3, (.bool false))] h2) (fun k1 =>
k1 .normal [(0, a0)] h2) (seqK (fun tT h3 =>
ms (fun k2 =>
L0 (get tT 0) (.int .i64 0) (.int .i64 3) h3 (blkK [0, 4] 0 k2)) (seqK (fun tT_1 h4 =>
bareK (lenS (get tT_1 0)) h4 fun t31 h5 =>
bareK (xbin P .gtr T.int (.tmp 29) (.tmp 31) (get tT_1 4) t31) h5 fun t32 h6 =>
mc t32 (fun k3 => k3 .ret [(2, (.slice none 0 0)), (3, (.bool false))] h6) (fun k3 =>
k3 .normal [(0, (get tT_1 0)), (4, (get tT_1 4))] h6) (seqK (fun tT_2 h7 =>
ms (fun k4 =>
L1 (get tT_2 0) (get tT_2 4) (.slice none 0 0) (.int .i64 7) (.int .i64 0) h7 (blkK [0, 6] 2 k4)) (seqK (fun tT_3 h8 =>
enterK C F.model_Of [(get tT_3 6)] h8 fun t128 h9 =>
bareK (xextract t128 0) h9 fun t129 h10 =>
bareK (xextract t128 1) h10 fun t130 h11 =>
bareK (xbin P .neq T.api_Errno (.tmp 131) (.const (.int .i64 0)) t130 (.int .i64 0)) h11 fun t132 h12 =>
mg t132 false (fun o5 => o5 (get tT_3 6) h12) h12 fun t134 h13 =>
mg t132 false (fun o6 => enterK C F.law_bytesOf [t134] h13 o6) h13 fun t135 h14 =>
mg t132 false (fun o7 => bothK (xconv P T.sl_uint8 T.string t135 h14) o7) h14 fun t136 h15 =>
mg t132 false (fun o8 => o8 (get tT_3 0) h15) h15 fun t137 h16 =>
mg t132 false (fun o9 => bothK (xconv P T.sl_uint8 T.string t137 h16) o9) h16 fun t138 h17 =>
mg t132 false (fun o10 => bareK (xbin P .neq T.string (.tmp 136) (.tmp 138) t136 t138) h17 o10) h17 fun t139 h18 =>
pickK t132 (.bool true) t139 fun t140 =>
checkK (okV (goesV t132 false) none h13 h14 h15 h16 && (okV (goesV t132 false) (blockOf t137) h13 h14 h16 h17 && true)) <|
mc t140 (fun k11 => k11 .ret [(2, (.slice none 0 0)), (3, (.bool false))] h18) (fun k11 =>
k11 .normal [(6, (get tT_3 6))] h18) (seqK (fun tT_4 h19 =>
K0 .ret [(2, (get tT_4 6)), (3, (.bool true))] h19) K0)) K0)) K0)) K0)) K0)

noncomputable def s_law_read_b0 (mg : GT) (mc : CT) (ms : ST) (P : Program) (C : CallF) (L0 : Value → Value → Value → AHeap → K → Res) (L1 : Value → Value → Value → Value → Value → AHeap → K → Res) (L2 : Value → Value → Value → Value → Value → Value → Value → AHeap → K → Res) (v0 : Value) (v4 : Value) (v5 : Value) (H : AHeap) (k : K) : Res :=
bareK (xbin P .lss T.int (.tmp 17) (.const (.int .i64 7)) v5 (.int .i64 7)) H fun t18 h4 =>
mc t18 (fun k3 => k3 .normal [(0, v0), (4, v4), (5, v5)] h4) (fun k3 =>
k3 (.exit 0) [(18, t18), (17, v5), (0, v0), (4, v4), (5, v5)] h4) (seqK (fun tT h5 =>
ms (fun k4 =>
bareK (xbin P .mul T.int (.const (.int .i64 256)) (.tmp 21) (.int .i64 256) (get tT 4)) h5 fun t22 h6 =>
bareK (ixS 1 (get tT 0) (get tT 5)) h6 fun t25 h7 =>
bareK (ld1 h7 t25) h7 fun t26 h8 =>
bothK (xconv P T.uint8 T.int t26 h8) fun t27 h9 =>
bareK (xbin P .add T.int (.tmp 22) (.tmp 27) t22 t27) h9 fun t28 h10 =>
k4 .normal [(0, (get tT 0)), (4, t28), (5, (get tT 5))] h10) (seqK (fun tT_1 h11 =>
bareK (xbin P .add T.int (.tmp 19) (.const (.int .i64 1)) (get tT_1 5) (.int .i64 1)) h11 fun t20 h12 =>
k .normal [(0, (get tT_1 0)), (4, (get tT_1 4)), (5, t20)] h12) (afterK [0, 4, 5] k))) (afterK [0, 4, 5] k))

noncomputable def s_law_read_b1 (mg : GT) (mc : CT) (ms : ST) (P : Program) (C : CallF) (L0 : Value → Value → Value → AHeap → K → Res) (L1 : Value → Value → Value → Value → Value → AHeap → K → Res) (L2 : Value → Value → Value → Value → Value → Value → Value → AHeap → K → Res) (v0 : Value) (v4 : Value) (v6 : Value) (v7 : Value) (v8 : Value) (H : AHeap) (k : K) : Res :=
bareK (xbin P .lss T.int (.tmp 33) (.tmp 34) v8 v4) H fun t35 h8 =>
mc t35 (fun k5 => k5 .normal [(0, v0), (4, v4), (6, v6), (7, v7), (8, v8)] h8) (fun k5 =>
k5 (.exit 2) [(35, t35), (34, v4), (33, v8), (0, v0), (4, v4), (6, v6), (7, v7), (8, v8)] h8) (seqK (fun tT h9 =>
ms (fun k6 =>
bareK (xbin P .gtr T.int (.tmp 38) (.const (.int .i64 0)) (get tT 8) (.int .i64 0)) h9 fun t39 h10 =>
mg t39 true (fun o7 => o7 (get tT 7) h10) h10 fun t41 h11 =>
mg t39 true (fun o8 => o8 (get tT 0) h11) h11 fun t42 h12 =>
mg t39 true (fun o9 => bareK (lenS t42) h12 o9) h12 fun t43 h13 =>
mg t39 true (fun o10 => bareK (xbin P .lss T.int (.tmp 41) (.tmp 43) t41 t43) h13 o10) h13 fun t44 h14 =>
pickK t39 t44 (.bool false) fun t45 =>
mg t45 true (fun o11 => o11 (get tT 0) h14) h14 fun t47 h15 =>
mg t45 true (fun o12 => o12 (get tT 7) h15) h15 fun t48 h16 =>
mg t45 true (fun o13 => bareK (ixS 1 t47 t48) h16 o13) h16 fun t49 h17 =>
mg t45 true (fun o14 => bareK (ld1 h17 t49) h17 o14) h17 fun t50 h18 =>
mg t45 true (fun o15 => bothK (xconv P T.uint8 T.int t50 h18) o15) h18 fun t51 h19 =>
mg t45 true (fun o16 => o16 (get tT 6) h19) h19 fun t52 h20 =>
mg t45 true (fun o17 => o17 (get tT 8) h20) h20 fun t53 h21 =>
mg t45 true (fun o18 => bareK (xbin P .sub T.int (.tmp 53) (.const (.int .i64 1)) t53 (.int .i64 1)) h21 o18) h21 fun t54 h22 =>
mg t45 true (fun o19 => bareK (ixS 2 t52 t54) h22 o19) h22 fun t55 h23 =>
mg t45 true (fun o20 => bareK (fad 0 t55) h23 o20) h23 fun t56 h24 =>
mg t45 true (fun o21 => bareK (ld1 h24 t56) h24 o21) h24 fun t57 h25 =>
mg t45 true (fun o22 => bareK (lenT t57) h25 o22) h25 fun t58 h26 =>
mg t45 true (fun o23 => bareK (xbin P .leq T.int (.tmp 51) (.tmp 58) t51 t58) h26 o23) h26 fun t59 h27 =>
pickK t45 t59 (.bool false) fun t60 =>
checkK true <|
mc t60 (fun k24 => bareK (xbin P .sub T.int (.tmp 62) (.const (.int .i64 1)) (get tT 8) (.int .i64 1)) h27 fun t63 h28 =>
bareK (ixS 2 (get tT 6) t63) h28 fun t64 h29 =>
bareK (fad 0 t64) h29 fun t65 h30 =>
bareK (ld1 h30 t65) h30 fun t66 h31 =>
bareK (ixS 1 (get tT 0) (get tT 7)) h31 fun t69 h32 =>
bareK (ld1 h32 t69) h32 fun t70 h33 =>
bareK (slT t66 none (some t70)) h33 fun t71 h34 =>
checkK true <|
k24 .normal [(0, (get tT 0)), (4, (get tT 4)), (6, (get tT 6)), (7, (get tT 7)), (8, (get tT 8)), (9, t71)] h34) (fun k24 =>
k24 .normal [(0, (get tT 0)), (4, (get tT 4)), (6, (get tT 6)), (7, (get tT 7)), (8, (get tT 8)), (9, (.string (mk [])))] h27) (seqK (fun tT_1 h35 =>
bareK (xbin P .add T.int (.tmp 72) (.const (.int .i64 1)) (get tT_1 7) (.int .i64 1)) h35 fun t73 h36 =>
ms (fun k25 =>
L2 (get tT_1 0) (get tT_1 4) (get tT_1 6) t73 (get tT_1 8) (get tT_1 9) (.int .i64 0) h36 (blkK [0, 4, 6, 7, 8] 4 k25)) (blkK [0, 4, 6, 7, 8] 3 k6)) (blkK [0, 4, 6, 7, 8] 3 k6))) (seqK (fun tT_2 h37 =>
bareK (xbin P .add T.int (.tmp 36) (.const (.int .i64 1)) (get tT_2 8) (.int .i64 1)) h37 fun t37 h38 =>
k .normal [(0, (get tT_2 0)), (4, (get tT_2 4)), (6, (get tT_2 6)), (7, (get tT_2 7)), (8, t37)] h38) (afterK [0, 4, 6, 7, 8] k))) (afterK [0, 4, 6, 7, 8] k))

noncomputable def s_law_read_b2 (mg : GT) (mc : CT) (ms : ST) (P : Program) (C : CallF) (L0 : Value → Value → Value → AHeap → K → Res) (L1 : Value → Value → Value → Value → Value → AHeap → K → Res) (L2 : Value → Value → Value → Value → Value → Value → Value → AHeap → K → Res) (v0 : Value) (v4 : Value) (v6 : Value) (v7 : Value) (v8 : Value) (v9 : Value) (v10 : Value) (H : AHeap) (k : K) : Res :=
bareK (xbin P .lss T.int (.tmp 74) (.const (.int .i64 2)) v10 (.int .i64 2)) H fun t75 h37 =>
mc t75 (fun k26 => k26 .normal [(0, v0), (4, v4), (6, v6), (7, v7), (8, v8), (9, v9), (10, v10)] h37) (fun k26 =>
k26 (.exit 4) [(75, t75), (74, v10), (0, v0), (4, v4), (6, v6), (7, v7), (8, v8), (9, v9), (10, v10)] h37) (seqK (fun tT h38 =>
ms (fun k27 =>
bareK (lenS (get tT 0)) h38 fun t80 h39 =>
bareK (xbin P .geq T.int (.tmp 78) (.tmp 80) (get tT 7) t80) h39 fun t81 h40 =>
mg t81 false (fun o28 => o28 (get tT 7) h40) h40 fun t83 h41 =>
mg t81 false (fun o29 => o29 (get tT 0) h41) h41 fun t84 h42 =>
mg t81 false (fun o30 => o30 (get tT 7) h42) h42 fun t85 h43 =>
mg t81 false (fun o31 => bareK (ixS 1 t84 t85) h43 o31) h43 fun t86 h44 =>
mg t81 false (fun o32 => bareK (ld1 h44 t86) h44 o32) h44 fun t87 h45 =>
mg t81 false (fun o33 => bothK (xconv P T.uint8 T.int t87 h45) o33) h45 fun t88 h46 =>
mg t81 false (fun o34 => bareK (xbin P .add T.int (.tmp 83) (.tmp 88) t83 t88) h46 o34) h46 fun t89 h47 =>
mg t81 false (fun o35 => o35 (get tT 0) h47) h47 fun t90 h48 =>
mg t81 false (fun o36 => bareK (lenS t90) h48 o36) h48 fun t91 h49 =>
mg t81 false (fun o37 => bareK (xbin P .geq T.int (.tmp 89) (.tmp 91) t89 t91) h49 o37) h49 fun t92 h50 =>
pickK t81 (.bool true) t92 fun t93 =>
mc t93 (fun k38 => k38 .ret [(2, (.slice none 0 0)), (3, (.bool false))] h50) (fun k38 =>
k38 .normal [(0, (get tT 0)), (4, (get tT 4)), (6, (get tT 6)), (7, (get tT 7)), (8, (get tT 8)), (9, (get tT 9)), (10, (get tT 10))] h50) (seqK (fun tT_1 h51 =>
bareK (xbin P .add T.int (.tmp 95) (.const (.int .i64 1)) (get tT_1 7) (.int .i64 1)) h51 fun t96 h52 =>
bareK (xbin P .add T.int (.tmp 97) (.const (.int .i64 1)) (get tT_1 7) (.int .i64 1)) h52 fun t98 h53 =>
bareK (ixS 1 (get tT_1 0) (get tT_1 7)) h53 fun t101 h54 =>
bareK (ld1 h54 t101) h54 fun t102 h55 =>
bothK (xconv P T.uint8 T.int t102 h55) fun t103 h56 =>
bareK (xbin P .add T.int (.tmp 98) (.tmp 103) t98 t103) h56 fun t104 h57 =>
bareK (slS T.uint8 1 (get tT_1 0) (some t96) (some t104) none h57) h57 fun t105 h58 =>
bothK (xconv P T.sl_uint8 T.string t105 h58) fun t106 h59 =>
bareK (xbin P .add T.int (.tmp 107) (.const (.int .i64 1)) (get tT_1 7) (.int .i64 1)) h59 fun t108 h60 =>
bareK (lenT t106) h60 fun t110 h61 =>
bareK (xbin P .add T.int (.tmp 108) (.tmp 110) t108 t110) h61 fun t111 h62 =>
bareK (xbin P .eql T.int (.tmp 112) (.const (.int .i64 0)) (get tT_1 10) (.int .i64 0)) h62 fun t113 h63 =>
mc t113 (fun k39 => bareK (xbin P .add T.string (.tmp 115) (.tmp 116) (get tT_1 9) t106) h63 fun t117 h64 =>
bareK (bldS #[(.string (mk [])), (.string (mk []))] [(0, 1), (1, 1)] [(0, t117)]) h64 fun t118 h65 =>
bothK (bldL T.api_Pair [(.string (mk [])), (.string (mk []))] 1 [(0, t118)] h65) fun t119 h66 =>
bothK (app T.api_Pair 2 32 (get tT_1 6) (srcS 2 t119 h66) h66) fun t120 h67 =>
k39 .normal [(0, (get tT_1 0)), (4, (get tT_1 4)), (6, t120), (7, t111), (8, (get tT_1 8)), (9, (get tT_1 9)), (10, (get tT_1 10))] h67) (fun k39 =>
bareK (ixS 2 (get tT_1 6) (get tT_1 8)) h63 fun t124 h68 =>
bareK (fad 1 t124) h68 fun t125 h69 =>
quietK (st1 h69 t125 t106) fun _ h70 =>
k39 .normal [(0, (get tT_1 0)), (4, (get tT_1 4)), (6, (get tT_1 6)), (7, t111), (8, (get tT_1 8)), (9, (get tT_1 9)), (10, (get tT_1 10))] h70) (blkK [0, 4, 6, 7, 8, 9, 10] 5 k27)) (blkK [0, 4, 6, 7, 8, 9, 10] 5 k27))) (seqK (fun tT_2 h71 =>
bareK (xbin P .add T.int (.tmp 76) (.const (.int .i64 1)) (get tT_2 10) (.int .i64 1)) h71 fun t77 h72 =>
k .normal [(0, (get tT_2 0)), (4, (get tT_2 4)), (6, (get tT_2 6)), (7, (get tT_2 7)), (8, (get tT_2 8)), (9, (get tT_2 9)), (10, t77)] h72) (afterK [0, 4, 6, 7, 8, 9, 10] k))) (afterK [0, 4, 6, 7, 8, 9, 10] k))

theorem s_law_read_eq (M : CombL) (C : CallF) (LP : LoopH) (a0 : Value) (H : AHeap) : dBodyL M Try.prog hints C LP F.law_read [a0] H = s_law_read M.b.g M.c M.s Try.prog C (fun v0 v4 v5 H k => loopL M Try.prog hints C LP F.law_read 0 [(0, v0), (4, v4), (5, v5)] H k) (fun v0 v4 v6 v7 v8 H k => loopL M Try.prog hints C LP F.law_read 1 [(0, v0), (4, v4), (6, v6), (7, v7), (8, v8)] H k) (fun v0 v4 v6 v7 v8 v9 v10 H k => loopL M Try.prog hints C LP F.law_read 2 [(0, v0), (4, v4), (6, v6), (7, v7), (8, v8), (9, v9), (10, v10)] H k) a0 H (endK Try.prog [.tmp 2, .tmp 3]) := by kernel_rfl

theorem s_law_read_b0_eq (M : CombL) (C : CallF) (LP : LoopH) (v0 : Value) (v4 : Value) (v5 : Value) (H : AHeap) (k : K) : bodyL M Try.prog hints C LP F.law_read 0 [(0, v0), (4, v4), (5, v5)] H (afterK [0, 4, 5] k) = s_law_read_b0 M.b.g M.c M.s Try.prog C (fun v0 v4 v5 H k => loopL M Try.prog hints C LP F.law_read 0 [(0, v0), (4, v4), (5, v5)] H k) (fun v0 v4 v6 v7 v8 H k => loopL M Try.prog hints C LP F.law_read 1 [(0, v0), (4, v4), (6, v6), (7, v7), (8, v8)] H k) (fun v0 v4 v6 v7 v8 v9 v10 H k => loopL M Try.prog hints C LP F.law_read 2 [(0, v0), (4, v4), (6, v6), (7, v7), (8, v8), (9, v9), (10, v10)] H k) v0 v4 v5 H k := by kernel_rfl

theorem s_law_read_b1_eq (M : CombL) (C : CallF) (LP : LoopH) (v0 : Value) (v4 : Value) (v6 : Value) (v7 : Value) (v8 : Value) (H : AHeap) (k : K) : bodyL M Try.prog hints C LP F.law_read 1 [(0, v0), (4, v4), (6, v6), (7, v7), (8, v8)] H (afterK [0, 4, 6, 7, 8] k) = s_law_read_b1 M.b.g M.c M.s Try.prog C (fun v0 v4 v5 H k => loopL M Try.prog hints C LP F.law_read 0 [(0, v0), (4, v4), (5, v5)] H k) (fun v0 v4 v6 v7 v8 H k => loopL M Try.prog hints C LP F.law_read 1 [(0, v0), (4, v4), (6, v6), (7, v7), (8, v8)] H k) (fun v0 v4 v6 v7 v8 v9 v10 H k => loopL M Try.prog hints C LP F.law_read 2 [(0, v0), (4, v4), (6, v6), (7, v7), (8, v8), (9, v9), (10, v10)] H k) v0 v4 v6 v7 v8 H k := by kernel_rfl

theorem s_law_read_b2_eq (M : CombL) (C : CallF) (LP : LoopH) (v0 : Value) (v4 : Value) (v6 : Value) (v7 : Value) (v8 : Value) (v9 : Value) (v10 : Value) (H : AHeap) (k : K) : bodyL M Try.prog hints C LP F.law_read 2 [(0, v0), (4, v4), (6, v6), (7, v7), (8, v8), (9, v9), (10, v10)] H (afterK [0, 4, 6, 7, 8, 9, 10] k) = s_law_read_b2 M.b.g M.c M.s Try.prog C (fun v0 v4 v5 H k => loopL M Try.prog hints C LP F.law_read 0 [(0, v0), (4, v4), (5, v5)] H k) (fun v0 v4 v6 v7 v8 H k => loopL M Try.prog hints C LP F.law_read 1 [(0, v0), (4, v4), (6, v6), (7, v7), (8, v8)] H k) (fun v0 v4 v6 v7 v8 v9 v10 H k => loopL M Try.prog hints C LP F.law_read 2 [(0, v0), (4, v4), (6, v6), (7, v7), (8, v8), (9, v9), (10, v10)] H k) v0 v4 v6 v7 v8 v9 v10 H k := by kernel_rfl

/-! ticketline.keys.Prefix -/

noncomputable def s_keys_Prefix (mg : GT) (mc : CT) (ms : ST) (P : Program) (C : CallF) (L0 : Value → Value → Value → AHeap → K → Res) (a0 : Value) (a1 : Value) (H : AHeap) (K0 : K) : Res :=
ms (fun k1 =>
L0 a0 a1 (.int .i64 0) H (blkK [5] 0 k1)) (seqK (fun tT h1 =>
K0 .ret [(4, (get tT 5))] h1) K0)

noncomputable def s_keys_Prefix_b0 (mg : GT) (mc : CT) (ms : ST) (P : Program) (C : CallF) (L0 : Value → Value → Value → AHeap → K → Res) (v0 : Value) (v1 : Value) (v5 : Value) (H : AHeap) (k : K) : Res :=
bareK (lenT v0) H fun t8 h1 =>
bareK (xbin P .lss T.int (.tmp 6) (.tmp 8) v5 t8) h1 fun t9 h2 =>
mg t9 true (fun o2 => o2 v5 h2) h2 fun t11 h3 =>
mg t9 true (fun o3 => o3 v1 h3) h3 fun t12 h4 =>
mg t9 true (fun o4 => bareK (lenT t12) h4 o4) h4 fun t13 h5 =>
mg t9 true (fun o5 => bareK (xbin P .lss T.int (.tmp 11) (.tmp 13) t11 t13) h5 o5) h5 fun t14 h6 =>
pickK t9 t14 (.bool false) fun t15 =>
mg t15 true (fun o6 => o6 v0 h6) h6 fun t17 h7 =>
mg t15 true (fun o7 => o7 v5 h7) h7 fun t18 h8 =>
mg t15 true (fun o8 => bareK (xindex P T.string t17 t18) h8 o8) h8 fun t19 h9 =>
mg t15 true (fun o9 => o9 v1 h9) h9 fun t20 h10 =>
mg t15 true (fun o10 => o10 v5 h10) h10 fun t21 h11 =>
mg t15 true (fun o11 => bareK (xindex P T.string t20 t21) h11 o11) h11 fun t22 h12 =>
mg t15 true (fun o12 => bareK (xbin P .eql T.uint8 (.tmp 19) (.tmp 22) t19 t22) h12 o12) h12 fun t23 h13 =>
pickK t15 t23 (.bool false) fun t24 =>
checkK true <|
mc t24 (fun k13 => k13 .normal [(0, v0), (1, v1), (5, v5)] h13) (fun k13 =>
k13 (.exit 0) [(24, t24), (23, t23), (22, t22), (21, t21), (20, t20), (19, t19), (18, t18), (17, t17), (16, t15), (15, t15), (14, t14), (13, t13), (12, t12), (11, t11), (10, t9), (9, t9), (8, t8), (7, v0), (6, v5), (0, v0), (1, v1), (5, v5)] h13) (seqK (fun tT h14 =>
ms (fun k14 =>
bareK (xbin P .add T.int (.tmp 25) (.const (.int .i64 1)) (get tT 5) (.int .i64 1)) h14 fun t26 h15 =>
k14 .normal [(0, (get tT 0)), (1, (get tT 1)), (5, t26)] h15) (afterK [0, 1, 5] k)) (afterK [0, 1, 5] k))

theorem s_keys_Prefix_eq (M : CombL) (C : CallF) (LP : LoopH) (a0 : Value) (a1 : Value) (H : AHeap) : dBodyL M Try.prog hints C LP F.keys_Prefix [a0, a1] H = s_keys_Prefix M.b.g M.c M.s Try.prog C (fun v0 v1 v5 H k => loopL M Try.prog hints C LP F.keys_Prefix 0 [(0, v0), (1, v1), (5, v5)] H k) a0 a1 H (endK Try.prog [.tmp 4]) := by kernel_rfl

theorem s_keys_Prefix_b0_eq (M : CombL) (C : CallF) (LP : LoopH) (v0 : Value) (v1 : Value) (v5 : Value) (H : AHeap) (k : K) : bodyL M Try.prog hints C LP F.keys_Prefix 0 [(0, v0), (1, v1), (5, v5)] H (afterK [0, 1, 5] k) = s_keys_Prefix_b0 M.b.g M.c M.s Try.prog C (fun v0 v1 v5 H k => loopL M Try.prog hints C LP F.keys_Prefix 0 [(0, v0), (1, v1), (5, v5)] H k) v0 v1 v5 H k := by kernel_rfl

/-! (*ticketline.model.Model).Len -/

noncomputable def s_model_Model_Len (mg : GT) (mc : CT) (ms : ST) (P : Program) (C : CallF) (a0 : Value) (H : AHeap) (K0 : K) : Res :=
bareK (xbin P .eql T.p_model_Model (.tmp 3) (.const (.pointer none)) a0 (.pointer none)) H fun t4 h1 =>
mc t4 (fun k1 => k1 .ret [(2, (.int .i64 0))] h1) (fun k1 =>
k1 .normal [(0, a0)] h1) (seqK (fun tT h2 =>
bareK (xnilCheck (get tT 0)) h2 fun t6 h3 =>
bareK (fad 0 t6) h3 fun t7 h4 =>
bareK (ld1 h4 t7) h4 fun t8 h5 =>
bareK (lenS t8) h5 fun t9 h6 =>
K0 .ret [(2, t9)] h6) K0)

theorem s_model_Model_Len_eq (M : CombL) (C : CallF) (LP : LoopH) (a0 : Value) (H : AHeap) : dBodyL M Try.prog hints C LP F.model_Model_Len [a0] H = s_model_Model_Len M.b.g M.c M.s Try.prog C a0 H (endK Try.prog [.tmp 2]) := by kernel_rfl

/-! slices.Equal[[]ticketline.api.Pair,ticketline.api.Pair] -/

noncomputable def s_slices_Equal_Pair (mg : GT) (mc : CT) (ms : ST) (P : Program) (C : CallF) (L0 : Value → Value → Value → Value → AHeap → K → Res) (a0 : Value) (a1 : Value) (H : AHeap) (K0 : K) : Res :=
bareK (lenS a0) H fun t7 h1 =>
bareK (lenS a1) h1 fun t9 h2 =>
bareK (xbin P .neq T.int (.tmp 7) (.tmp 9) t7 t9) h2 fun t10 h3 =>
mc t10 (fun k1 => k1 .ret [(4, (.bool false))] h3) (fun k1 =>
k1 .normal [(0, a0), (1, a1)] h3) (seqK (fun tT h4 =>
bareK (lenS (get tT 0)) h4 fun t12 h5 =>
ms (fun k2 =>
L0 (get tT 0) (get tT 1) t12 (.int .i64 0) h5 (blkK [] 0 k2)) (seqK (fun tT_1 h6 =>
K0 .ret [(4, (.bool true))] h6) K0)) K0)

noncomputable def s_slices_Equal_Pair_b0 (mg : GT) (mc : CT) (ms : ST) (P : Program) (C : CallF) (L0 : Value → Value → Value → Value → AHeap → K → Res) (v0 : Value) (v1 : Value) (v12 : Value) (v13 : Value) (H : AHeap) (k : K) : Res :=
bareK (xbin P .lss T.int (.tmp 13) (.tmp 12) v13 v12) H fun t14 h6 =>
mc t14 (fun k3 => k3 .normal [(0, v0), (1, v1), (12, v12), (13, v13)] h6) (fun k3 =>
k3 (.exit 0) [(14, t14), (0, v0), (1, v1), (12, v12), (13, v13)] h6) (seqK (fun tT h7 =>
ms (fun k4 =>
bareK (ixS 2 (get tT 0) (get tT 13)) h7 fun t18 h8 =>
bareK (ldN 2 h8 t18) h8 fun t19 h9 =>
bareK (ixS 2 (get tT 1) (get tT 13)) h9 fun t22 h10 =>
bareK (ldN 2 h10 t22) h10 fun t23 h11 =>
bareK (xbin P .neq T.api_Pair (.tmp 19) (.tmp 23) t19 t23) h11 fun t24 h12 =>
checkK true <|
mc t24 (fun k5 => k5 .ret [(4, (.bool false))] h12) (fun k5 =>
k5 .normal [(0, (get tT 0)), (1, (get tT 1)), (12, (get tT 12)), (13, (get tT 13))] h12) (blkK [0, 1, 12, 13] 1 k4)) (seqK (fun tT_1 h13 =>
bareK (xbin P .add T.int (.tmp 13) (.const (.int .i64 1)) (get tT_1 13) (.int .i64 1)) h13 fun t25 h14 =>
k .normal [(0, (get tT_1 0)), (1, (get tT_1 1)), (12, (get tT_1 12)), (13, t25)] h14) (afterK [0, 1, 12, 13] k))) (afterK [0, 1, 12, 13] k))

theorem s_slices_Equal_Pair_eq (M : CombL) (C : CallF) (LP : LoopH) (a0 : Value) (a1 : Value) (H : AHeap) : dBodyL M Try.prog hints C LP F.slices_Equal_Pair [a0, a1] H = s_slices_Equal_Pair M.b.g M.c M.s Try.prog C (fun v0 v1 v12 v13 H k => loopL M Try.prog hints C LP F.slices_Equal_Pair 0 [(0, v0), (1, v1), (12, v12), (13, v13)] H k) a0 a1 H (endK Try.prog [.tmp 4]) := by kernel_rfl

theorem s_slices_Equal_Pair_b0_eq (M : CombL) (C : CallF) (LP : LoopH) (v0 : Value) (v1 : Value) (v12 : Value) (v13 : Value) (H : AHeap) (k : K) : bodyL M Try.prog hints C LP F.slices_Equal_Pair 0 [(0, v0), (1, v1), (12, v12), (13, v13)] H (afterK [0, 1, 12, 13] k) = s_slices_Equal_Pair_b0 M.b.g M.c M.s Try.prog C (fun v0 v1 v12 v13 H k => loopL M Try.prog hints C LP F.slices_Equal_Pair 0 [(0, v0), (1, v1), (12, v12), (13, v13)] H k) v0 v1 v12 v13 H k := by kernel_rfl

/-! ticketline.backup.number -/

noncomputable def s_backup_number (mg : GT) (mc : CT) (ms : ST) (P : Program) (C : CallF) (L0 : Value → Value → Value → Value → AHeap → K → Res) (a0 : Value) (H : AHeap) (K0 : K) : Res :=
bareK (lenS a0) H fun t7 h1 =>
ms (fun k1 =>
L0 (.int .u32 0) a0 t7 (.int .i64 0) h1 (blkK [3] 0 k1)) (seqK (fun tT h2 =>
K0 .ret [(2, (get tT 3))] h2) K0)

noncomputable def s_backup_number_b0 (mg : GT) (mc : CT) (ms : ST) (P : Program) (C : CallF) (L0 : Value → Value → Value → Value → AHeap → K → Res) (v3 : Value) (v6 : Value) (v7 : Value) (v8 : Value) (H : AHeap) (k : K) : Res :=
bareK (xbin P .lss T.int (.tmp 8) (.tmp 7) v8 v7) H fun t9 h2 =>
mc t9 (fun k2 => k2 .normal [(3, v3), (6, v6), (7, v7), (8, v8)] h2) (fun k2 =>
k2 (.exit 0) [(9, t9), (3, v3), (6, v6), (7, v7), (8, v8)] h2) (seqK (fun tT h3 =>
ms (fun k3 =>
bareK (ixS 1 (get tT 6) (get tT 8)) h3 fun t10 h4 =>
bareK (ld1 h4 t10) h4 fun t11 h5 =>
bareK (xbin P .shl T.uint32 (.tmp 12) (.const (.int .u64 8)) (get tT 3) (.int .u64 8)) h5 fun t13 h6 =>
bothK (xconv P T.uint8 T.uint32 t11 h6) fun t15 h7 =>
bareK (xbin P .or T.uint32 (.tmp 13) (.tmp 15) t13 t15) h7 fun t16 h8 =>
k3 .normal [(3, t16), (6, (get tT 6)), (7, (get tT 7)), (8, (get tT 8))] h8) (seqK (fun tT_1 h9 =>
bareK (xbin P .add T.int (.tmp 8) (.const (.int .i64 1)) (get tT_1 8) (.int .i64 1)) h9 fun t17 h10 =>
k .normal [(3, (get tT_1 3)), (6, (get tT_1 6)), (7, (get tT_1 7)), (8, t17)] h10) (afterK [3, 6, 7, 8] k))) (afterK [3, 6, 7, 8] k))

theorem s_backup_number_eq (M : CombL) (C : CallF) (LP : LoopH) (a0 : Value) (H : AHeap) : dBodyL M Try.prog hints C LP F.backup_number [a0] H = s_backup_number M.b.g M.c M.s Try.prog C (fun v3 v6 v7 v8 H k => loopL M Try.prog hints C LP F.backup_number 0 [(3, v3), (6, v6), (7, v7), (8, v8)] H k) a0 H (endK Try.prog [.tmp 2]) := by kernel_rfl

theorem s_backup_number_b0_eq (M : CombL) (C : CallF) (LP : LoopH) (v3 : Value) (v6 : Value) (v7 : Value) (v8 : Value) (H : AHeap) (k : K) : bodyL M Try.prog hints C LP F.backup_number 0 [(3, v3), (6, v6), (7, v7), (8, v8)] H (afterK [3, 6, 7, 8] k) = s_backup_number_b0 M.b.g M.c M.s Try.prog C (fun v3 v6 v7 v8 H k => loopL M Try.prog hints C LP F.backup_number 0 [(3, v3), (6, v6), (7, v7), (8, v8)] H k) v3 v6 v7 v8 H k := by kernel_rfl

/-! ticketline.backup.take -/

noncomputable def s_backup_take (mg : GT) (mc : CT) (ms : ST) (P : Program) (C : CallF) (a0 : Value) (H : AHeap) (K0 : K) : Res :=
bareK (lenS a0) H fun t7 h1 =>
bareK (xbin P .eql T.int (.tmp 7) (.const (.int .i64 0)) t7 (.int .i64 0)) h1 fun t8 h2 =>
mg t8 false (fun o1 => o1 a0 h2) h2 fun t10 h3 =>
mg t8 false (fun o2 => bareK (lenS t10) h3 o2) h3 fun t11 h4 =>
mg t8 false (fun o3 => o3 a0 h4) h4 fun t12 h5 =>
mg t8 false (fun o4 => bareK (ixS 1 t12 (.int .i64 0)) h5 o4) h5 fun t13 h6 =>
mg t8 false (fun o5 => bareK (ld1 h6 t13) h6 o5) h6 fun t14 h7 =>
mg t8 false (fun o6 => bothK (xconv P T.uint8 T.int t14 h7) o6) h7 fun t15 h8 =>
mg t8 false (fun o7 => bareK (xbin P .leq T.int (.tmp 11) (.tmp 15) t11 t15) h8 o7) h8 fun t16 h9 =>
pickK t8 (.bool true) t16 fun t17 =>
mc t17 (fun k8 => k8 .ret [(2, (.string (mk []))), (3, (.slice none 0 0)), (4, (.bool false))] h9) (fun k8 =>
k8 .normal [(0, a0)] h9) (seqK (fun tT h10 =>
bareK (ixS 1 (get tT 0) (.int .i64 0)) h10 fun t19 h11 =>
bareK (ld1 h11 t19) h11 fun t20 h12 =>
bothK (xconv P T.uint8 T.int t20 h12) fun t21 h13 =>
bareK (xbin P .add T.int (.const (.int .i64 1)) (.tmp 21) (.int .i64 1) t21) h13 fun t22 h14 =>
bareK (slS T.uint8 1 (get tT 0) (some (.int .i64 1)) (some t22) none h14) h14 fun t25 h15 =>
bothK (xconv P T.sl_uint8 T.string t25 h15) fun t26 h16 =>
bareK (slS T.uint8 1 (get tT 0) (some t22) none none h16) h16 fun t29 h17 =>
checkK true <|
K0 .ret [(2, t26), (3, t29), (4, (.bool true))] h17) K0)

theorem s_backup_take_eq (M : CombL) (C : CallF) (LP : LoopH) (a0 : Value) (H : AHeap) : dBodyL M Try.prog hints C LP F.backup_take [a0] H = s_backup_take M.b.g M.c M.s Try.prog C a0 H (endK Try.prog [.tmp 2, .tmp 3, .tmp 4]) := by kernel_rfl

/-! (*ticketline.model.Model).Insert -/

noncomputable def s_model_Model_Insert (mg : GT) (mc : CT) (ms : ST) (P : Program) (C : CallF) (a0 : Value) (a1 : Value) (a2 : Value) (H : AHeap) (K0 : K) : Res :=
bothK (bldL T.string [(.string (mk []))] 1 [(0, a2)] H) fun t14 h1 =>
enterK C F.model_Model_at [a0, a1, t14] h1 fun t15 h2 =>
bareK (xextract t15 0) h2 fun t16 h3 =>
bareK (xextract t15 1) h3 fun t17 h4 =>
bareK (xextract t15 2) h4 fun t18 h5 =>
ms (fun k1 =>
bareK (xbin P .neq T.api_Errno (.tmp 20) (.const (.int .i64 0)) t18 (.int .i64 0)) h5 fun t21 h6 =>
mc t21 (fun k2 => k2 .ret [(6, t18)] h6) (fun k2 =>
mc t17 (fun k3 => k3 .ret [(6, (.int .i64 11))] h6) (fun k3 =>
k3 .normal [(0, a0), (1, a1), (2, a2), (7, t16)] h6) (afterK [0, 1, 2, 7] k2)) (blkK [0, 1, 2, 7] 0 k1)) (seqK (fun tT h7 =>
bareK (bldS #[(.string (mk [])), (.string (mk []))] [(0, 1), (1, 1)] [(0, (get tT 1)), (1, (get tT 2))]) h7 fun t29 h8 =>
enterK C F.model_Model_set [(get tT 0), (get tT 7), (.bool false), t29] h8 fun t30 h9 =>
K0 .ret [(6, t30)] h9) K0)

theorem s_model_Model_Insert_eq (M : CombL) (C : CallF) (LP : LoopH) (a0 : Value) (a1 : Value) (a2 : Value) (H : AHeap) : dBodyL M Try.prog hints C LP F.model_Model_Insert [a0, a1, a2] H = s_model_Model_Insert M.b.g M.c M.s Try.prog C a0 a1 a2 H (endK Try.prog [.tmp 6]) := by kernel_rfl

/-! bytes.Equal -/

noncomputable def s_bytes_Equal (mg : GT) (mc : CT) (ms : ST) (P : Program) (C : CallF) (a0 : Value) (a1 : Value) (H : AHeap) (K0 : K) : Res :=
bothK (xconv P T.sl_uint8 T.string a0 H) fun t6 h1 =>
bothK (xconv P T.sl_uint8 T.string a1 h1) fun t8 h2 =>
bareK (xbin P .eql T.string (.tmp 6) (.tmp 8) t6 t8) h2 fun t9 h3 =>
K0 .ret [(4, t9)] h3

theorem s_bytes_Equal_eq (M : CombL) (C : CallF) (LP : LoopH) (a0 : Value) (a1 : Value) (H : AHeap) : dBodyL M Try.prog hints C LP F.bytes_Equal [a0, a1] H = s_bytes_Equal M.b.g M.c M.s Try.prog C a0 a1 H (endK Try.prog [.tmp 4]) := by kernel_rfl

/-! ticketline.model.check -/

noncomputable def s_model_check (mg : GT) (mc : CT) (ms : ST) (P : Program) (C : CallF) (a0 : Value) (a1 : Value) (H : AHeap) (K0 : K) : Res :=
ms (fun k1 =>
bareK (xbin P .eql T.string (.tmp 6) (.const (.string (mk []))) a0 (.string (mk []))) H fun t7 h1 =>
mc t7 (fun k2 => k2 .ret [(4, (.int .i64 2))] h1) (fun k2 =>
bareK (lenT a0) h1 fun t10 h2 =>
bareK (xbin P .gtr T.int (.tmp 10) (.const (.int .i64 24)) t10 (.int .i64 24)) h2 fun t11 h3 =>
mg t11 false (fun o3 => o3 a1 h3) h3 fun t13 h4 =>
mg t11 false (fun o4 => enterK C F.slices_ContainsFunc_string [t13, (.func (.func F.model_check_1) #[] #[])] h4 o4) h4 fun t14 h5 =>
pickK t11 (.bool true) t14 fun t15 =>
mc t15 (fun k5 => k5 .ret [(4, (.int .i64 5))] h5) (fun k5 =>
k5 .normal [] h5) (afterK [] k2)) (blkK [] 0 k1)) (seqK (fun tT h6 =>
K0 .ret [(4, (.int .i64 0))] h6) K0)

theorem s_model_check_eq (M : CombL) (C : CallF) (LP : LoopH) (a0 : Value) (a1 : Value) (H : AHeap) : dBodyL M Try.prog hints C LP F.model_check [a0, a1] H = s_model_check M.b.g M.c M.s Try.prog C a0 a1 H (endK Try.prog [.tmp 4]) := by kernel_rfl

/-! ticketline.keys.Compare -/

noncomputable def s_keys_Compare (mg : GT) (mc : CT) (ms : ST) (P : Program) (C : CallF) (a0 : Value) (a1 : Value) (H : AHeap) (K0 : K) : Res :=
enterK C F.strings_Compare [a0, a1] H fun t7 h1 =>
K0 .ret [(4, t7)] h1

theorem s_keys_Compare_eq (M : CombL) (C : CallF) (LP : LoopH) (a0 : Value) (a1 : Value) (H : AHeap) : dBodyL M Try.prog hints C LP F.keys_Compare [a0, a1] H = s_keys_Compare M.b.g M.c M.s Try.prog C a0 a1 H (endK Try.prog [.tmp 4]) := by kernel_rfl

/-! slices.Chunk[[]byte,byte]$1 -/

noncomputable def s_slices_Chunk_byte_1 (mg : GT) (mc : CT) (ms : ST) (P : Program) (C : CallF) (L0 : Value → Value → Value → Value → AHeap → K → Res) (a0 : Value) (a1 : Value) (a2 : Value) (H : AHeap) (K0 : K) : Res :=
ms (fun k1 =>
L0 a0 a1 a2 (.int .i64 0) H (blkK [] 0 k1)) K0

noncomputable def s_slices_Chunk_byte_1_b0 (mg : GT) (mc : CT) (ms : ST) (P : Program) (C : CallF) (L0 : Value → Value → Value → Value → AHeap → K → Res) (v0 : Value) (v1 : Value) (v2 : Value) (v4 : Value) (H : AHeap) (k : K) : Res :=
bareK (ld1 H v1) H fun t7 h1 =>
bareK (lenS t7) h1 fun t8 h2 =>
bareK (xbin P .lss T.int (.tmp 6) (.tmp 8) v4 t8) h2 fun t9 h3 =>
mc t9 (fun k2 => k2 .normal [(0, v0), (1, v1), (2, v2), (4, v4)] h3) (fun k2 =>
k2 (.exit 0) [(9, t9), (8, t8), (7, t7), (6, v4), (0, v0), (1, v1), (2, v2), (4, v4)] h3) (seqK (fun tT h4 =>
ms (fun k3 =>
bareK (ld1 h4 (get tT 2)) h4 fun t13 h5 =>
bareK (ld1 h5 (get tT 1)) h5 fun t14 h6 =>
bareK (slS T.uint8 1 t14 (some (get tT 4)) none none h6) h6 fun t16 h7 =>
bareK (lenS t16) h7 fun t17 h8 =>
nextK C h8 (xbuiltin P .min [T.int, T.int] [t13, t17] h8) fun t18 h9 =>
checkK true <|
bareK (ld1 h9 (get tT 1)) h9 fun t20 h10 =>
bareK (xbin P .add T.int (.tmp 22) (.tmp 23) (get tT 4) t18) h10 fun t24 h11 =>
bareK (xbin P .add T.int (.tmp 25) (.tmp 26) (get tT 4) t18) h11 fun t27 h12 =>
bareK (slS T.uint8 1 t20 (some (get tT 4)) (some t24) (some t27) h12) h12 fun t28 h13 =>
callK P C (get tT 0) [t28] h13 fun t29 h14 =>
bareK (xun P .not t29) h14 fun t30 h15 =>
mc t30 (fun k4 => k4 .ret [] h15) (fun k4 =>
k4 .normal [(0, (get tT 0)), (1, (get tT 1)), (2, (get tT 2)), (4, (get tT 4))] h15) (blkK [0, 1, 2, 4] 1 k3)) (seqK (fun tT_1 h16 =>
bareK (ld1 h16 (get tT_1 2)) h16 fun t11 h17 =>
bareK (xbin P .add T.int (.tmp 10) (.tmp 11) (get tT_1 4) t11) h17 fun t12 h18 =>
k .normal [(0, (get tT_1 0)), (1, (get tT_1 1)), (2, (get tT_1 2)), (4, t12)] h18) (afterK [0, 1, 2, 4] k))) (afterK [0, 1, 2, 4] k))

theorem s_slices_Chunk_byte_1_eq (M : CombL) (C : CallF) (LP : LoopH) (a0 : Value) (a1 : Value) (a2 : Value) (H : AHeap) : dBodyL M Try.prog hints C LP F.slices_Chunk_byte_1 [a0, a1, a2] H = s_slices_Chunk_byte_1 M.b.g M.c M.s Try.prog C (fun v0 v1 v2 v4 H k => loopL M Try.prog hints C LP F.slices_Chunk_byte_1 0 [(0, v0), (1, v1), (2, v2), (4, v4)] H k) a0 a1 a2 H (endK Try.prog []) := by kernel_rfl

theorem s_slices_Chunk_byte_1_b0_eq (M : CombL) (C : CallF) (LP : LoopH) (v0 : Value) (v1 : Value) (v2 : Value) (v4 : Value) (H : AHeap) (k : K) : bodyL M Try.prog hints C LP F.slices_Chunk_byte_1 0 [(0, v0), (1, v1), (2, v2), (4, v4)] H (afterK [0, 1, 2, 4] k) = s_slices_Chunk_byte_1_b0 M.b.g M.c M.s Try.prog C (fun v0 v1 v2 v4 H k => loopL M Try.prog hints C LP F.slices_Chunk_byte_1 0 [(0, v0), (1, v1), (2, v2), (4, v4)] H k) v0 v1 v2 v4 H k := by kernel_rfl

/-! (*ticketline.model.Model).at -/

noncomputable def s_model_Model_at (mg : GT) (mc : CT) (ms : ST) (P : Program) (C : CallF) (a0 : Value) (a1 : Value) (a2 : Value) (H : AHeap) (K0 : K) : Res :=
bareK (xbin P .eql T.p_model_Model (.tmp 13) (.const (.pointer none)) a0 (.pointer none)) H fun t14 h1 =>
mc t14 (fun k1 => k1 .ret [(6, (.int .i64 0)), (7, (.bool false)), (8, (.int .i64 1))] h1) (fun k1 =>
k1 .normal [(0, a0), (1, a1), (2, a2)] h1) (seqK (fun tT h2 =>
enterK C F.model_check [(get tT 1), (get tT 2)] h2 fun t17 h3 =>
bareK (xbin P .neq T.api_Errno (.tmp 18) (.const (.int .i64 0)) t17 (.int .i64 0)) h3 fun t19 h4 =>
mc t19 (fun k2 => k2 .ret [(6, (.int .i64 0)), (7, (.bool false)), (8, t17)] h4) (fun k2 =>
k2 .normal [(0, (get tT 0)), (1, (get tT 1))] h4) (seqK (fun tT_1 h5 =>
callK P C (.func (.func F.model_Model_place) #[(get tT_1 0)] #[]) [(get tT_1 1)] h5 fun t26 h6 =>
bareK (xextract t26 0) h6 fun t27 h7 =>
bareK (xextract t26 1) h7 fun t28 h8 =>
K0 .ret [(6, t27), (7, t28), (8, (.int .i64 0))] h8) K0)) K0)

theorem s_model_Model_at_eq (M : CombL) (C : CallF) (LP : LoopH) (a0 : Value) (a1 : Value) (a2 : Value) (H : AHeap) : dBodyL M Try.prog hints C LP F.model_Model_at [a0, a1, a2] H = s_model_Model_at M.b.g M.c M.s Try.prog C a0 a1 a2 H (endK Try.prog [.tmp 6, .tmp 7, .tmp 8]) := by kernel_rfl

/-! (*ticketline.model.Model).set -/

noncomputable def s_model_Model_set (mg : GT) (mc : CT) (ms : ST) (P : Program) (C : CallF) (a0 : Value) (a1 : Value) (a2 : Value) (a3 : Value) (H : AHeap) (K0 : K) : Res :=
bothK (newv T.api_Pair a3 H) fun t7 h1 =>
ms (fun k1 =>
mc a2 (fun k2 => bareK (xnilCheck a0) h1 fun t23 h2 =>
bareK (fad 0 t23) h2 fun t24 h3 =>
bareK (ld1 h3 t24) h3 fun t25 h4 =>
bareK (ldN 2 h4 t7) h4 fun t27 h5 =>
bareK (ixS 2 t25 a1) h5 fun t28 h6 =>
quietK (stN 2 h6 t28 t27) fun _ h7 =>
checkK true <|
k2 .normal [] h7) (fun k2 =>
bareK (xnilCheck a0) h1 fun t31 h8 =>
bareK (fad 0 t31) h8 fun t32 h9 =>
bareK (ld1 h9 t32) h9 fun t33 h10 =>
bareK (lenS t33) h10 fun t34 h11 =>
bareK (xbin P .eql T.int (.tmp 34) (.const (.int .i64 20000)) t34 (.int .i64 20000)) h11 fun t35 h12 =>
mc t35 (fun k3 => k3 .ret [(8, (.int .i64 7))] h12) (fun k3 =>
bareK (xnilCheck a0) h12 fun t11 h13 =>
bareK (fad 0 t11) h13 fun t12 h14 =>
bareK (ld1 h14 t12) h14 fun t13 h15 =>
bareK (ldN 2 h15 t7) h15 fun t15 h16 =>
bothK (bldL T.api_Pair [(.string (mk [])), (.string (mk []))] 1 [(0, t15)] h16) fun t16 h17 =>
enterK C F.slices_Insert_Pair [t13, a1, t16] h17 fun t17 h18 =>
bareK (xnilCheck a0) h18 fun t18 h19 =>
bareK (fad 0 t18) h19 fun t19 h20 =>
quietK (st1 h20 t19 t17) fun _ h21 =>
checkK (okV (some true) none h17 h18 h12 h12 && true) <|
k3 .normal [] h21) (afterK [] k2)) (blkK [] 0 k1)) (seqK (fun tT h22 =>
K0 .ret [(8, (.int .i64 0))] h22) K0)

theorem s_model_Model_set_eq (M : CombL) (C : CallF) (LP : LoopH) (a0 : Value) (a1 : Value) (a2 : Value) (a3 : Value) (H : AHeap) : dBodyL M Try.prog hints C LP F.model_Model_set [a0, a1, a2, a3] H = s_model_Model_set M.b.g M.c M.s Try.prog C a0 a1 a2 a3 H (endK Try.prog [.tmp 8]) := by kernel_rfl

/-! slices.ContainsFunc[[]string,string] -/

noncomputable def s_slices_ContainsFunc_string (mg : GT) (mc : CT) (ms : ST) (P : Program) (C : CallF) (a0 : Value) (a1 : Value) (H : AHeap) (K0 : K) : Res :=
enterK C F.slices_IndexFunc_string [a0, a1] H fun t7 h1 =>
bareK (xbin P .geq T.int (.tmp 7) (.const (.int .i64 0)) t7 (.int .i64 0)) h1 fun t8 h2 =>
K0 .ret [(4, t8)] h2

theorem s_slices_ContainsFunc_string_eq (M : CombL) (C : CallF) (LP : LoopH) (a0 : Value) (a1 : Value) (H : AHeap) : dBodyL M Try.prog hints C LP F.slices_ContainsFunc_string [a0, a1] H = s_slices_ContainsFunc_string M.b.g M.c M.s Try.prog C a0 a1 H (endK Try.prog [.tmp 4]) := by kernel_rfl

/-! ticketline.model.check$1 -/

noncomputable def s_model_check_1 (mg : GT) (mc : CT) (ms : ST) (P : Program) (C : CallF) (a0 : Value) (H : AHeap) (K0 : K) : Res :=
bareK (lenT a0) H fun t4 h1 =>
bareK (xbin P .gtr T.int (.tmp 4) (.const (.int .i64 40)) t4 (.int .i64 40)) h1 fun t5 h2 =>
K0 .ret [(2, t5)] h2

theorem s_model_check_1_eq (M : CombL) (C : CallF) (LP : LoopH) (a0 : Value) (H : AHeap) : dBodyL M Try.prog hints C LP F.model_check_1 [a0] H = s_model_check_1 M.b.g M.c M.s Try.prog C a0 H (endK Try.prog [.tmp 2]) := by kernel_rfl

/-! strings.Compare -/

noncomputable def s_strings_Compare (mg : GT) (mc : CT) (ms : ST) (P : Program) (C : CallF) (a0 : Value) (a1 : Value) (H : AHeap) (K0 : K) : Res :=
enterK C F.internal_bytealg_CompareString [a0, a1] H fun t7 h1 =>
K0 .ret [(4, t7)] h1

theorem s_strings_Compare_eq (M : CombL) (C : CallF) (LP : LoopH) (a0 : Value) (a1 : Value) (H : AHeap) : dBodyL M Try.prog hints C LP F.strings_Compare [a0, a1] H = s_strings_Compare M.b.g M.c M.s Try.prog C a0 a1 H (endK Try.prog [.tmp 4]) := by kernel_rfl

/-! (*ticketline.model.Model).place -/

noncomputable def s_model_Model_place (mg : GT) (mc : CT) (ms : ST) (P : Program) (C : CallF) (a0 : Value) (a1 : Value) (H : AHeap) (K0 : K) : Res :=
bareK (xnilCheck a0) H fun t7 h1 =>
bareK (fad 0 t7) h1 fun t8 h2 =>
bareK (ld1 h2 t8) h2 fun t9 h3 =>
enterK C F.slices_BinarySearchFunc_string [t9, a1, (.func (.func F.model_Model_place_1) #[] #[])] h3 fun t11 h4 =>
bareK (xextract t11 0) h4 fun t12 h5 =>
bareK (xextract t11 1) h5 fun t13 h6 =>
K0 .ret [(4, t12), (5, t13)] h6

theorem s_model_Model_place_eq (M : CombL) (C : CallF) (LP : LoopH) (a0 : Value) (a1 : Value) (H : AHeap) : dBodyL M Try.prog hints C LP F.model_Model_place [a0, a1] H = s_model_Model_place M.b.g M.c M.s Try.prog C a0 a1 H (endK Try.prog [.tmp 4, .tmp 5]) := by kernel_rfl

/-! slices.Insert[[]ticketline.api.Pair,ticketline.api.Pair] -/

noncomputable def s_slices_Insert_Pair (mg : GT) (mc : CT) (ms : ST) (P : Program) (C : CallF) (a0 : Value) (a1 : Value) (a2 : Value) (H : AHeap) (K0 : K) : Res :=
bareK (slS T.api_Pair 2 a0 (some a1) none none H) H fun t12 h1 =>
bareK (lenS a2) h1 fun t14 h2 =>
bareK (xbin P .eql T.int (.tmp 15) (.const (.int .i64 0)) t14 (.int .i64 0)) h2 fun t16 h3 =>
mc t16 (fun k1 => k1 .ret [(6, a0)] h3) (fun k1 =>
k1 .normal [(0, a0), (1, a1), (2, a2), (7, t14)] h3) (seqK (fun tT h4 =>
bareK (lenS (get tT 0)) h4 fun t19 h5 =>
bareK (xbin P .eql T.int (.tmp 20) (.tmp 21) (get tT 1) t19) h5 fun t22 h6 =>
mc t22 (fun k2 => bothK (app T.api_Pair 2 32 (get tT 0) (srcS 2 (get tT 2) h6) h6) fun t25 h7 =>
k2 .ret [(6, t25)] h7) (fun k2 =>
k2 .normal [(0, (get tT 0)), (1, (get tT 1)), (2, (get tT 2)), (7, (get tT 7)), (8, t19)] h6) (seqK (fun tT_1 h8 =>
bareK (xbin P .add T.int (.tmp 26) (.tmp 27) (get tT_1 8) (get tT_1 7)) h8 fun t28 h9 =>
nextK C h9 (xbuiltin P .cap [T.sl_api_Pair] [(get tT_1 0)] h9) fun t30 h10 =>
bareK (xbin P .gtr T.int (.tmp 28) (.tmp 30) t28 t30) h10 fun t31 h11 =>
mc t31 (fun k3 => bareK (slS T.api_Pair 2 (get tT_1 0) none (some (get tT_1 1)) none h11) h11 fun t34 h12 =>
bareK (xbin P .add T.int (.tmp 35) (.tmp 36) (get tT_1 8) (get tT_1 7)) h12 fun t37 h13 =>
bareK (xbin P .sub T.int (.tmp 37) (.tmp 38) t37 (get tT_1 1)) h13 fun t39 h14 =>
bothK (app T.api_Pair 2 32 t34 (srcZ [(.string (mk [])), (.string (mk []))] 32 t39) h14) fun t40 h15 =>
bareK (slS T.api_Pair 2 t40 (some (get tT_1 1)) none none h15) h15 fun t43 h16 =>
bothK (cpy 2 t43 (get tT_1 2) h16) fun t45 h17 =>
bareK (xbin P .add T.int (.tmp 47) (.tmp 48) (get tT_1 1) (get tT_1 7)) h17 fun t49 h18 =>
bareK (slS T.api_Pair 2 t40 (some t49) none none h18) h18 fun t50 h19 =>
bareK (slS T.api_Pair 2 (get tT_1 0) (some (get tT_1 1)) none none h19) h19 fun t53 h20 =>
bothK (cpy 2 t50 t53 h20) fun t54 h21 =>
checkK true <|
k3 .ret [(6, t40)] h21) (fun k3 =>
k3 .normal [(0, (get tT_1 0)), (1, (get tT_1 1)), (2, (get tT_1 2)), (7, (get tT_1 7)), (8, (get tT_1 8))] h11) (seqK (fun tT_2 h22 =>
bareK (xbin P .add T.int (.tmp 57) (.tmp 58) (get tT_2 8) (get tT_2 7)) h22 fun t59 h23 =>
bareK (slS T.api_Pair 2 (get tT_2 0) none (some t59) none h23) h23 fun t60 h24 =>
bareK (xbin P .add T.int (.tmp 63) (.tmp 64) (get tT_2 1) (get tT_2 7)) h24 fun t65 h25 =>
bareK (slS T.api_Pair 2 t60 (some t65) none none h25) h25 fun t66 h26 =>
bareK (xext P Try.f61 [(get tT_2 2), t66] h26) h26 fun t67 h27 =>
bareK (xun P .not t67) h27 fun t68 h28 =>
mc t68 (fun k4 => bareK (xbin P .add T.int (.tmp 70) (.tmp 71) (get tT_2 1) (get tT_2 7)) h28 fun t72 h29 =>
bareK (slS T.api_Pair 2 t60 (some t72) none none h29) h29 fun t73 h30 =>
bareK (slS T.api_Pair 2 t60 (some (get tT_2 1)) none none h30) h30 fun t76 h31 =>
bothK (cpy 2 t73 t76 h31) fun t77 h32 =>
checkK true <|
bareK (slS T.api_Pair 2 t60 (some (get tT_2 1)) none none h32) h32 fun t80 h33 =>
bothK (cpy 2 t80 (get tT_2 2) h33) fun t82 h34 =>
k4 .ret [(6, t60)] h34) (fun k4 =>
k4 .normal [(0, t60), (1, (get tT_2 1)), (2, (get tT_2 2)), (7, (get tT_2 7)), (8, (get tT_2 8))] h28) (seqK (fun tT_3 h35 =>
bareK (slS T.api_Pair 2 (get tT_3 0) (some (get tT_3 8)) none none h35) h35 fun t86 h36 =>
bothK (cpy 2 t86 (get tT_3 2) h36) fun t88 h37 =>
bareK (slS T.api_Pair 2 (get tT_3 0) (some (get tT_3 1)) none none h37) h37 fun t91 h38 =>
enterK C F.slices_rotateRight_Pair [t91, (get tT_3 7)] h38 fun t93 h39 =>
K0 .ret [(6, (get tT_3 0))] h39) K0)) K0)) K0)) K0)

theorem s_slices_Insert_Pair_eq (M : CombL) (C : CallF) (LP : LoopH) (a0 : Value) (a1 : Value) (a2 : Value) (H : AHeap) : dBodyL M Try.prog hints C LP F.slices_Insert_Pair [a0, a1, a2] H = s_slices_Insert_Pair M.b.g M.c M.s Try.prog C a0 a1 a2 H (endK Try.prog [.tmp 6]) := by kernel_rfl

/-! slices.IndexFunc[[]string,string] -/

noncomputable def s_slices_IndexFunc_string (mg : GT) (mc : CT) (ms : ST) (P : Program) (C : CallF) (L0 : Value → Value → Value → Value → AHeap → K → Res) (a0 : Value) (a1 : Value) (H : AHeap) (K0 : K) : Res :=
bareK (lenS a0) H fun t7 h1 =>
ms (fun k1 =>
L0 a0 a1 t7 (.int .i64 0) h1 (blkK [] 0 k1)) (seqK (fun tT h2 =>
K0 .ret [(4, (.int .i64 (-1)))] h2) K0)

noncomputable def s_slices_IndexFunc_string_b0 (mg : GT) (mc : CT) (ms : ST) (P : Program) (C : CallF) (L0 : Value → Value → Value → Value → AHeap → K → Res) (v0 : Value) (v1 : Value) (v7 : Value) (v8 : Value) (H : AHeap) (k : K) : Res :=
bareK (xbin P .lss T.int (.tmp 8) (.tmp 7) v8 v7) H fun t9 h2 =>
mc t9 (fun k2 => k2 .normal [(0, v0), (1, v1), (7, v7), (8, v8)] h2) (fun k2 =>
k2 (.exit 0) [(9, t9), (0, v0), (1, v1), (7, v7), (8, v8)] h2) (seqK (fun tT h3 =>
ms (fun k3 =>
bareK (ixS 1 (get tT 0) (get tT 8)) h3 fun t14 h4 =>
bareK (ld1 h4 t14) h4 fun t15 h5 =>
callK P C (get tT 1) [t15] h5 fun t16 h6 =>
mc t16 (fun k4 => k4 .ret [(4, (get tT 8))] h6) (fun k4 =>
k4 .normal [(0, (get tT 0)), (1, (get tT 1)), (7, (get tT 7)), (8, (get tT 8))] h6) (blkK [0, 1, 7, 8] 1 k3)) (seqK (fun tT_1 h7 =>
bareK (xbin P .add T.int (.tmp 8) (.const (.int .i64 1)) (get tT_1 8) (.int .i64 1)) h7 fun t18 h8 =>
k .normal [(0, (get tT_1 0)), (1, (get tT_1 1)), (7, (get tT_1 7)), (8, t18)] h8) (afterK [0, 1, 7, 8] k))) (afterK [0, 1, 7, 8] k))

theorem s_slices_IndexFunc_string_eq (M : CombL) (C : CallF) (LP : LoopH) (a0 : Value) (a1 : Value) (H : AHeap) : dBodyL M Try.prog hints C LP F.slices_IndexFunc_string [a0, a1] H = s_slices_IndexFunc_string M.b.g M.c M.s Try.prog C (fun v0 v1 v7 v8 H k => loopL M Try.prog hints C LP F.slices_IndexFunc_string 0 [(0, v0), (1, v1), (7, v7), (8, v8)] H k) a0 a1 H (endK Try.prog [.tmp 4]) := by kernel_rfl

theorem s_slices_IndexFunc_string_b0_eq (M : CombL) (C : CallF) (LP : LoopH) (v0 : Value) (v1 : Value) (v7 : Value) (v8 : Value) (H : AHeap) (k : K) : bodyL M Try.prog hints C LP F.slices_IndexFunc_string 0 [(0, v0), (1, v1), (7, v7), (8, v8)] H (afterK [0, 1, 7, 8] k) = s_slices_IndexFunc_string_b0 M.b.g M.c M.s Try.prog C (fun v0 v1 v7 v8 H k => loopL M Try.prog hints C LP F.slices_IndexFunc_string 0 [(0, v0), (1, v1), (7, v7), (8, v8)] H k) v0 v1 v7 v8 H k := by kernel_rfl

/-! internal.bytealg.CompareString -/

noncomputable def s_internal_bytealg_CompareString (mg : GT) (mc : CT) (ms : ST) (P : Program) (C : CallF) (a0 : Value) (a1 : Value) (H : AHeap) (K0 : K) : Res :=
bareK (xext P Try.f63 [a0, a1] H) H fun t7 h1 =>
K0 .ret [(4, t7)] h1

theorem s_internal_bytealg_CompareString_eq (M : CombL) (C : CallF) (LP : LoopH) (a0 : Value) (a1 : Value) (H : AHeap) : dBodyL M Try.prog hints C LP F.internal_bytealg_CompareString [a0, a1] H = s_internal_bytealg_CompareString M.b.g M.c M.s Try.prog C a0 a1 H (endK Try.prog [.tmp 4]) := by kernel_rfl

/-! slices.BinarySearchFunc[[]ticketline.api.Pair,ticketline.api.Pair,string] -/

noncomputable def s_slices_BinarySearchFunc_string (mg : GT) (mc : CT) (ms : ST) (P : Program) (C : CallF) (L0 : Value → Value → Value → Value → Value → Value → AHeap → K → Res) (a0 : Value) (a1 : Value) (a2 : Value) (H : AHeap) (K0 : K) : Res :=
bareK (lenS a0) H fun t13 h1 =>
ms (fun k1 =>
L0 a0 a1 a2 t13 (.int .i64 0) t13 h1 (blkK [0, 1, 2, 8, 9] 0 k1)) (seqK (fun tT h2 =>
bareK (xbin P .lss T.int (.tmp 36) (.tmp 37) (get tT 9) (get tT 8)) h2 fun t38 h3 =>
mg t38 true (fun o2 => o2 (get tT 2) h3) h3 fun t40 h4 =>
mg t38 true (fun o3 => o3 (get tT 0) h4) h4 fun t41 h5 =>
mg t38 true (fun o4 => o4 (get tT 9) h5) h5 fun t42 h6 =>
mg t38 true (fun o5 => bareK (ixS 2 t41 t42) h6 o5) h6 fun t43 h7 =>
mg t38 true (fun o6 => bareK (ldN 2 h7 t43) h7 o6) h7 fun t44 h8 =>
mg t38 true (fun o7 => o7 (get tT 1) h8) h8 fun t45 h9 =>
mg t38 true (fun o8 => callK P C t40 [t44, t45] h9 o8) h9 fun t46 h10 =>
mg t38 true (fun o9 => bareK (xbin P .eql T.int (.tmp 46) (.const (.int .i64 0)) t46 (.int .i64 0)) h10 o9) h10 fun t47 h11 =>
pickK t38 t47 (.bool false) fun t48 =>
K0 .ret [(6, (get tT 9)), (7, t48)] h11) K0)

noncomputable def s_slices_BinarySearchFunc_string_b0 (mg : GT) (mc : CT) (ms : ST) (P : Program) (C : CallF) (L0 : Value → Value → Value → Value → Value → Value → AHeap → K → Res) (v0 : Value) (v1 : Value) (v2 : Value) (v8 : Value) (v9 : Value) (v10 : Value) (H : AHeap) (k : K) : Res :=
bareK (xbin P .lss T.int (.tmp 15) (.tmp 16) v9 v10) H fun t17 h2 =>
mc t17 (fun k2 => k2 .normal [(0, v0), (1, v1), (2, v2), (8, v8), (9, v9), (10, v10)] h2) (fun k2 =>
k2 (.exit 0) [(17, t17), (16, v10), (15, v9), (0, v0), (1, v1), (2, v2), (8, v8), (9, v9), (10, v10)] h2) (seqK (fun tT h3 =>
ms (fun k3 =>
bareK (xbin P .add T.int (.tmp 18) (.tmp 19) (get tT 9) (get tT 10)) h3 fun t20 h4 =>
bothK (xconv P T.int T.uint t20 h4) fun t21 h5 =>
bareK (xbin P .shr T.uint (.tmp 21) (.const (.int .u64 1)) t21 (.int .u64 1)) h5 fun t22 h6 =>
bothK (xconv P T.uint T.int t22 h6) fun t23 h7 =>
bareK (ixS 2 (get tT 0) t23) h7 fun t27 h8 =>
bareK (ldN 2 h8 t27) h8 fun t28 h9 =>
callK P C (get tT 2) [t28, (get tT 1)] h9 fun t30 h10 =>
bareK (xbin P .lss T.int (.tmp 30) (.const (.int .i64 0)) t30 (.int .i64 0)) h10 fun t31 h11 =>
mc t31 (fun k4 => bareK (xbin P .add T.int (.tmp 32) (.const (.int .i64 1)) t23 (.int .i64 1)) h11 fun t33 h12 =>
k4 .normal [(0, (get tT 0)), (1, (get tT 1)), (2, (get tT 2)), (8, (get tT 8)), (9, t33), (10, (get tT 10))] h12) (fun k4 =>
k4 .normal [(0, (get tT 0)), (1, (get tT 1)), (2, (get tT 2)), (8, (get tT 8)), (9, (get tT 9)), (10, t23)] h11) (blkK [0, 1, 2, 8, 9, 10] 1 k3)) (afterK [0, 1, 2, 8, 9, 10] k)) (afterK [0, 1, 2, 8, 9, 10] k))

theorem s_slices_BinarySearchFunc_string_eq (M : CombL) (C : CallF) (LP : LoopH) (a0 : Value) (a1 : Value) (a2 : Value) (H : AHeap) : dBodyL M Try.prog hints C LP F.slices_BinarySearchFunc_string [a0, a1, a2] H = s_slices_BinarySearchFunc_string M.b.g M.c M.s Try.prog C (fun v0 v1 v2 v8 v9 v10 H k => loopL M Try.prog hints C LP F.slices_BinarySearchFunc_string 0 [(0, v0), (1, v1), (2, v2), (8, v8), (9, v9), (10, v10)] H k) a0 a1 a2 H (endK Try.prog [.tmp 6, .tmp 7]) := by kernel_rfl

theorem s_slices_BinarySearchFunc_string_b0_eq (M : CombL) (C : CallF) (LP : LoopH) (v0 : Value) (v1 : Value) (v2 : Value) (v8 : Value) (v9 : Value) (v10 : Value) (H : AHeap) (k : K) : bodyL M Try.prog hints C LP F.slices_BinarySearchFunc_string 0 [(0, v0), (1, v1), (2, v2), (8, v8), (9, v9), (10, v10)] H (afterK [0, 1, 2, 8, 9, 10] k) = s_slices_BinarySearchFunc_string_b0 M.b.g M.c M.s Try.prog C (fun v0 v1 v2 v8 v9 v10 H k => loopL M Try.prog hints C LP F.slices_BinarySearchFunc_string 0 [(0, v0), (1, v1), (2, v2), (8, v8), (9, v9), (10, v10)] H k) v0 v1 v2 v8 v9 v10 H k := by kernel_rfl

/-! (*ticketline.model.Model).place$1 -/

noncomputable def s_model_Model_place_1 (mg : GT) (mc : CT) (ms : ST) (P : Program) (C : CallF) (a0 : Value) (a1 : Value) (H : AHeap) (K0 : K) : Res :=
bothK (newv T.api_Pair a0 H) fun t2 h1 =>
bareK (fad 0 t2) h1 fun t5 h2 =>
bareK (ld1 h2 t5) h2 fun t6 h3 =>
enterK C F.keys_Compare [t6, a1] h3 fun t8 h4 =>
K0 .ret [(4, t8)] h4

theorem s_model_Model_place_1_eq (M : CombL) (C : CallF) (LP : LoopH) (a0 : Value) (a1 : Value) (H : AHeap) : dBodyL M Try.prog hints C LP F.model_Model_place_1 [a0, a1] H = s_model_Model_place_1 M.b.g M.c M.s Try.prog C a0 a1 H (endK Try.prog [.tmp 4]) := by kernel_rfl

/-! slices.rotateRight[ticketline.api.Pair] -/

noncomputable def s_slices_rotateRight_Pair (mg : GT) (mc : CT) (ms : ST) (P : Program) (C : CallF) (a0 : Value) (a1 : Value) (H : AHeap) (K0 : K) : Res :=
bareK (lenS a0) H fun t6 h1 =>
bareK (xbin P .sub T.int (.tmp 6) (.tmp 7) t6 a1) h1 fun t8 h2 =>
enterK C F.slices_rotateLeft_Pair [a0, t8] h2 fun t9 h3 =>
K0 .normal [(9, t9), (8, t8), (7, a1), (6, t6), (5, a0), (4, a0), (0, a0), (1, a1)] h3

theorem s_slices_rotateRight_Pair_eq (M : CombL) (C : CallF) (LP : LoopH) (a0 : Value) (a1 : Value) (H : AHeap) : dBodyL M Try.prog hints C LP F.slices_rotateRight_Pair [a0, a1] H = s_slices_rotateRight_Pair M.b.g M.c M.s Try.prog C a0 a1 H (endK Try.prog []) := by kernel_rfl

/-! slices.rotateLeft[ticketline.api.Pair] -/

noncomputable def s_slices_rotateLeft_Pair (mg : GT) (mc : CT) (ms : ST) (P : Program) (C : CallF) (a0 : Value) (a1 : Value) (H : AHeap) (K0 : K) : Res :=
bareK (slS T.api_Pair 2 a0 none (some a1) none H) H fun t6 h1 =>
enterK C F.slices_Reverse_Pair [t6] h1 fun t7 h2 =>
bareK (slS T.api_Pair 2 a0 (some a1) none none h2) h2 fun t10 h3 =>
enterK C F.slices_Reverse_Pair [t10] h3 fun t11 h4 =>
enterK C F.slices_Reverse_Pair [a0] h4 fun t13 h5 =>
K0 .normal [(13, t13), (12, a0), (11, t11), (10, t10), (9, a1), (8, a0), (7, t7), (6, t6), (5, a1), (4, a0), (0, a0), (1, a1)] h5

theorem s_slices_rotateLeft_Pair_eq (M : CombL) (C : CallF) (LP : LoopH) (a0 : Value) (a1 : Value) (H : AHeap) : dBodyL M Try.prog hints C LP F.slices_rotateLeft_Pair [a0, a1] H = s_slices_rotateLeft_Pair M.b.g M.c M.s Try.prog C a0 a1 H (endK Try.prog []) := by kernel_rfl

/-! slices.Reverse[[]ticketline.api.Pair,ticketline.api.Pair] -/

noncomputable def s_slices_Reverse_Pair (mg : GT) (mc : CT) (ms : ST) (P : Program) (C : CallF) (L0 : Value → Value → Value → AHeap → K → Res) (a0 : Value) (H : AHeap) (K0 : K) : Res :=
bareK (lenS a0) H fun t5 h1 =>
bareK (xbin P .sub T.int (.tmp 5) (.const (.int .i64 1)) t5 (.int .i64 1)) h1 fun t6 h2 =>
ms (fun k1 =>
L0 a0 (.int .i64 0) t6 h2 (blkK [] 0 k1)) K0

noncomputable def s_slices_Reverse_Pair_b0 (mg : GT) (mc : CT) (ms : ST) (P : Program) (C : CallF) (L0 : Value → Value → Value → AHeap → K → Res) (v0 : Value) (v2 : Value) (v3 : Value) (H : AHeap) (k : K) : Res :=
bareK (xbin P .lss T.int (.tmp 7) (.tmp 8) v2 v3) H fun t9 h3 =>
mc t9 (fun k2 => k2 .normal [(0, v0), (2, v2), (3, v3)] h3) (fun k2 =>
k2 (.exit 0) [(9, t9), (8, v3), (7, v2), (0, v0), (2, v2), (3, v3)] h3) (seqK (fun tT h4 =>
ms (fun k3 =>
bareK (ixS 2 (get tT 0) (get tT 3)) h4 fun t20 h5 =>
bareK (ldN 2 h5 t20) h5 fun t21 h6 =>
bareK (ixS 2 (get tT 0) (get tT 2)) h6 fun t24 h7 =>
bareK (ldN 2 h7 t24) h7 fun t25 h8 =>
bareK (ixS 2 (get tT 0) (get tT 2)) h8 fun t26 h9 =>
quietK (stN 2 h9 t26 t21) fun _ h10 =>
bareK (ixS 2 (get tT 0) (get tT 3)) h10 fun t27 h11 =>
quietK (stN 2 h11 t27 t25) fun _ h12 =>
checkK (okV (some true) none h9 h10 h4 h4 && (okV (some true) none h9 h10 h4 h4 && true)) <|
k3 .normal [(0, (get tT 0)), (2, (get tT 2)), (3, (get tT 3))] h12) (seqK (fun tT_1 h13 =>
bareK (xbin P .add T.int (.tmp 10) (.const (.int .i64 1)) (get tT_1 2) (.int .i64 1)) h13 fun t11 h14 =>
bareK (xbin P .sub T.int (.tmp 12) (.const (.int .i64 1)) (get tT_1 3) (.int .i64 1)) h14 fun t13 h15 =>
k .normal [(0, (get tT_1 0)), (2, t11), (3, t13)] h15) (afterK [0, 2, 3] k))) (afterK [0, 2, 3] k))

theorem s_slices_Reverse_Pair_eq (M : CombL) (C : CallF) (LP : LoopH) (a0 : Value) (H : AHeap) : dBodyL M Try.prog hints C LP F.slices_Reverse_Pair [a0] H = s_slices_Reverse_Pair M.b.g M.c M.s Try.prog C (fun v0 v2 v3 H k => loopL M Try.prog hints C LP F.slices_Reverse_Pair 0 [(0, v0), (2, v2), (3, v3)] H k) a0 H (endK Try.prog []) := by kernel_rfl

theorem s_slices_Reverse_Pair_b0_eq (M : CombL) (C : CallF) (LP : LoopH) (v0 : Value) (v2 : Value) (v3 : Value) (H : AHeap) (k : K) : bodyL M Try.prog hints C LP F.slices_Reverse_Pair 0 [(0, v0), (2, v2), (3, v3)] H (afterK [0, 2, 3] k) = s_slices_Reverse_Pair_b0 M.b.g M.c M.s Try.prog C (fun v0 v2 v3 H k => loopL M Try.prog hints C LP F.slices_Reverse_Pair 0 [(0, v0), (2, v2), (3, v3)] H k) v0 v2 v3 H k := by kernel_rfl

end Go.Proofs.Ytehnchfnhbmkdaa

/-
  The engine, part 19: slices.Insert: what the engine's run of its text comes to, where the capacity is known: room, or none.
  Conditions: none. By an AI agent.
-/
set_option linter.unusedVariables false
namespace Go.Proofs.Ytehnchfnhbmkdaa.Eng
open Go

variable {P : Program} {H H' : AHeap}

theorem bareK_step {x : Option Value} {v : Value} {k : Value → AHeap → Res} {r : Res} (h : x = some v) (hk : k v H = r) : bareK x H k = r := by rw [h]; exact hk
theorem bothK_step {x : Option (Value × AHeap)} {v : Value} {k : Value → AHeap → Res} {r : Res} (h : x = some (v, H')) (hk : k v H' = r) : bothK x k = r := by rw [h]; exact hk
theorem c_true {x y : K → Res} {keep : List Nat} {k : K} {r : Res} (h : x (afterK keep k) = r) : std.c (.bool true) x y keep k = r := h
theorem c_false {x y : K → Res} {keep : List Nat} {k : K} {r : Res} (h : y (afterK keep k) = r) : std.c (.bool false) x y keep k = r := h
theorem after_n {keep : List Nat} {T : Env} {f : Env → AHeap → Res} {k : K} {r : Res} (h : f (clr keep T) H = r) : afterK keep (seqK f k) .normal T H = r := h
theorem after_r {keep : List Nat} {T : Env} {f : Env → AHeap → Res} {k : K} {r : Res} (h : k .ret T H = r) : afterK keep (seqK f k) .ret T H = r := h

/-- x[i:] of a slice of known capacity. -/
theorem sl_from {t e : TypeId} {sz b o l c i : Nat} {q : IntKind} (hS : P.underlying t = some (.slice e)) (hq : sizeQ P e = some sz) (hi : i ≤ l) (hl : l ≤ c) :
    xslice P t (.slice (some ⟨b, o, none⟩) l (2 * c)) (some (.int q i)) none none H = some (.slice (some ⟨b, if c = i then o else o + i * sz, none⟩) (l - i) (2 * (c - i))) := by
  have h1 : 2 * c / 2 = c := by omega
  have h2 : 2 * c % 2 = 0 := by omega
  have h3 : (i : Int) ≤ l := by omega
  simp [xslice, hS, hq, slS, highOf, lowOf, bnd, h1, h2, hl, hi]

/-- x[:h]. -/
theorem sl_to {t e : TypeId} {sz b o l c h : Nat} {q : IntKind} (hS : P.underlying t = some (.slice e)) (hq : sizeQ P e = some sz) (hh : h ≤ c) (h0 : c ≠ 0) :
    xslice P t (.slice (some ⟨b, o, none⟩) l (2 * c)) none (some (.int q h)) none H = some (.slice (some ⟨b, o, none⟩) h (2 * c)) := by
  have h1 : 2 * c / 2 = c := by omega
  have h2 : 2 * c % 2 = 0 := by omega
  simp [xslice, hS, hq, slS, highOf, lowOf, bnd, h1, h2, h0, hh]

/-- x[i:] of a row that was appended to. -/
theorem sl_from' {t e : TypeId} {sz b o l c i : Nat} {q : IntKind} {xs : List Value} (hS : P.underlying t = some (.slice e)) (hq : sizeQ P e = some sz) (hi : i ≤ l) (hl : l ≤ c) (hb : H.f b = .cells xs e true) :
    xslice P t (.slice (some ⟨b, o, none⟩) l (2 * c + 1)) (some (.int q i)) none none H = some (.slice (some ⟨b, o + i * sz, none⟩) (l - i) (2 * (c - i) + 1)) := by
  have h1 : (2 * c + 1) / 2 = c := by omega
  have h2 : (2 * c + 1) % 2 = 1 := by omega
  have h3 : (i : Int) ≤ l := by omega
  simp [xslice, hS, hq, slS, highOf, lowOf, bnd, h1, h2, hl, hi, hb, rowOf]

theorem len_sl {t e : TypeId} {a : Option Addr} {l c : Nat} (hS : P.underlying t = some (.slice e)) {ts : List TypeId} {G : AHeap} : xlenM P (t :: ts) (.slice a l c) G = some (goInt l) := by
  simp [xlenM, xlen, hS]

theorem copy_sl {t e : TypeId} {sz b o dl dc b' o' sl sc m : Nat} {ts : List TypeId} {l : List Value} (hS : P.underlying t = some (.slice e)) (hq : sizeQ P e = some sz) (hm : Nat.min sl dl = m) (h0 : m ≠ 0)
    (hc : cut H b' o' (m * sz) = some l) (hs : stL H b o l = some H') : xcopy P (t :: ts) (.slice (some ⟨b, o, none⟩) dl dc) (.slice (some ⟨b', o', none⟩) sl sc) H = some (goInt m, H') := by
  simp [xcopy, hS, hq, cpy, hm, h0, hc, hs]

/-- slices.overlaps, as it stands in the program. -/
structure Ovl (P : Program) (tS : TypeId) (fO : FuncId) : Prop where
  fn : ∃ fn, P.funcs[fO]? = some fn ∧ fn.name ≠ "runtime.NumGoroutine" ∧ fn.body.isSome = false ∧ fn.origin = "slices.overlaps" ∧ noRow fn.name = true ∧ fn.params.toList = [tS, tS]

theorem ovl_call {C : CallF} {tS el ev : TypeId} {fO : FuncId} (hO : Ovl P tS fO) (hS : P.underlying tS = some (.slice el)) {sz : Nat} (hq : sizeQ P el = some sz) {b o l c b' o' l' c' : Nat} {xs ys : List Value} {e' : TypeId} {rw' : Bool}
    (hb : H.f b = .cells xs ev true) (hb' : H.f b' = .cells ys e' rw') (hy : ys ≠ []) (hne : b ≠ b') (ht : tailQ P ev = 1) (ho : o ≤ xs.length) (h0 : l ≠ 0) (h1 : l' ≠ 0) {k : Value → AHeap → Res} :
    callK P C (.func (.func fO) #[] #[]) [.slice (some ⟨b, o, none⟩) l c, .slice (some ⟨b', o', none⟩) l' c'] H k = k (.bool false) H := by
  obtain ⟨fn, h2, h3, h4, h5, h6, h7⟩ := hO.fn
  cases ys with
  | nil => exact absurd rfl hy
  | cons y ys =>
    simp [callK, h2, h3, h4, xext, h5, h6, h0, h1, hb, hb', h7, hS, hne, ht, hq, ho, bareK]

def insK (M : Comb) (P : Program) (C : CallF) (n : Nat) (tS tI : TypeId) (fO fR : FuncId) (a0 : Value) (a1 : Value) (a2 : Value) (H : AHeap) (K0 : K) : Res :=
bareK (xslice P tS a0 (some a1) none none H) H fun t12 h1 =>
bareK (xlenM P [tS] a2 h1) h1 fun t14 h2 =>
bareK (xbin P .eql tI (.tmp 15) (.const (.int .i64 0)) t14 (.int .i64 0)) h2 fun t16 h3 =>
M.c t16 (fun k1 => k1 .ret [(6, a0)] h3) (fun k1 => k1 .normal [(16, t16), (15, t14), (7, t14), (14, t14), (13, a2), (12, t12), (11, a1), (10, a0), (6, (.slice none 0 0)), (0, a0), (1, a1), (2, a2)] h3) [0, 1, 2, 7] (seqK (fun tT h4 =>
bareK (xlenM P [tS] (get tT 0) h4) h4 fun t19 h5 =>
bareK (xbin P .eql tI (.tmp 20) (.tmp 21) (get tT 1) t19) h5 fun t22 h6 =>
M.c t22 (fun k2 => bothK (xappend P [tS, tS] (get tT 0) (get tT 2) h6) fun t25 h7 =>
k2 .ret [(6, t25)] h7) (fun k2 => k2 .normal ((22, t22) :: (21, t19) :: (20, (get tT 1)) :: (8, t19) :: (19, t19) :: (18, (get tT 0)) :: tT) h6) [0, 1, 2, 7, 8] (seqK (fun tT_1 h8 =>
bareK (xbin P .add tI (.tmp 26) (.tmp 27) (get tT_1 8) (get tT_1 7)) h8 fun t28 h9 =>
nextK C h9 (xbuiltin P .cap [tS] [(get tT_1 0)] h9) fun t30 h10 =>
bareK (xbin P .gtr tI (.tmp 28) (.tmp 30) t28 t30) h10 fun t31 h11 =>
M.c t31 (fun k3 => bareK (xslice P tS (get tT_1 0) none (some (get tT_1 1)) none h11) h11 fun t34 h12 =>
bareK (xbin P .add tI (.tmp 35) (.tmp 36) (get tT_1 8) (get tT_1 7)) h12 fun t37 h13 =>
bareK (xbin P .sub tI (.tmp 37) (.tmp 38) t37 (get tT_1 1)) h13 fun t39 h14 =>
bothK (xappend P [tS, tI] t34 t39 h14) fun t40 h15 =>
bareK (xslice P tS t40 (some (get tT_1 1)) none none h15) h15 fun t43 h16 =>
bothK (xcopy P [tS, tS] t43 (get tT_1 2) h16) fun t45 h17 =>
bareK (xbin P .add tI (.tmp 47) (.tmp 48) (get tT_1 1) (get tT_1 7)) h17 fun t49 h18 =>
bareK (xslice P tS t40 (some t49) none none h18) h18 fun t50 h19 =>
bareK (xslice P tS (get tT_1 0) (some (get tT_1 1)) none none h19) h19 fun t53 h20 =>
bothK (xcopy P [tS, tS] t50 t53 h20) fun t54 h21 =>
checkK true <|
k3 .ret [(6, t40)] h21) (fun k3 => k3 .normal ((31, t31) :: (30, t30) :: (29, (get tT_1 0)) :: (28, t28) :: (27, (get tT_1 7)) :: (26, (get tT_1 8)) :: tT_1) h11) [0, 1, 2, 7, 8] (seqK (fun tT_2 h22 =>
bareK (xbin P .add tI (.tmp 57) (.tmp 58) (get tT_2 8) (get tT_2 7)) h22 fun t59 h23 =>
bareK (xslice P tS (get tT_2 0) none (some t59) none h23) h23 fun t60 h24 =>
bareK (xbin P .add tI (.tmp 63) (.tmp 64) (get tT_2 1) (get tT_2 7)) h24 fun t65 h25 =>
bareK (xslice P tS t60 (some t65) none none h25) h25 fun t66 h26 =>
callK P C (.func (.func fO) #[] #[]) [(get tT_2 2), t66] h26 fun t67 h27 =>
bareK (xun P .not t67) h27 fun t68 h28 =>
M.c t68 (fun k4 => bareK (xbin P .add tI (.tmp 70) (.tmp 71) (get tT_2 1) (get tT_2 7)) h28 fun t72 h29 =>
bareK (xslice P tS t60 (some t72) none none h29) h29 fun t73 h30 =>
bareK (xslice P tS t60 (some (get tT_2 1)) none none h30) h30 fun t76 h31 =>
bothK (xcopy P [tS, tS] t73 t76 h31) fun t77 h32 =>
checkK true <|
bareK (xslice P tS t60 (some (get tT_2 1)) none none h32) h32 fun t80 h33 =>
bothK (xcopy P [tS, tS] t80 (get tT_2 2) h33) fun t82 h34 =>
k4 .ret [(6, t60)] h34) (fun k4 => k4 .normal ((68, t68) :: (67, t67) :: (66, t66) :: (65, t65) :: (64, (get tT_2 7)) :: (63, (get tT_2 1)) :: (62, t60) :: (61, (get tT_2 2)) :: (0, t60) :: (60, t60) :: (59, t59) :: (58, (get tT_2 7)) :: (57, (get tT_2 8)) :: (56, (get tT_2 0)) :: tT_2) h28) [0, 1, 2, 7, 8] (seqK (fun tT_3 h35 =>
bareK (xslice P tS (get tT_3 0) (some (get tT_3 8)) none none h35) h35 fun t86 h36 =>
bothK (xcopy P [tS, tS] t86 (get tT_3 2) h36) fun t88 h37 =>
bareK (xslice P tS (get tT_3 0) (some (get tT_3 1)) none none h37) h37 fun t91 h38 =>
enterK C fR [t91, (get tT_3 7)] h38 fun t93 h39 =>
K0 .ret [(6, (get tT_3 0))] h39) K0)) K0)) K0)) K0)
/-- THERE IS ROOM: in place. -/
theorem insK_room {C : CallF} {n : Nat} {tS tI el ev : TypeId} {fO fR : FuncId} {K0 : K} (hS : P.underlying tS = some (.slice el)) {sz : Nat} (hq : sizeQ P el = some sz) (hO : Ovl P tS fO)
    {b o l c i m bv ov cv : Nat} {xs ys new old : List Value} (hi : i < l) (hm : m ≠ 0) (hroom : l + m ≤ c) (hbig : l + m < 4611686018427387904) (hH : H.f b = .cells xs el true) (hne : bv ≠ b)
    (hv : H.f bv = .cells ys ev true) (hov : ov ≤ ys.length) (htl : tailQ P ev = 1) (hxs : xs ≠ [])
    (hcut : cut H b (o + i * sz) ((l - i) * sz) = some old) (hst : stL H b (o + (i + m) * sz) old = some H')
    (hcut2 : cut H' bv ov (m * sz) = some new) {H2 : AHeap} (hst2 : stL H' b (o + i * sz) new = some H2) :
    insK std P C n tS tI fO fR (.slice (some ⟨b, o, none⟩) l (2 * c)) (.int .i64 i) (.slice (some ⟨bv, ov, none⟩) m cv) H K0 = K0 .ret [(6, .slice (some ⟨b, o, none⟩) (l + m) (2 * c))] H2 := by
  have w1 : IntKind.wrap .i64 ((l : Int) + m) = ((l + m : Nat) : Int) := by rw [wrap64 (by omega) (by omega)]; simp
  have w2 : IntKind.wrap .i64 ((i : Int) + m) = ((i + m : Nat) : Int) := by rw [wrap64 (by omega) (by omega)]; simp
  unfold insK
  refine bareK_step (sl_from hS hq (by omega) (by omega)) ?_
  refine bareK_step (len_sl hS) ?_
  refine bareK_step (v := .bool false) (by rw [goInt, xbin_eql]; simp; omega) ?_
  refine c_false ?_
  refine after_n ?_
  refine bareK_step (len_sl (l := l) (c := 2 * c) (a := some ⟨b, o, none⟩) hS) ?_
  refine bareK_step (v := .bool false) (by refine Eq.trans (xbin_eql (a := (i : Int)) (b := (l : Int))) ?_; simp; omega) ?_
  refine c_false ?_
  refine after_n ?_
  refine bareK_step (v := .int .i64 ((l + m : Nat) : Int)) (by refine Eq.trans (xbin_add (a := (l : Int)) (b := (m : Int))) ?_; rw [w1]) ?_
  refine Eq.trans (b := nextK C H (some (.val (goInt c) H)) _) (by
    have : xbuiltin P .cap [tS] [.slice (some ⟨b, o, none⟩) l (2 * c)] H = some (.val (goInt c) H) := by
      simp [xbuiltin, bare, xcap, hS]
    exact congrArg (fun x => nextK C H x _) this) ?_
  refine Eq.trans nextK_val ?_
  refine bareK_step (v := .bool false) (by refine Eq.trans (xbin_gtr (a := ((l + m : Nat) : Int)) (b := (c : Int))) ?_; simp; omega) ?_
  refine c_false ?_
  refine after_n ?_
  refine bareK_step (v := .int .i64 ((l + m : Nat) : Int)) (by refine Eq.trans (xbin_add (a := (l : Int)) (b := (m : Int))) ?_; rw [w1]) ?_
  refine bareK_step (sl_to (l := l) (b := b) (o := o) (c := c) (h := l + m) hS hq (by omega) (by omega)) ?_
  refine bareK_step (v := .int .i64 ((i + m : Nat) : Int)) (by refine Eq.trans (xbin_add (a := (i : Int)) (b := (m : Int))) ?_; rw [w2]) ?_
  refine bareK_step (sl_from hS hq (by omega) (by omega)) ?_
  refine Eq.trans (ovl_call hO hS hq hv hH hxs hne htl hov hm (by omega)) ?_
  refine bareK_step xun_not ?_
  refine c_true ?_
  refine bareK_step (v := .int .i64 ((i + m : Nat) : Int)) (by refine Eq.trans (xbin_add (a := (i : Int)) (b := (m : Int))) ?_; rw [w2]) ?_
  refine bareK_step (sl_from hS hq (by omega) (by omega)) ?_
  refine bareK_step (sl_from (i := i) hS hq (by omega) (by omega)) ?_
  have e1 : (if c = i + m then o else o + (i + m) * sz) = o + (i + m) * sz := by rw [if_neg (by omega)]
  have e2 : (if c = i then o else o + i * sz) = o + i * sz := by rw [if_neg (by omega)]
  rw [e1, e2]
  refine bothK_step (copy_sl (m := l - i) hS hq (by show min _ _ = _; omega) (by omega) hcut hst) ?_
  refine Eq.trans checkK_true ?_
  refine bareK_step (sl_from (i := i) hS hq (by omega) (by omega)) ?_
  rw [e2]
  refine bothK_step (copy_sl (m := m) hS hq (by show min _ _ = _; omega) hm hcut2 hst2) ?_
  exact after_r rfl

/-- append(s[:i], make(S, k)...) where there is no room: a new row. -/
theorem app_zeros {tS tI el : TypeId} (hS : P.underlying tS = some (.slice el)) (hI : P.underlying tI = some (.int .i64)) {z : List Value} (hz : zrow P el = some z) {b o c i k : Nat} {old : List Value}
    (hk : k ≠ 0) (hno : c < i + k) (hb1 : (i + k) * P.bytesOf el ≤ 140737488355328) (hb2 : i + k ≤ 140737488355328) (h1 : (zeros z k).all one = true) (ho : oldOf z.length i H (some ⟨b, o, none⟩) = some old) :
    xappend P [tS, tI] (.slice (some ⟨b, o, none⟩) i (2 * c)) (.int .i64 k) H = some (.slice (some ⟨H.n, 0, none⟩) (i + k) (2 * (i + k) + 1), H.push (.cells (old ++ zeros z k) el true)) := by
  have h2 : 2 * c / 2 = c := by omega
  have h3 : 2 * c % 2 = 0 := by omega
  have h4 : k * P.bytesOf el ≤ 140737488355328 := Nat.le_trans (Nat.mul_le_mul_right _ (by omega)) hb1
  have h5 : ¬ (140737488355328 < (i + k) * P.bytesOf el ∨ 140737488355328 < i + k) := by omega
  have h6 : ¬ (i + k ≤ c) := by omega
  have h4' : (k : Int) * (P.bytesOf el : Int) ≤ 140737488355328 := by
    rw [← Int.natCast_mul]
    omega
  have h7 : (k : Int) ≤ 140737488355328 := by omega
  simp [xappend, hS, hz, app, srcOf, hI, srcZ, h4', h7, hk, h5, h2, h3, h6, ho]
  simpa using h1

/-- THERE IS NO ROOM: a new row. -/
theorem insK_new {C : CallF} {n : Nat} {tS tI el : TypeId} {fO fR : FuncId} {K0 : K} (hS : P.underlying tS = some (.slice el)) (hI : P.underlying tI = some (.int .i64)) {z : List Value} (hz : zrow P el = some z) (hq : sizeQ P el = some z.length)
    {b o l c i m bv ov cv : Nat} {old new tail : List Value} (hi : i < l) (hl : l ≤ c) (hm : m ≠ 0) (hno : c < l + m) (hb1 : (l + m) * P.bytesOf el ≤ 140737488355328) (hb2 : l + m ≤ 140737488355328)
    (h1 : (zeros z (l + m - i)).all one = true) (ho : oldOf z.length i H (some ⟨b, o, none⟩) = some old)
    {H1 H2 H3 : AHeap} (hH1 : H1 = H.push (.cells (old ++ zeros z (l + m - i)) el true))
    (hcut : cut H1 bv ov (m * z.length) = some new) (hst : stL H1 H.n (i * z.length) new = some H2)
    (hcut2 : cut H2 b (o + i * z.length) ((l - i) * z.length) = some tail) (hst2 : stL H2 H.n ((i + m) * z.length) tail = some H3) {xs2 : List Value} (hrow : H2.f H.n = .cells xs2 el true) :
    insK std P C n tS tI fO fR (.slice (some ⟨b, o, none⟩) l (2 * c)) (.int .i64 i) (.slice (some ⟨bv, ov, none⟩) m cv) H K0 = K0 .ret [(6, .slice (some ⟨H.n, 0, none⟩) (l + m) (2 * (l + m) + 1))] H3 := by
  have w1 : IntKind.wrap .i64 ((l : Int) + m) = ((l + m : Nat) : Int) := by rw [wrap64 (by omega) (by omega)]; simp
  have w2 : IntKind.wrap .i64 ((i : Int) + m) = ((i + m : Nat) : Int) := by rw [wrap64 (by omega) (by omega)]; simp
  have w3 : IntKind.wrap .i64 (((l + m : Nat) : Int) - i) = ((l + m - i : Nat) : Int) := by rw [wrap64 (by omega) (by omega)]; omega
  unfold insK
  refine bareK_step (sl_from hS hq (by omega) (by omega)) ?_
  refine bareK_step (len_sl hS) ?_
  refine bareK_step (v := .bool false) (by rw [goInt, xbin_eql]; simp; omega) ?_
  refine c_false ?_
  refine after_n ?_
  refine bareK_step (len_sl (l := l) (c := 2 * c) (a := some ⟨b, o, none⟩) hS) ?_
  refine bareK_step (v := .bool false) (by refine Eq.trans (xbin_eql (a := (i : Int)) (b := (l : Int))) ?_; simp; omega) ?_
  refine c_false ?_
  refine after_n ?_
  refine bareK_step (v := .int .i64 ((l + m : Nat) : Int)) (by refine Eq.trans (xbin_add (a := (l : Int)) (b := (m : Int))) ?_; rw [w1]) ?_
  refine Eq.trans (b := nextK C H (some (.val (goInt c) H)) _) (by
    have : xbuiltin P .cap [tS] [.slice (some ⟨b, o, none⟩) l (2 * c)] H = some (.val (goInt c) H) := by
      simp [xbuiltin, bare, xcap, hS]
    exact congrArg (fun x => nextK C H x _) this) ?_
  refine Eq.trans nextK_val ?_
  refine bareK_step (v := .bool true) (by refine Eq.trans (xbin_gtr (a := ((l + m : Nat) : Int)) (b := (c : Int))) ?_; simp; omega) ?_
  refine c_true ?_
  refine bareK_step (sl_to (l := l) (b := b) (o := o) (c := c) (h := i) hS hq (by omega) (by omega)) ?_
  refine bareK_step (v := .int .i64 ((l + m : Nat) : Int)) (by refine Eq.trans (xbin_add (a := (l : Int)) (b := (m : Int))) ?_; rw [w1]) ?_
  refine bareK_step (v := .int .i64 ((l + m - i : Nat) : Int)) (by refine Eq.trans (xbin_sub (a := ((l + m : Nat) : Int)) (b := (i : Int))) ?_; rw [w3]) ?_
  have e0 : i + (l + m - i) = l + m := by omega
  have happ := app_zeros (tS := tS) (tI := tI) (b := b) (o := o) (c := c) (i := i) (k := l + m - i) hS hI hz (by omega) (by omega) (by rw [e0]; exact hb1) (by omega) h1 ho
  rw [e0, ← hH1] at happ
  refine bothK_step happ ?_
  have hr1 : H1.f H.n = .cells (old ++ zeros z (l + m - i)) el true := by rw [hH1]; exact AHeap.push_new _ _
  refine bareK_step (sl_from' (i := i) hS hq (by omega) (by omega) hr1) ?_
  rw [Nat.zero_add]
  refine bothK_step (copy_sl (m := m) hS hq (by show min _ _ = _; omega) hm hcut hst) ?_
  refine bareK_step (v := .int .i64 ((i + m : Nat) : Int)) (by refine Eq.trans (xbin_add (a := (i : Int)) (b := (m : Int))) ?_; rw [w2]) ?_
  refine bareK_step (sl_from' (i := i + m) hS hq (by omega) (by omega) hrow) ?_
  refine bareK_step (sl_from (b := b) (o := o) (l := l) (c := c) (i := i) hS hq (by omega) (by omega)) ?_
  have e2 : (if c = i then o else o + i * z.length) = o + i * z.length := by rw [if_neg (by omega)]
  rw [e2, Nat.zero_add]
  refine bothK_step (copy_sl (m := l - i) hS hq (by show min _ _ = _; omega) (by omega) hcut2 hst2) ?_
  refine Eq.trans checkK_true ?_
  exact after_r rfl

end Go.Proofs.Ytehnchfnhbmkdaa.Eng

/-
  The engine, part 20: slices.Insert, taken as a whole.
  Conditions: none. By an AI agent.
-/
namespace Go.Proofs.Ytehnchfnhbmkdaa.Eng
open Go
set_option linter.unusedVariables false
set_option linter.unusedSimpArgs false

/-- slices.Insert where the capacity is not known: in place if there is room for sure; else the row that comes of it is one that nobody else names. -/
def insS (P : Program) (el : TypeId) (z : List Value) (args : List Value) (H : AHeap) : Res :=
  match args with
  | [.slice (some ⟨b, o, none⟩) l code, .int .i64 (.ofNat i), .slice (some ⟨bv, ov, none⟩) m _] =>
    match H.f b, H.f bv with
    | .cells xs e true, .cells ys ev true =>
      if code % 2 = 1 ∧ e = el ∧ i < l ∧ l ≤ code / 2 ∧ m ≠ 0 ∧ (l + m) * P.bytesOf el ≤ 140737488355328 ∧ l + m ≤ 140737488355328 ∧ bv ≠ b ∧ tailQ P ev = 1 ∧ o + code / 2 * z.length = xs.length ∧
          ov + m * z.length ≤ ys.length ∧ 0 < xs.length ∧ ((ys.drop ov).take (m * z.length)).all one = true ∧ ((xs.drop (o + i * z.length)).take ((l - i) * z.length)).all one = true ∧ (zeros z (l + m - i)).all one = true then
        if l + m ≤ code / 2 then
          some (.slice (some ⟨b, o, none⟩) (l + m) code,
            (H.set b (.cells (spl xs (o + (i + m) * z.length) ((xs.drop (o + i * z.length)).take ((l - i) * z.length))) el true)).set b
              (.cells (spl (spl xs (o + (i + m) * z.length) ((xs.drop (o + i * z.length)).take ((l - i) * z.length))) (o + i * z.length) ((ys.drop ov).take (m * z.length))) el true))
        else some (.slice (some ⟨H.n, 0, none⟩) (l + m) (2 * (l + m) + 1),
            (H.set b .dead).push (.cells ((xs.drop o).take (i * z.length) ++ ((ys.drop ov).take (m * z.length) ++ (xs.drop (o + i * z.length)).take ((l - i) * z.length))) el true))
      else none
    | _, _ => none
  | _ => none

/-- The whole: first its text as it stands, where the engine can run it. -/
def insP (P : Program) (hints : Hints) (f : FuncId) (el : TypeId) (z : List Value) : List Value → AHeap → Res := fun args H =>
  match dBody P hints (fun _ _ _ => none) 1 f args H with
  | some r => some r
  | none => insS P el z args H

theorem spl_get : ∀ (vs xs : List Value) (o j : Nat), o + vs.length ≤ xs.length → (spl xs o vs)[j]? = if o ≤ j ∧ j < o + vs.length then vs[j - o]? else xs[j]?
  | [], xs, o, j, _ => by simp [spl]; intro h1 h2; omega
  | v :: vs, xs, o, j, h => by
    rw [spl, spl_get vs (xs.set o v) (o + 1) j (by simp at h ⊢; omega)]
    simp only [List.length_cons] at h ⊢
    by_cases h1 : o + 1 ≤ j ∧ j < o + 1 + vs.length
    · rw [if_pos h1, if_pos (by omega)]
      obtain ⟨d, hd⟩ : ∃ d, j - o = d + 1 := ⟨j - o - 1, by omega⟩
      rw [hd, show j - (o + 1) = d by omega]
      simp
    · rw [if_neg h1]
      by_cases h2 : j = o
      · subst h2
        rw [if_pos (by omega)]
        simp [show j < xs.length by omega]
      · rw [if_neg (by omega), List.getElem?_set_ne (by omega)]

/-- In place: what stands there then. -/
theorem ins_cells {xs new : List Value} {o A M T : Nat} (hx : o + A + M + T ≤ xs.length) (hM : new.length = M) {j : Nat} (hj : j < A + M + T) :
    (spl (spl xs (o + (A + M)) ((xs.drop (o + A)).take T)) (o + A) new)[o + j]? = ((xs.drop o).take A ++ (new ++ (xs.drop (o + A)).take T))[j]? := by
  have hT : ((xs.drop (o + A)).take T).length = T := by simp; omega
  have hA : ((xs.drop o).take A).length = A := by simp; omega
  rw [spl_get _ _ _ _ (by rw [spl_length]; omega), spl_get _ _ _ _ (by omega)]
  rw [List.getElem?_append, hA, List.getElem?_append, hM, hT]
  by_cases h1 : j < A
  · rw [if_neg (by omega), if_neg (by omega), if_pos h1, List.getElem?_take_of_lt h1, List.getElem?_drop]
  · by_cases h2 : j < A + M
    · rw [if_pos (by omega), if_neg h1, if_pos (by omega), show o + j - (o + A) = j - A by omega]
    · rw [if_neg (by omega), if_pos (by omega), if_neg h1, if_neg (by omega), show o + j - (o + (A + M)) = j - A - M by omega]

/-- In a new row. -/
theorem ins_row {old zs new tail : List Value} (hz : zs.length = new.length + tail.length) : spl (spl (old ++ zs) old.length new) (old.length + new.length) tail = old ++ (new ++ tail) := by
  apply List.ext_getElem?
  intro j
  rw [spl_get _ _ _ _ (by rw [spl_length]; simp; omega), spl_get _ _ _ _ (by simp; omega)]
  rw [List.getElem?_append (l₁ := old) (l₂ := new ++ tail), List.getElem?_append (l₁ := new) (l₂ := tail), List.getElem?_append (l₁ := old) (l₂ := zs)]
  by_cases h1 : j < old.length
  · rw [if_neg (by omega), if_neg (by omega), if_pos h1, if_pos h1]
  · by_cases h2 : j < old.length + new.length
    · rw [if_neg (by omega), if_pos (by omega), if_neg h1, if_pos (by omega)]
    · by_cases h3 : j < old.length + new.length + tail.length
      · rw [if_pos (by omega), if_neg h1, if_neg (by omega), show j - old.length - new.length = j - (old.length + new.length) by omega]
      · rw [if_neg (by omega), if_neg (by omega), if_neg h1, if_neg h1, if_neg (by omega), List.getElem?_eq_none (by omega), List.getElem?_eq_none (by omega)]

variable {P : Program} {B : Nat} {ι : Emb} {H : AHeap} {w : World}

/-- Blocks may be forgotten, and stamps turned. -/
theorem Rel.less {H' : AHeap} (r : Rel P B ι H w) (hn : H'.n = H.n) (hf : ∀ b, H'.f b = H.f b ∨ H'.f b = .dead) (hv : ∀ b, H'.ver b < H'.clk) : Rel P B ι H' w := by
  have hown : ∀ b, owned (H'.f b) = true → owned (H.f b) = true := fun b h => by
    rcases hf b with e | e
    · rwa [e] at h
    · rw [e] at h; simp [owned] at h
  have hal : ∀ b, alive (H'.f b) = true → alive (H.f b) = true := fun b h => by
    rcases hf b with e | e
    · rwa [e] at h
    · rw [e] at h; simp [alive] at h
  refine ⟨fun b L h => ?_, fun b L h => by rw [hn]; exact r.lt b L h, fun b c L M h1 h2 hne ho ha => r.inj b c L M h1 h2 hne (hown b ho) (hal c ha), r.base, hv, r.glob⟩
  rcases hf b with e | e
  · rw [e]; exact r.blk b L h
  · rw [e]; trivial

theorem Stp.less {ι' : Emb} {H1 H2 : AHeap} {w' : World} (s : Stp ι H w ι' H1 w') (hn : H2.n = H1.n) (hf : ∀ b, H2.f b = H1.f b ∨ H2.f b = .dead) (hv : VO H H2) : Stp ι H w ι' H2 w' :=
  ⟨s.ext, hv.n, s.wn, s.os, s.tape, s.output, s.fr, s.new, fun b L hb hl ho => s.own b L hb hl (by
    rcases hf b with e | e
    · rwa [e] at ho
    · rw [e] at ho; simp [owned] at ho), hv⟩

theorem cut_ok {b o n : Nat} {xs : List Value} {e : TypeId} {rw' : Bool} (h : H.f b = .cells xs e rw') (hf : o + n ≤ xs.length) : cut H b o n = some ((xs.drop o).take n) := by
  unfold cut
  simp [h, hf]

theorem stL_ok {b o : Nat} {xs vs : List Value} {e : TypeId} (h : H.f b = .cells xs e true) (hf : o + vs.length ≤ xs.length) (h1 : vs.all one = true) : stL H b o vs = some (H.set b (.cells (spl xs o vs) e true)) := by
  unfold stL
  simp only [h, hf, if_true, h1]

theorem insS_ad {el : TypeId} {z : List Value} {args : List Value} {v : Value} {H' : AHeap} (h : insS P el z args H = some (v, H')) (hc : Cl H) (ha : ADs H.n args) : OkV H H' v := by
  unfold insS at h
  split at h
  · rename_i b o l code i bv ov m cv
    split at h
    · rename_i xs e ys ev hf1 hf2
      split at h
      · rename_i hcond
        have hxs := hc.cells _ _ _ _ hf1
        have hys := hc.cells _ _ _ _ hf2
        have hb : b < H.n := by
          have := ha (.slice (some ⟨b, o, none⟩) l code) (by simp)
          cases this
          assumption
        split at h
        · cases h
          have h1 : Cl (H.set b (.cells (spl xs (o + (i + m) * z.length) ((xs.drop (o + i * z.length)).take ((l - i) * z.length))) el true)) :=
            hc.set b (fun _ _ _ hk => by cases hk; exact ADs.spl ((hxs.drop _).take _) hxs) (fun _ hk => by cases hk)
          refine ⟨h1.set b (fun _ _ _ hk => by cases hk; exact ADs.spl ((hys.drop _).take _) (ADs.spl ((hxs.drop _).take _) hxs)) (fun _ hk => by cases hk), .sl hb, ?_⟩
          exact (VO.set _ _ _ (by simp [hf1, alive])).trans (VO.set _ _ _ (by simp [alive]))
        · cases h
          have h1 : Cl (H.set b .dead) := hc.kill b
          refine ⟨h1.row ?_, .sl (by simp), (VO.set _ _ _ (by simp [alive])).trans (VO.push _ _)⟩
          have hm : H.n ≤ (H.set b .dead).n + 1 := by simp
          exact (((hxs.drop _).take _).append (((hys.drop _).take _).append ((hxs.drop _).take _))).mono hm
      · cases h
    · cases h
  · cases h

theorem none_ok : CallOK P fun _ _ _ => none := by intro f args H v H' h; cases h
theorem none_ad : CallAd fun _ _ _ => none := by intro f args H v H' h; cases h

/-- What is asked of the program. -/
structure InsOK (P : Program) (hints : Hints) (f : FuncId) (tS tI el : TypeId) (z : List Value) (fO fR : FuncId) : Prop where
  mixed : P.follows .mixedOrders = true
  body : ∀ (C : CallF) (n : Nat) (a0 a1 a2 : Value) (H : AHeap), dBodyK std P hints C n f [a0, a1, a2] H = insK std P C n tS tI fO fR a0 a1 a2 H (endK P [.tmp 6])
  hS : P.underlying tS = some (.slice el)
  hI : P.underlying tI = some (.int .i64)
  hz : zrow P el = some z
  hsz : sizeQ P el = some z.length
  ovl : Ovl P tS fO

theorem InsOK.run {hints : Hints} {f : FuncId} {tS tI el : TypeId} {z : List Value} {fO fR : FuncId} (I : InsOK P hints f tS tI el z fO fR) {n : Nat} {a0 a1 a2 v : Value} {H' : AHeap}
    (h : ∀ C K0, insK std P C n tS tI fO fR a0 a1 a2 H K0 = K0 .ret [(6, v)] H') : dBody P hints (fun _ _ _ => none) n f [a0, a1, a2] H = some (v, H') := by
  rw [← dBodyK_eq, I.body, h]
  rfl

theorem rv_even {ι : Emb} {b o l cc q : Nat} {v' : Value} (h : RV ι (.slice (some ⟨b, o, none⟩) l q) v') (hq : q = 2 * cc) (hl : l ≠ 0) : ∃ L, ι b = some L ∧ v' = .slice (some ⟨L.cb, L.base + o, none⟩) l cc ∧ l ≤ cc := by
  cases h with
  | sle h1 h2 =>
    have := Nat.eq_of_mul_eq_mul_left (by omega : 0 < 2) hq
    subst this
    exact ⟨_, h1, rfl, h2⟩
  | sli h1 _ _ _ => omega
  | sl0 h1 => exact absurd rfl hl

/-- THE PRIM. -/
theorem ins_prim {hints : Hints} {f : FuncId} {tS tI el : TypeId} {z : List Value} {fO fR : FuncId} (I : InsOK P hints f tS tI el z fO fR) :
    (CallAd fun _ args H => insP P hints f el z args H) ∧ CallOK P fun g args H => if g = f then insP P hints f el z args H else none := by
  constructor
  · intro g args H v H' h hl ha
    replace h : insP P hints f el z args H = some (v, H') := h
    unfold insP at h
    split at h
    · rename_i r hr
      cases h
      exact body_ad none_ad 1 f args H v H' hr hl ha
    · exact insS_ad h hl ha
  · intro g args H v H' h2 hl had B ι w args' r ha
    by_cases hg : g = f
    · subst hg
      simp only [if_true] at h2
      unfold insP at h2
      split at h2
      · rename_i r0 hr
        cases h2
        exact body_sound none_ok none_ad I.mixed 1 g args H v H' hr hl had B ι w args' r ha
      · have hOk := insS_ad h2 hl had
        unfold insS at h2
        split at h2
        · rename_i b o l code i bv ov m cv _
          split at h2
          · rename_i xs e ys ev hf1 hf2
            split at h2
            · rename_i hcond
              obtain ⟨hodd, rfl, hil, hlc, hm0, hb1, hb2, hne, htl, hend, hvfit, hx0, hn1, ht1, hz1⟩ := hcond
              cases ha with | cons ha1 t => cases t with | cons ha2 t => cases t with | cons ha3 t => cases t with | nil =>
              cases ha2
              cases ha1 with
              | sle hL hn => omega
              | sl0 hk => omega
              | sli hL hc hn ht =>
                rename_i c cc L _
                have hcode : (2 * c + 1) / 2 = c := by omega
                rw [hcode] at hlc hend h2
                have hblk := r.blk b L hL
                rw [hf1] at hblk
                obtain ⟨cs, e', fr, g1, g2, g3, g4, g5⟩ := hblk
                obtain ⟨gB, rfl, gsz, gfr⟩ := g5 rfl
                have hsz : L.sz = z.length := by rw [gsz]; exact sizeQ_cells I.hsz
                rw [hsz] at ht
                have hA : (i + m) * z.length = i * z.length + m * z.length := Nat.add_mul _ _ _
                have hT : (l - i) * z.length + i * z.length = l * z.length := by rw [← Nat.add_mul]; congr 1; omega
                have hlcz : l * z.length ≤ c * z.length := Nat.mul_le_mul_right _ hlc
                have hvl : ((ys.drop ov).take (m * z.length)).length = m * z.length := by simp; omega
                have htll : ((xs.drop (o + i * z.length)).take ((l - i) * z.length)).length = (l - i) * z.length := by simp; omega
                have hval : ∀ {Hx : AHeap}, Hx.n = H.n → ADs Hx.n [.slice (some ⟨b, o, none⟩) l (2 * cc), .int .i64 (.ofNat i), .slice (some ⟨bv, ov, none⟩) m cv] := by
                  intro Hx hn
                  rw [hn]
                  have k1 := had (.slice (some ⟨b, o, none⟩) l (2 * c + 1)) (by simp)
                  have k3 := had (.slice (some ⟨bv, ov, none⟩) m cv) (by simp)
                  refine ADs.cons ?_ (ADs.cons (.int _ _) (ADs.cons k3 ADs.nil))
                  cases k1; exact .sl (by assumption)
                have hargs : RVs ι [.slice (some ⟨b, o, none⟩) l (2 * cc), .int .i64 (.ofNat i), .slice (some ⟨bv, ov, none⟩) m cv] _ := .cons (.sle hL hn) (.cons (.int _ _) (.cons ha3 .nil))
                by_cases hroom : l + m ≤ cc
                · have hrm : (l + m) * z.length ≤ cc * z.length := Nat.mul_le_mul_right _ hroom
                  have hlm : (l + m) * z.length = l * z.length + m * z.length := Nat.add_mul _ _ _
                  by_cases hsure : l + m ≤ c
                  · rw [if_pos hsure] at h2
                    cases h2
                    have hrm' : (l + m) * z.length ≤ c * z.length := Nat.mul_le_mul_right _ hsure
                    have hrun := I.run (n := 1) (H := H) (fun C K0 => insK_room (C := C) (n := 1) (K0 := K0) (fR := fR) (tI := tI) (cv := cv) I.hS I.hsz I.ovl hil hm0 hroom (by omega) hf1 hne hf2 (by omega) htl (by intro h; subst h; simp at hx0)
                      (cut_ok hf1 (by omega)) (stL_ok hf1 (by rw [htll]; omega) ht1)
                      (cut_ok (xs := ys) (by rw [AHeap.set_other _ _ hne]; exact hf2) (by omega)) (stL_ok (AHeap.set_same _ _ _) (by rw [spl_length, hvl]; omega) hn1))
                    refine (body_sound none_ok none_ad I.mixed 1 g _ H _ _ hrun hl (hval rfl) B ι w _ r hargs).mono ?_
                    rintro e w' ⟨v', ι', rfl, k1, k2, k3⟩
                    refine ⟨v', ι', rfl, ?_, k2, k3⟩
                    have hL' : ι' b = some L := by rw [k3.ext b (r.dom b L hL)]; exact hL
                    obtain ⟨L', e1, rfl, _⟩ := rv_even k1 rfl (by omega)
                    rw [hL'] at e1
                    cases e1
                    exact .sli hL' hc hroom (by rw [hsz]; omega)
                  · rw [if_neg hsure] at h2
                    cases h2
                    have hbn : b < H.n := r.dom b L hL
                    have hcz : (cc - c) * z.length + c * z.length = cc * z.length := by rw [← Nat.add_mul]; congr 1; omega
                    have hxl : (xs ++ List.replicate ((cc - c) * z.length) top).length = o + cc * z.length := by rw [List.length_append, List.length_replicate]; omega
                    have hk : RB P B ι w L (.cells (xs ++ List.replicate ((cc - c) * z.length) top) e' true) := by
                      refine ⟨cs, e', fr, g1, g2, by rw [hxl]; omega, fun j u hj => ?_, fun _ => ⟨gB, rfl, gsz, gfr⟩⟩
                      by_cases hjx : j < xs.length
                      · rw [List.getElem?_append_left hjx] at hj
                        exact g4 j u hj
                      · have hjl := (List.getElem?_eq_some_iff.1 hj).1
                        rw [List.getElem?_append_right (by omega), List.getElem?_replicate] at hj
                        split at hj
                        · cases hj
                          exact ⟨_, Array.getElem?_eq_getElem (by omega), .unk _⟩
                        · cases hj
                    obtain ⟨rx, sx⟩ := r.turn hL (by rw [hf1]; rfl) _ (w' := w) hk rfl (fun _ _ => rfl) rfl rfl rfl
                    have htx : ((xs ++ List.replicate ((cc - c) * z.length) top).drop (o + i * z.length)).take ((l - i) * z.length) = (xs.drop (o + i * z.length)).take ((l - i) * z.length) := by
                      rw [List.drop_append_of_le_length (by omega), List.take_append_of_le_length (by rw [List.length_drop]; omega)]
                    have hclx : Cl (H.set b (.cells (xs ++ List.replicate ((cc - c) * z.length) top) e' true)) := by
                      refine hl.set b (fun _ _ _ hk => ?_) (fun _ hk => by cases hk)
                      cases hk
                      refine ADs.append (hl.cells _ _ _ _ hf1) fun u hu => ?_
                      rw [List.mem_replicate] at hu
                      rw [hu.2]
                      exact .unk
                    have hfit : o + i * z.length + (l - i) * z.length ≤ (xs ++ List.replicate ((cc - c) * z.length) top).length := by rw [hxl]; omega
                    have hfit2 : o + (i + m) * z.length + (l - i) * z.length ≤ (xs ++ List.replicate ((cc - c) * z.length) top).length := by rw [hxl]; omega
                    have hrun := I.run (n := 1) (H := H.set b (.cells (xs ++ List.replicate ((cc - c) * z.length) top) e' true)) (fun C K0 => insK_room (C := C) (n := 1) (K0 := K0) (fR := fR) (tI := tI) (cv := cv) I.hS I.hsz I.ovl hil hm0 hroom (by omega)
                      (AHeap.set_same _ _ _) hne (by rw [AHeap.set_other _ _ hne]; exact hf2) (by omega) htl (by intro h; rw [h] at hxl; simp at hxl; omega)
                      (cut_ok (AHeap.set_same _ _ _) hfit) (stL_ok (AHeap.set_same _ _ _) (by rw [htx, htll]; exact hfit2) (by rw [htx]; exact ht1))
                      (cut_ok (xs := ys) (by rw [AHeap.set_other _ _ hne, AHeap.set_other _ _ hne]; exact hf2) (by omega)) (stL_ok (AHeap.set_same _ _ _) (by rw [spl_length, hvl, hxl]; omega) hn1))
                    refine (body_sound none_ok none_ad I.mixed 1 g _ _ _ _ hrun hclx (hval rfl) B ι w _ rx hargs).mono ?_
                    rintro en w' ⟨v', ι', rfl, k1, k2, k3⟩
                    have k3 := sx.trans k3
                    have hL' : ι' b = some L := by rw [k3.ext b hbn]; exact hL
                    obtain ⟨L', e1, rfl, _⟩ := rv_even k1 rfl (by omega)
                    rw [hL'] at e1
                    cases e1
                    have hblk2 := k2.blk b L hL'
                    rw [AHeap.set_same] at hblk2
                    obtain ⟨cs2, e2, fr2, q1, q2, q3, q4, q5⟩ := hblk2
                    have q5 := q5 rfl
                    rw [spl_length, spl_length, hxl] at q3
                    have hnone : ι' H.n = none := by
                      cases hq : ι' H.n with
                      | none => rfl
                      | some M =>
                        have := (k2.lt _ M hq).1
                        simp at this
                    have hup : ∀ x M, ι' x = some M → up ι' H.n ⟨L.cb, L.base + o, L.sz, L.total⟩ x = some M := by
                      intro x M hx
                      have : x ≠ H.n := by rintro rfl; rw [hnone] at hx; cases hx
                      simp [up, this, hx]
                    have hnew : up ι' H.n ⟨L.cb, L.base + o, L.sz, L.total⟩ H.n = some ⟨L.cb, L.base + o, L.sz, L.total⟩ := by simp [up]
                    have hoth : ∀ x, x ≠ H.n → up ι' H.n ⟨L.cb, L.base + o, L.sz, L.total⟩ x = ι' x := fun x hx => by simp [up, hx]
                    have hfold : ∀ {k : Blk} {x : Nat}, x ≠ H.n → x ≠ b → ((H.set b .dead).push k).f x = H.f x := by
                      intro k x hx hxb
                      rw [AHeap.push_old (H.set b .dead) _ (show x ≠ (H.set b .dead).n from hx), AHeap.set_other _ _ hxb]
                    have hfb : ∀ {k : Blk}, ((H.set b .dead).push k).f b = .dead := by
                      intro k
                      rw [AHeap.push_old (H.set b .dead) _ (show b ≠ (H.set b .dead).n from Nat.ne_of_lt hbn), AHeap.set_same]
                    have hfn : ∀ {k : Blk}, ((H.set b .dead).push k).f H.n = k := fun {k} => AHeap.push_new (H.set b .dead) k
                    refine ⟨_, up ι' H.n ⟨L.cb, L.base + o, L.sz, L.total⟩, rfl, ?_, ⟨fun x M hx => ?_, fun x M hx => ?_, fun x y M M' hx hy hxy hox hay => ?_, k2.base, hOk.1.ver, k2.glob⟩,
                      ⟨fun x hx => ?_, hOk.2.2.n, k3.wn, k3.os, k3.tape, k3.output, k3.fr, fun x M hx hM => ?_, fun x M hx hM ho => ?_, hOk.2.2⟩⟩
                    · have := RV.sli (ι := up ι' H.n ⟨L.cb, L.base + o, L.sz, L.total⟩) (o := 0) (n := l + m) (c := l + m) (cc := cc) hnew hroom hroom (by simp only [hsz]; omega)
                      simpa using this
                    · by_cases hxn : x = H.n
                      · subst hxn
                        rw [hnew] at hx
                        cases hx
                        rw [hfn]
                        refine ⟨cs2, e2, fr2, q1, q2, ?_, fun j u hj => ?_, fun _ => q5⟩
                        · have holdl : ((xs.drop o).take (i * z.length)).length = i * z.length := by rw [List.length_take, List.length_drop]; omega
                          rw [List.length_append, List.length_append, hvl, htll, holdl]
                          show L.base + o + _ ≤ _
                          omega
                        · have hjl := (List.getElem?_eq_some_iff.1 hj).1
                          have holdl : ((xs.drop o).take (i * z.length)).length = i * z.length := by rw [List.length_take, List.length_drop]; omega
                          rw [List.length_append, List.length_append, hvl, htll, holdl] at hjl
                          have hic := ins_cells (xs := xs ++ List.replicate ((cc - c) * z.length) top) (new := (ys.drop ov).take (m * z.length)) (o := o) (A := i * z.length) (M := m * z.length) (T := (l - i) * z.length) (by rw [hxl]; omega) hvl (j := j) (by omega)
                          rw [htx, show ((xs ++ List.replicate ((cc - c) * z.length) top).drop o).take (i * z.length) = (xs.drop o).take (i * z.length) by
                            rw [List.drop_append_of_le_length (by omega), List.take_append_of_le_length (by rw [List.length_drop]; omega)]] at hic
                          rw [← hA] at hic
                          rw [← hic] at hj
                          obtain ⟨u', c1, c2⟩ := q4 (o + j) u (by rw [htx]; exact hj)
                          exact ⟨u', by rw [Nat.add_assoc]; exact c1, c2.mono hup⟩
                      · rw [hoth x hxn] at hx
                        by_cases hxb : x = b
                        · subst hxb
                          rw [hfb]
                          trivial
                        · rw [hfold hxn hxb]
                          have := k2.blk x M hx
                          rw [AHeap.set_other _ _ hxb, AHeap.set_other _ _ hxb, AHeap.set_other _ _ hxb] at this
                          exact this.mono hup
                    · by_cases hxn : x = H.n
                      · subst hxn
                        rw [hnew] at hx
                        cases hx
                        exact ⟨by simp, (k2.lt b L hL').2⟩
                      · rw [hoth x hxn] at hx
                        have := k2.lt x M hx
                        exact ⟨by have := this.1; simp at this ⊢; omega, this.2⟩
                    · have hob : owned (.cells (spl (spl (xs ++ List.replicate ((cc - c) * z.length) top) (o + (i + m) * z.length) (((xs ++ List.replicate ((cc - c) * z.length) top).drop (o + i * z.length)).take ((l - i) * z.length))) (o + i * z.length) ((ys.drop ov).take (m * z.length))) e' true) = true := rfl
                      by_cases hxn : x = H.n
                      · have hyn : y ≠ H.n := by rintro rfl; exact hxy hxn
                        subst hxn
                        rw [hnew] at hx
                        cases hx
                        rw [hoth y hyn] at hy
                        have hyb : y ≠ b := by rintro rfl; rw [hfb] at hay; simp [alive] at hay
                        rw [hfold hyn hyb] at hay
                        exact k2.inj b y L M' hL' hy (Ne.symm hyb) (by rw [AHeap.set_same]; rfl) (by rw [AHeap.set_other _ _ hyb, AHeap.set_other _ _ hyb, AHeap.set_other _ _ hyb]; exact hay)
                      · rw [hoth x hxn] at hx
                        have hxb : x ≠ b := by rintro rfl; rw [hfb] at hox; simp [owned] at hox
                        rw [hfold hxn hxb] at hox
                        by_cases hyn : y = H.n
                        · subst hyn
                          rw [hnew] at hy
                          cases hy
                          exact k2.inj x b M L hx hL' hxb (by rw [AHeap.set_other _ _ hxb, AHeap.set_other _ _ hxb, AHeap.set_other _ _ hxb]; exact hox) (by rw [AHeap.set_same]; rfl)
                        · rw [hoth y hyn] at hy
                          have hyb : y ≠ b := by rintro rfl; rw [hfb] at hay; simp [alive] at hay
                          rw [hfold hyn hyb] at hay
                          exact k2.inj x y M M' hx hy hxy (by rw [AHeap.set_other _ _ hxb, AHeap.set_other _ _ hxb, AHeap.set_other _ _ hxb]; exact hox) (by rw [AHeap.set_other _ _ hyb, AHeap.set_other _ _ hyb, AHeap.set_other _ _ hyb]; exact hay)
                    · rw [hoth x (Nat.ne_of_lt hx)]; exact k3.ext x hx
                    · by_cases hxn : x = H.n
                      · subst hxn
                        rw [hnew] at hM
                        cases hM
                        exact .inr ⟨b, L, hbn, hL, by rw [hf1]; rfl, rfl⟩
                      · rw [hoth x hxn] at hM
                        have := (k2.lt x M hM).1
                        simp at this
                        omega
                    · have hxn : x ≠ H.n := Nat.ne_of_lt hx
                      have hxb : x ≠ b := by rintro rfl; rw [hfb] at ho; simp [owned] at ho
                      rwa [hfold hxn hxb] at ho
                · have hsure : ¬ l + m ≤ c := by omega
                  rw [if_neg hsure] at h2
                  cases h2
                  have hbn : b < H.n := r.dom b L hL
                  have hbvn : bv < H.n := by
                    have k3 := had (.slice (some ⟨bv, ov, none⟩) m cv) (by simp)
                    cases k3
                    assumption
                  have holdl : ((xs.drop o).take (i * z.length)).length = i * z.length := by rw [List.length_take, List.length_drop]; omega
                  have hkk : (l + m - i) * z.length = (l - i) * z.length + m * z.length := by rw [← Nat.add_mul]; congr 1; omega
                  have hzl : (zeros z (l + m - i)).length = (l + m - i) * z.length := zeros_length _ _
                  have ho : oldOf z.length i H (some ⟨b, o, none⟩) = some ((xs.drop o).take (i * z.length)) := by
                    unfold oldOf
                    split
                    · rename_i h0; subst h0; simp
                    · exact cut_ok hf1 (by omega)
                  have hrun := I.run (n := 1) (H := H) (fun C K0 => insK_new (C := C) (n := 1) (K0 := K0) (fO := fO) (fR := fR) (cv := cv) I.hS I.hI I.hz I.hsz hil hn hm0 (by omega) hb1 hb2 hz1 ho rfl
                    (cut_ok (xs := ys) (by rw [AHeap.push_old _ _ (Nat.ne_of_lt hbvn)]; exact hf2) (by omega)) (stL_ok (AHeap.push_new _ _) (by rw [List.length_append, holdl, hzl, hvl]; omega) hn1)
                    (cut_ok (xs := xs) (by rw [AHeap.set_other _ _ (Nat.ne_of_lt hbn), AHeap.push_old _ _ (Nat.ne_of_lt hbn)]; exact hf1) (by omega))
                    (stL_ok (AHeap.set_same _ _ _) (by rw [spl_length, List.length_append, holdl, hzl, htll]; omega) ht1) (AHeap.set_same _ _ _))
                  refine (body_sound none_ok none_ad I.mixed 1 g _ H _ _ hrun hl (hval rfl) B ι w _ r hargs).mono ?_
                  rintro en w' ⟨v', ι', rfl, k1, k2, k3⟩
                  have hrow := ins_row (old := (xs.drop o).take (i * z.length)) (zs := zeros z (l + m - i)) (new := (ys.drop ov).take (m * z.length)) (tail := (xs.drop (o + i * z.length)).take ((l - i) * z.length)) (by rw [hzl, hvl, htll]; omega)
                  rw [holdl, hvl, ← hA] at hrow
                  refine ⟨v', ι', rfl, k1, k2.less rfl (fun x => ?_) hOk.1.ver, k3.less rfl (fun x => ?_) hOk.2.2⟩
                  all_goals
                    by_cases hx : x = H.n
                    · left
                      subst hx
                      rw [AHeap.set_same, ← hrow]
                      exact AHeap.push_new (H.set b .dead) _
                    · by_cases hxb : x = b
                      · right
                        subst hxb
                        rw [AHeap.push_old (H.set x .dead) _ (show x ≠ (H.set x .dead).n from hx), AHeap.set_same]
                      · left
                        rw [AHeap.set_other _ _ hx, AHeap.set_other _ _ hx, AHeap.push_old H _ hx, AHeap.push_old (H.set b .dead) _ (show x ≠ (H.set b .dead).n from hx), AHeap.set_other _ _ hxb]
            · cases h2
          · cases h2
        · cases h2
    · simp [hg] at h2

end Go.Proofs.Ytehnchfnhbmkdaa.Eng

/-
  Chapter 48: slices.Collect of slices.Chunk: the iterator of Chunk, walked.
  Conditions: none. By an AI agent.
-/
namespace Go.Proofs.Ytehnchfnhbmkdaa
open Go Go.RowKit

/-- The piece of a slice at p. -/
def pc (b o len n p : Nat) : Value := .slice (some ⟨b, o + p, none⟩) (min n (len - p)) (min n (len - p))
def intN : Value → Nat | .int _ i => i.toNat | _ => 0

/-- What the iterator of slices.Chunk does: the rounds get the pieces, one by one. -/
def ChunkOK (F : Fence) (m : Nat) (pa pn : Addr) (s : Value) (b o len n : Nat) : Prop :=
  ∀ (l : Nat) (J : Nat → World → Prop), (∀ p W, J p W → J p W.drew) → (∀ p W, J p W → W.cell? pa = some s) → (∀ p W, J p W → W.cell? pn = some (.int .i64 n)) →
    (∀ p W, J p W → p < len → YieldAt F (m - 1) Try.prog l #[pc b o len n p] W fun e W' => e = .returned (.bool true) ∧ J (p + n) W') →
    ∀ (W : World), J 0 W → CallsIn F m Try.prog 49 #[.func (.yield l) #[] #[], .pointer (some pa), .pointer (some pn)] W fun e W' => (∃ v, e = .returned v) ∧ ∃ p, len ≤ p ∧ J p W'

set_option maxRecDepth 100000 in
theorem chunk0 (F : Fence) (m : Nat) (hf : F.fn 49) (hro : F.round = none) (pa pn : Addr) (b o n : Nat) (x : Option Addr) (c : Nat) : ChunkOK F m pa pn (.slice x 0 c) b o 0 n := by
  intro l J hD hc1 hc2 hY W h0
  have u22 := run_underlying Try.underlying22
  have u3 := run_underlying Try.underlying3
  refine callsIn_of_wp Try.func49 rfl hf ?_ hro
  simp only [Try.ntmps49, List.size_toArray, List.length_cons, List.length_nil, Nat.reduceAdd, Nat.reduceSub, Array.replicate_succ, Array.replicate_zero, List.push_toArray, List.append_toArray, List.nil_append, List.cons_append]
  gi_wp2
  gi_loopw [4] (fun v wr => v = .int .i64 0 ∧ J 0 wr) (fun v _ => 0)
  case atStart => exact ⟨rfl, h0⟩
  case round =>
    obtain ⟨rfl, hJ⟩ := hrel
    have g1 := hc1 0 _ hJ
    gi_wp2
    go_end0
    exact ⟨⟨_, rfl⟩, 0, by omega, hJ⟩

set_option maxRecDepth 100000 in
set_option maxHeartbeats 1000000 in
theorem chunk1 (F : Fence) (m : Nat) (hf : F.fn 49) (hro : F.round = none) (hm : 1 ≤ m) (pa pn : Addr) (b o len cap n : Nat) (hn1 : 1 ≤ n) (hn2 : n ≤ 4294967296) (hlen : len ≤ 1099511627776) (hcap : len ≤ cap) :
    ChunkOK F m pa pn (.slice (some ⟨b, o, none⟩) len cap) b o len n := by
  intro l J hD hc1 hc2 hY W h0
  have u22 := run_underlying Try.underlying22
  have u3 := run_underlying Try.underlying3
  refine callsIn_of_wp Try.func49 rfl hf ?_ hro
  simp only [Try.ntmps49, List.size_toArray, List.length_cons, List.length_nil, Nat.reduceAdd, Nat.reduceSub, Array.replicate_succ, Array.replicate_zero, List.push_toArray, List.append_toArray, List.nil_append, List.cons_append]
  gi_wp2
  gi_loopw [4] (fun v wr => ∃ p : Nat, v = .int .i64 (p : Int) ∧ p ≤ len + n ∧ J p wr) (fun v _ => len - intN v)
  case atStart => exact ⟨0, by simp, by omega, h0⟩
  case round =>
    obtain ⟨p, rfl, hp, hJ⟩ := hrel
    have g1 := hc1 p _ hJ
    have g2 := hc2 p _ hJ
    gi_wp2
    · have hlt : p < len := by omega
      obtain ⟨k, hk⟩ : ∃ k, k = min n (len - p) := ⟨_, rfl⟩
      have hk1 : 1 ≤ k ∧ k ≤ n ∧ p + k ≤ len := by omega
      have hmin : (if len - p < n then ((len - p : Nat) : Int) else (n : Int)) = (k : Int) := by split <;> omega
      obtain ⟨fn, tmps, assign, body, hy, hR⟩ := hY p wr.drew (hD _ _ hJ) hlt
      unfold pc at hy
      rw [← hk] at hy
      clear hk
      gi_region
      all_goals first | (exfalso; omega) | skip
      all_goals
        gi_wp2
        refine hR.mono ?_
        rintro e W3 ⟨rfl, hJ3⟩
        have g3 := hc2 _ _ hJ3
        gi_wp2
        go_roundw
        · exact ⟨p + n, by simp, by omega, hJ3⟩
        · simp only [intN]
          simp
          omega
    · go_end0
      exact ⟨⟨_, rfl⟩, p, by omega, hJ⟩

end Go.Proofs.Ytehnchfnhbmkdaa

/-
  Chapter 48: slices.Collect of slices.Chunk: AppendSeq, Collect.
  Conditions: none. By an AI agent.
-/
namespace Go.Proofs.Ytehnchfnhbmkdaa
open Go Go.RowKit

/-! ### What the rounds of AppendSeq keep -/
def rAs : Code := .region 2 #[{ dst := some 5, op := .assign (.tmp 7), type := 22, pos := "iter.go:51", after := #[], guard := none }] false
def rBody : Code := .block 1 (.region 3 #[{ dst := some 8, op := .load 25 (.tmp 2), type := 25, pos := "iter.go:52", after := #[], guard := none }, { dst := some 9, op := .move (.tmp 5), type := 22, pos := "iter.go:52", after := #[], guard := none },
  { dst := some 10, op := .buildSlice 25 1 #[(0, .tmp 9)], type := 25, pos := "iter.go:52", after := #[{ on := 1, ground := .data }], guard := none },
  { dst := some 11, op := .call { callee := .builtin .append, args := #[.tmp 8, .tmp 10], argTypes := #[25, 25] }, type := 25, pos := "iter.go:52", after := #[{ on := 0, ground := .data }, { on := 2, ground := .data }], guard := none },
  { dst := none, op := .store 25 (.tmp 2) (.tmp 11), type := 0, pos := "iter.go:52", after := #[{ on := 3, ground := .data }, { on := 3, ground := .chain }, { on := 0, ground := .phase }, { on := 1, ground := .phase }, { on := 2, ground := .phase }, { on := 3, ground := .phase }], guard := none }] false)
/-- The record of the loop. -/
def rec48 (fn : FuncId) (sv : Value) (Bs D : Nat) (st : LoopState) (pend : Option Code) : Loop :=
  { state := st, pending := pend, fn, tmps := #[.slice none 0 0, sv, .pointer (some ⟨Bs, 0, none⟩), undef, .slice none 0 0, undef, sv, undef, undef, undef, undef, undef, undef], params := #[7], assign := rAs, body := rBody, defers := D }

/-- Between two rounds: the variable holds a slice of its own with what has come. -/
structure Between (w0 : World) (fn : FuncId) (sv : Value) (Bs l D : Nat) (vs : List Value) (W : World) : Prop where
  box : ∃ v, W.heap[Bs]? = some (.cells #[v] 25 (0, 0)) ∧ W.ownsRow w0.heap.size 22 1 v vs.length vs ∧ (v = .slice none 0 0 ↔ vs = [])
  L : W.heap[l]? = some (.loop (rec48 fn sv Bs D .ready none))
  K : W.heap[D]? = some (.deferred (some []))
  below : Below w0.heap.size w0 W

theorem Between.drew {w0 : World} {fn : FuncId} {sv : Value} {Bs l D : Nat} {vs : List Value} {W : World} (h : Between w0 fn sv Bs l D vs W) : Between w0 fn sv Bs l D vs W.drew :=
  ⟨h.box, h.L, h.K, { h.below with }⟩

set_option maxRecDepth 100000 in
set_option maxHeartbeats 2000000 in
theorem yield48 (F : Fence) (m : Nat) (w0 : World) (fn : FuncId) (hfn : F.fn fn) (sv : Value) (Bs l D : Nat) (hBl : Bs ≠ l) (hDl : D ≠ l) (hDB : D ≠ Bs) (h0B : w0.heap.size ≤ Bs) (h0l : w0.heap.size ≤ l)
    (vs : List Value) (ad : Addr) (xl xc : Nat) (W : World) (h : Between w0 fn sv Bs l D vs W) (hlen : vs.length < 1099511627776) :
    YieldAt F m Try.prog l #[.slice (some ad) xl xc] W fun e W' => e = .returned (.bool true) ∧ Between w0 fn sv Bs l D (vs ++ [.slice (some ad) xl xc]) W' := by
  have mixed : Try.prog.follows .mixedOrders = true := by kernel_rfl
  have u25 := run_underlying Try.underlying25
  have u22 := run_underlying Try.underlying22
  obtain ⟨i0, hi⟩ : ∃ i0, Try.prog.info? 22 = some i0 := ⟨_, rfl⟩
  obtain ⟨v, hv, hrow, _⟩ := h.box
  refine ⟨fn, #[.slice none 0 0, sv, .pointer (some ⟨Bs, 0, none⟩), undef, .slice none 0 0, undef, sv, .slice (some ad) xl xc, undef, undef, undef, undef, undef], rAs, rBody, by simpa [rec48] using run_yield (P := Try.prog) (args := #[.slice (some ad) xl xc]) h.L rfl, roundIn_of_wpIn hfn ?_⟩
  have hl : l < W.heap.size := (Array.getElem?_eq_some_iff.1 h.L).1
  have hbr := run_beginRound (P := Try.prog) h.L rfl
  obtain ⟨W2, hW2⟩ : ∃ W2, W.putObj l (.loop { rec48 fn sv Bs D .ready none with state := .busy }) = W2 := ⟨_, rfl⟩
  rw [hW2] at hbr
  have hg2 : W.grownBy W2 (some l) := by rw [← hW2]; exact grownBy_putObj_a _ _ _
  have hv2 : W2.heap[Bs]? = some (.cells #[v] 25 (0, 0)) := by rw [← hW2]; exact (World.putObj_heap_other hBl).trans hv
  have hK2 : W2.heap[D]? = some (.deferred (some [])) := by rw [← hW2]; exact (World.putObj_heap_other hDl).trans h.K
  have hL2 : W2.heap[l]? = some (.loop { rec48 fn sv Bs D .ready none with state := .busy }) := by rw [← hW2]; exact World.putObj_heap_same hl
  have hrow2 : W2.ownsRow w0.heap.size 22 1 v vs.length vs := hrow.kept hg2 (ownsRow_ne_a hrow h.L (fun cur e => by cases e))
  have hb2 : Below w0.heap.size w0 W2 := h.below.grown hg2 h.below.size (fun k e => by cases e; exact h0l)
  obtain ⟨hc2, hf2⟩ := cell_of_box_a hv2
  have hBlt : Bs < W2.heap.size := (Array.getElem?_eq_some_iff.1 hv2).1
  have hl2 : l < W2.heap.size := (Array.getElem?_eq_some_iff.1 hL2).1
  have hDlt : D < W2.heap.size := (Array.getElem?_eq_some_iff.1 hK2).1
  have ne_of : ∀ {j : Nat} {o : Obj}, W2.heap[j]? = some o → (∀ cur, o ≠ .cells cur 22 (0, 0)) → some j ≠ v.ownBlock := fun hj hno => by
    rcases ownsRow_ne_a hrow2 hj hno with e | e
    · rw [e]; simp
    · exact fun e' => e e'.symm
  clear hW2
  unfold rAs
  gi_wp2_with (rw [Oper.semAt_eq _ _ _ (fun c h => by cases h)]; go_simp; try go_bits)
  unfold rBody
  gi_wp2_with (first
    | (gi_at_builtin; refine wpListIn_append_own _ rfl _ _ 25 rfl w0.heap.size 22 i0 (.slice none 0 0) 1 24 Try.underlying25 hi (by cases hi; kernel_rfl) (by cases hi; kernel_rfl) (by cases hi; kernel_rfl) rfl (by decide) _ _ _ rfl (hrow2.alloc _) ⟨W2.heap.size, 0, none⟩ 1 1 [.slice (some ad) xl xc] rfl rfl (cell_one_new _ _ _) (by simp [Value.oneCell']) (show vs.length + 1 ≤ maxLen by unfold maxLen; omega) (by omega) (by have := hb2.size; simp; omega) ?_; intro v' w3 hown' hg3 hnil3
       have hv3 : w3.heap[Bs]? = some (.cells #[v] 25 (0, 0)) := (hg3.block Bs (by simp; omega) (ne_of hv2 (fun cur e => by cases e))).trans ((Below.heap_alloc _ _ Bs hBlt).trans hv2)
       obtain ⟨hc3, hf3⟩ := cell_of_box_a hv3
       obtain ⟨g', cap', rfl⟩ : ∃ g' cap', v' = .slice (some ⟨g', 0, none⟩) (vs.length + 1) cap' := by
         rcases hown'.2 with ⟨_, h0⟩ | ⟨g', cap', _, h', _⟩
         · exact absurd h0 (by omega)
         · exact ⟨g', cap', h'⟩
       go_frame)
    | (rw [Oper.semAt_eq _ _ _ (fun c h => by cases h)]; go_simp; try go_bits))
  have hg3' : (W2.alloc (.cells #[.slice (some ad) xl xc] 22)).grownBy w3 v.ownBlock := hg3
  have hL3 : w3.heap[l]? = some (.loop { rec48 fn sv Bs D .ready none with state := .busy }) := (hg3'.block l (by simp; omega) (ne_of hL2 (fun cur e => by cases e))).trans ((Below.heap_alloc _ _ l hl2).trans hL2)
  have hK3 : w3.heap[D]? = some (.deferred (some [])) := (hg3'.block D (by simp; omega) (ne_of hK2 (fun cur e => by cases e))).trans ((Below.heap_alloc _ _ D hDlt).trans hK2)
  obtain ⟨w4, hw4⟩ : ∃ w4, w3.setCell ⟨Bs, 0, none⟩ (.slice (some ⟨g', 0, none⟩) (vs.length + 1) cap') = w4 := ⟨_, rfl⟩
  rw [hw4]
  have hg4 : w3.grownBy w4 (some Bs) := by rw [← hw4]; exact grownBy_setCell0_a _ _ _
  have hv4 : w4.heap[Bs]? = some (.cells #[.slice (some ⟨g', 0, none⟩) (vs.length + 1) cap'] 25 (0, 0)) := by rw [← hw4]; exact heap_setCell_box_a _ hv3
  have hL4 : w4.heap[l]? = some (.loop { rec48 fn sv Bs D .ready none with state := .busy }) := (hg4.block l (Array.getElem?_eq_some_iff.1 hL3).1 (fun e => hBl (by cases e; rfl))).trans hL3
  have hK4 : w4.heap[D]? = some (.deferred (some [])) := (hg4.block D (Array.getElem?_eq_some_iff.1 hK3).1 (fun e => hDB (by cases e; rfl))).trans hK3
  have hrow4 := hown'.kept hg4 (ownsRow_ne_a hown' hv3 (fun cur e => by cases e))
  have hl4 : l < w4.heap.size := (Array.getElem?_eq_some_iff.1 hL4).1
  have hb3 : Below w0.heap.size w0 w3 := (hb2.alloc hb2.size _).grown hg3' (by have := hb2.size; simp; omega) (fun k e => (hrow2.lt k e).1)
  have hb4 : Below w0.heap.size w0 w4 := hb3.grown hg4 hb3.size (fun k e => by cases e; exact h0B)
  clear hw4
  refine ⟨_, _, run_endRound none hL4, rfl, ⟨⟨_, (World.putObj_heap_other hBl).trans hv4, ?_, by simp⟩, World.putObj_heap_same hl4, (World.putObj_heap_other hDl).trans hK4, hb4.grown (grownBy_putObj_a _ _ _) hb4.size (fun k e => by cases e; exact h0l)⟩⟩
  have := hrow4.kept (grownBy_putObj_a w4 l (.loop { { rec48 fn sv Bs D .ready none with state := .busy } with state := if (none : Option Code).isNone then .ready else .done, pending := none })) (ownsRow_ne_a hrow4 hL4 (fun cur e => by cases e))
  simpa using this

/-- The pieces that have come, up to the i-th. -/
def pcs (b o len n : Nat) : Nat → List Value
  | 0 => []
  | i + 1 => pcs b o len n i ++ [pc b o len n (i * n)]

theorem pcs_length (b o len n : Nat) : ∀ i, (pcs b o len n i).length = i
  | 0 => rfl
  | i + 1 => by simp [pcs, pcs_length b o len n i]

set_option maxRecDepth 100000 in
set_option maxHeartbeats 2000000 in
theorem append48 (F : Fence) (m : Nat) (hf8 : F.fn 48) (hf9 : F.fn 49) (hro : F.round = none) (hm : 2 ≤ m) (pa pn : Addr) (s : Value) (b o len n : Nat) (hn1 : 1 ≤ n) (hlen : len ≤ 1099511627776) (hch : ChunkOK F (m - 1) pa pn s b o len n) (w : World)
    (hbs : pa.block < w.heap.size) (hbn : pn.block < w.heap.size) (hc1 : w.cell? pa = some s) (hc2 : w.cell? pn = some (.int .i64 n)) :
    CallsIn F m Try.prog 48 #[.slice none 0 0, .func (.func 49) #[] #[.pointer (some pa), .pointer (some pn)]] w fun e w' =>
      ∃ (v : Value) (i : Nat), e = .returned v ∧ len ≤ i * n ∧ (∀ j, j < i → j * n < len) ∧ w'.ownsRow w.heap.size 22 1 v i (pcs b o len n i) ∧ (v = .slice none 0 0 ↔ i = 0) ∧ Below w.heap.size w w' := by
  have h1 : 1 ≤ m := by omega
  have u25 := run_underlying Try.underlying25
  have u22 := run_underlying Try.underlying22
  have eg : ∀ args w, (callFunc 49 args).run Try.prog w = .ok (.enter 49 args) w := fun args w => by kernel_rfl
  refine callsIn_of_wp_marks Try.func48 rfl hf8 ?_ hro
  simp only [Try.ntmps48, List.size_toArray, List.length_cons, List.length_nil, Nat.reduceAdd, Nat.reduceSub, Array.replicate_succ, Array.replicate_zero, List.push_toArray, List.append_toArray, List.nil_append, List.cons_append]
  gi_wp2
  refine wpIn_rangeFunc ?_
  intro fn hfn
  rw [hro]
  obtain ⟨lb, hlb⟩ : ∃ lb : Array Value, lb = #[.pointer (some pa), .pointer (some pn)] := ⟨_, rfl⟩
  obtain ⟨W0, hW0⟩ : ∃ W0, w.alloc (.cells #[.slice none 0 0] 25) = W0 := ⟨_, rfl⟩
  have hs0 : W0.heap.size = w.heap.size + 1 := by rw [← hW0]; simp
  have hv0 : W0.heap[w.heap.size]? = some (.cells #[.slice none 0 0] 25 (0, 0)) := by rw [← hW0]; exact World.alloc_heap_new w _
  have hb0 : Below w.heap.size w W0 := by rw [← hW0]; exact (Below.refl _ w).alloc (Nat.le_refl _) _
  rw [hW0, ← hlb]
  obtain ⟨W1, hW1⟩ : ∃ W1, (W0.alloc (.deferred (some []))).alloc (.loop (rec48 fn (.func (.func 49) #[] lb) w.heap.size W0.heap.size .ready none)) = W1 := ⟨_, rfl⟩
  have hold : ∀ k, k < W0.heap.size → W1.heap[k]? = W0.heap[k]? := fun k hk => by
    rw [← hW1]; exact (Below.heap_alloc _ _ k (by simp; omega)).trans (Below.heap_alloc _ _ k hk)
  have hb1 : Below w.heap.size w W1 := by rw [← hW1]; exact (hb0.alloc hb0.size _).alloc (by have := hb0.size; simp; omega) _
  have hs1 : W1.heap.size = W0.heap.size + 2 := by rw [← hW1]; simp
  have hM : Between w fn (.func (.func 49) #[] lb) w.heap.size (W0.heap.size + 1) W0.heap.size [] W1 :=
    ⟨⟨_, (hold w.heap.size (by omega)).trans hv0, ⟨rfl, .inl ⟨rfl, rfl⟩⟩, by simp⟩,
     by rw [← hW1]; have := World.alloc_heap_new (W0.alloc (.deferred (some []))) (.loop (rec48 fn (.func (.func 49) #[] lb) w.heap.size W0.heap.size .ready none)); rwa [World.size_alloc] at this,
     by rw [← hW1]; exact (Below.heap_alloc _ _ _ (by simp)).trans (World.alloc_heap_new W0 _), hb1⟩
  have hcell : ∀ (W : World) (k : Addr) (v : Value), Below w.heap.size w W → k.block < w.heap.size → w.cell? k = some v → W.cell? k = some v := fun W k v hW hk hv => by
    have := hW.block k.block hk
    simpa [World.cell?, this] using hv
  refine ⟨W0.heap.size + 1, [{ target := .collected W0.heap.size, args := #[] }], W1, { target := .fn (.func 49) lb, args := #[.func (.yield (W0.heap.size + 1)) #[] #[]] }, W1, 49,
    #[.func (.yield (W0.heap.size + 1)) #[] #[]] ++ lb, W1, ?_, ?_, ?_, ?_, fun _ => h1, ?_⟩
  · rw [← hW1]; exact run_enterLoop_outer _ _ _ _ _
  · simp [resolve, go_sem]
  · intro f' hf'; simp [Target.leads] at hf'; subst hf'; exact hf9
  · simp [invoke, go_sem, eg]
  · have hch := hch (W0.heap.size + 1)
      (fun p W => ∃ i, p = i * n ∧ (∀ j, j < i → j * n < len) ∧ Between w fn (.func (.func 49) #[] lb) w.heap.size (W0.heap.size + 1) W0.heap.size (pcs b o len n i) W)
      (fun p W ⟨i, h1, h2, h3⟩ => ⟨i, h1, h2, h3.drew⟩) (fun p W ⟨i, h1, h2, h3⟩ => hcell W pa _ h3.below hbs hc1) (fun p W ⟨i, h1, h2, h3⟩ => hcell W pn _ h3.below hbn hc2)
      (fun p W ⟨i, hp, h2, h3⟩ hlt => by
        have hi : i ≤ i * n := Nat.le_mul_of_pos_right _ (by omega)
        have hy := yield48 F (m - 1 - 1) w fn hfn (.func (.func 49) #[] lb) w.heap.size (W0.heap.size + 1) W0.heap.size (by omega) (by omega) (by omega) (Nat.le_refl _) (by omega) (pcs b o len n i) ⟨b, o + p, none⟩ (min n (len - p)) (min n (len - p)) W h3 (by rw [pcs_length]; omega)
        obtain ⟨fn', tm, as', bd, e1, e2⟩ := hy
        refine ⟨fn', tm, as', bd, e1, e2.mono ?_⟩
        rintro e W' ⟨he, hB⟩
        refine ⟨he, i + 1, by rw [hp, Nat.add_mul, Nat.one_mul], fun j hj => ?_, ?_⟩
        · by_cases hji : j = i
          · subst hji; omega
          · exact h2 j (by omega)
        · unfold pcs pc
          rw [← hp]
          exact hB) W1 ⟨0, by simp, fun j h => by omega, hM⟩
    rw [hlb]
    refine hch.mono ?_
    rintro e W2 ⟨⟨v0, rfl⟩, p, hp, i, rfl, hi, h2⟩
    obtain ⟨v, hv, hrow, hnil⟩ := h2.box
    have hend := run_endLoop (P := Try.prog) h2.L (by simp [rec48])
    obtain ⟨W3, hW3⟩ : ∃ W3, W2.putObj (W0.heap.size + 1) (.loop { rec48 fn (.func (.func 49) #[] lb) w.heap.size W0.heap.size .ready none with state := .exhausted }) = W3 := ⟨_, rfl⟩
    rw [hW3] at hend
    have hg3 : W2.grownBy W3 (some (W0.heap.size + 1)) := by rw [← hW3]; exact grownBy_putObj_a _ _ _
    have hv3 : W3.heap[w.heap.size]? = some (.cells #[v] 25 (0, 0)) := by rw [← hW3]; exact (World.putObj_heap_other (by omega)).trans hv
    have hK3 : W3.heap[W0.heap.size]? = some (.deferred (some [])) := by rw [← hW3]; exact (World.putObj_heap_other (by omega)).trans h2.K
    have hrow3 := hrow.kept hg3 (ownsRow_ne_a hrow h2.L (fun cur e => by cases e))
    have hb3 : Below w.heap.size w W3 := h2.below.grown hg3 h2.below.size (fun k e => by cases e; omega)
    obtain ⟨hc3, hf3⟩ := cell_of_box_a hv3
    clear hW3
    refine ⟨none, W3, hend, ?_⟩
    gi_wp2
    rw [← hs0]
    refine ⟨by simp, .inl ⟨_, _, rfl, run_takeDeferred hK3, ?_⟩⟩
    refine ⟨_, results_tmp rfl _ _ _, v, i, rfl, hp, hi, ?_, ?_, hb3.grown (grownBy_putObj_a _ _ _) hb3.size (fun k e => by cases e; omega)⟩
    · have := hrow3.kept (grownBy_putObj_a W3 W0.heap.size (.deferred none)) (ownsRow_ne_a hrow3 hK3 (fun cur e => by cases e))
      rwa [pcs_length] at this
    · rw [hnil]
      constructor
      · intro h; have := pcs_length b o len n i; rw [h] at this; simpa using this.symm
      · intro h; subst h; rfl

theorem collect48 (F : Fence) (m : Nat) (hf2 : F.fn 32) (hf8 : F.fn 48) (hf9 : F.fn 49) (hro : F.round = none) (hm : 3 ≤ m) (pa pn : Addr) (s : Value) (b o len n : Nat) (hn1 : 1 ≤ n) (hlen : len ≤ 1099511627776) (hch : ChunkOK F (m - 1 - 1) pa pn s b o len n) (w : World)
    (hbs : pa.block < w.heap.size) (hbn : pn.block < w.heap.size) (hc1 : w.cell? pa = some s) (hc2 : w.cell? pn = some (.int .i64 n)) :
    CallsIn F m Try.prog 32 #[.func (.func 49) #[] #[.pointer (some pa), .pointer (some pn)]] w fun e w' =>
      ∃ (v : Value) (i : Nat), e = .returned v ∧ len ≤ i * n ∧ (∀ j, j < i → j * n < len) ∧ w'.ownsRow w.heap.size 22 1 v i (pcs b o len n i) ∧ (v = .slice none 0 0 ↔ i = 0) ∧ Below w.heap.size w w' := by
  have h1 : 1 ≤ m := by omega
  have u25 := run_underlying Try.underlying25
  have e8 : ∀ args w, (callFunc 48 args).run Try.prog w = .ok (.enter 48 args) w := fun args w => by kernel_rfl
  refine callsIn_of_wp Try.func32 rfl hf2 ?_ hro
  simp only [Try.ntmps32, List.size_toArray, List.length_cons, List.length_nil, Nat.reduceAdd, Nat.reduceSub, Array.replicate_succ, Array.replicate_zero, List.push_toArray, List.append_toArray, List.nil_append, List.cons_append]
  gi_wp2_with (gi_at_fn 48; refine (append48 F (m - 1) hf8 hf9 hro (by omega) pa pn s b o len n hn1 hlen hch _ hbs hbn hc1 hc2).mono ?_; rintro e w' ⟨v, i, rfl, g1, g2, g3, g4, g5⟩)
  go_ret
  exact ⟨v, i, rfl, g1, g2, g3, g4, g5⟩

end Go.Proofs.Ytehnchfnhbmkdaa

/-
  Chapter 48: slices.Collect of slices.Chunk, taken as a whole by the engine.
  Conditions: none. By an AI agent.
-/
namespace Go.Proofs.Ytehnchfnhbmkdaa
open Go Eng Go.RowKit

/-- How many pieces there are. -/
def pcN (len n : Nat) : Nat := (len + n - 1) / n
def apc (b o len n p : Nat) : Value := .slice (some ⟨b, o + p, none⟩) (min n (len - p)) (2 * min n (len - p))
def apcs (b o len n : Nat) : Nat → List Value
  | 0 => []
  | i + 1 => apcs b o len n i ++ [apc b o len n (i * n)]

def chunkV (s : Value) (n : Nat) (H : AHeap) : Res :=
  match s with
  | .slice none 0 0 => some (.slice none 0 0, H)
  | .slice (some ⟨b, o, none⟩) len code =>
    if len = 0 then some (.slice none 0 0, H)
    else if len ≤ code / 2 ∧ len ≤ 1099511627776 then some (.slice (some ⟨H.n, 0, none⟩) (pcN len n) (2 * pcN len n + 1), H.push (.cells (apcs b o len n (pcN len n)) 22 true))
    else none
  | _ => none

def chunkP : List Value → AHeap → Res := fun xs H => match xs with
  | [.func (.func g) x c] => if g = 49 ∧ x.toList.length = 0 then
      (match c.toList with
      | [.pointer (some ⟨bs, 0, none⟩), .pointer (some ⟨bn, 0, none⟩)] =>
        (match H.f bs, H.f bn with
        | .cells (s :: _) _ _, .cells (.int .i64 n :: _) _ _ => if 1 ≤ n ∧ n ≤ 4294967296 then chunkV s n.toNat H else none
        | _, _ => none)
      | _ => none) else none
  | _ => none

theorem pcN_eq {len n i : Nat} (hn : 1 ≤ n) (h1 : len ≤ i * n) (h2 : ∀ j, j < i → j * n < len) : i = pcN len n := by
  unfold pcN
  cases i with
  | zero => rw [Nat.zero_mul] at h1; rw [Nat.div_eq_of_lt (by omega)]
  | succ k =>
    have h3 := h2 k (by omega)
    rw [Nat.add_mul, Nat.one_mul] at h1
    symm
    refine Nat.div_eq_of_lt_le ?_ ?_
    · rw [Nat.add_mul, Nat.one_mul]; omega
    · rw [Nat.add_mul, Nat.one_mul, Nat.add_mul, Nat.one_mul]; omega

theorem apcs_length (b o len n : Nat) : ∀ i, (apcs b o len n i).length = i
  | 0 => rfl
  | i + 1 => by simp [apcs, apcs_length b o len n i]

theorem apcs_ad {n0 b o len n : Nat} (hb : b < n0) : ∀ i, ADs n0 (apcs b o len n i)
  | 0 => ADs.nil
  | i + 1 => (apcs_ad hb i).append (ADs.cons (.sl hb) ADs.nil)

theorem pcs_rel {ι : Emb} {b o len n : Nat} {L : Eng.Loc} (h : ι b = some L) : ∀ i, RVs ι (apcs b o len n i) (pcs L.cb (L.base + o) len n i)
  | 0 => .nil
  | i + 1 => (pcs_rel h i).append (.cons (by unfold apc pc; rw [Nat.add_assoc]; exact .sle h (Nat.le_refl _)) .nil)

theorem chunkV_ad {H H' : AHeap} {s v : Value} {n : Nat} (hc : Cl H) (hs : AD H.n s) (h : chunkV s n H = some (v, H')) : OkV H H' v := by
  unfold chunkV at h
  split at h
  · cases h; exact OkV.still hc .nils
  · rename_i b o len code
    split at h
    · cases h; exact OkV.still hc .nils
    · split at h
      · cases h
        cases hs with
        | sl hb => exact ⟨hc.row ((apcs_ad hb _).mono (by omega)), .sl (by simp), VO.push _ _⟩
      · cases h
  · cases h

/-- A call that made one row, and whatever else nobody asks. -/
theorem newrow_rel {P : Program} {B : Nat} {ι : Emb} {H : AHeap} {w w' : World} (r : Rel P B ι H w) (k : Blk) (L : Eng.Loc) (hb : Below w.heap.size w w') (hcb : w.heap.size ≤ L.cb) (hlt : L.cb < w'.heap.size) (hk : RB P B ι w' L k) :
    Rel P B (up ι H.n L) (H.push k) w' ∧ Stp ι H w (up ι H.n L) (H.push k) w' := by
  refine ⟨r.lay k L hlt hb.size hk (fun b M h _ => by have := (r.lt b M h).2; omega) (by have := r.base; omega) (fun c hc _ => hb.block c hc), ?_⟩
  constructor
  · intro b hb; simp [up, show b ≠ H.n by omega]
  · simp
  · exact hb.size
  · exact hb.os
  · exact hb.tape
  · exact hb.output
  · intro c hc _; exact hb.block c hc
  · intro b M hb' h
    by_cases hbn : b = H.n
    · simp [up, hbn] at h
      subst h
      exact .inl hcb
    · simp [up, hbn] at h
      have := (r.lt b M h).1
      omega
  · intro b _ hb' _ ho
    rwa [AHeap.push_old _ _ (by omega)] at ho
  · exact VO.push _ _

theorem chunk_prim : (CallAd fun _ args H => chunkP args H) ∧ CallOK Try.prog fun g args H => if g = 32 then chunkP args H else none := by
  constructor
  · intro _ args H v H' h hl had
    replace h : chunkP args H = some (v, H') := h
    unfold chunkP at h
    split at h
    · split at h
      · split at h
        · split at h
          · rename_i hs _
            split at h
            · exact chunkV_ad hl (hl.cells _ _ _ _ hs _ (by simp)) h
            · cases h
          · cases h
        · cases h
      · cases h
    · cases h
  · intro k args H v H' h2 hl had B ι w args' r ha
    by_cases hg : k = 32
    · subst hg
      simp only [if_true] at h2
      unfold chunkP at h2
      split at h2
      · rename_i g x c
        split at h2
        · rename_i hgx
          split at h2
          · rename_i bs bn hcl
            split at h2
            · rename_i s rs es ws n rn en wn hbs hbn
              split at h2
              · rename_i hn
                obtain ⟨f', ea, hA⟩ : ∃ f', args' = [f'] ∧ RV ι (.func (.func g) x c) f' := by
                  cases ha with
                  | cons a b => cases b; exact ⟨_, rfl, a⟩
                subst ea
                cases hA with
                | func x1 x2 c1 c2 =>
                rename_i x' c'
                obtain ⟨hg49, hx0⟩ := hgx
                subst hg49
                obtain rfl : x' = #[] := by apply Array.eq_empty_of_size_eq_zero; rw [← x1]; simpa using hx0
                have hc : RVs ι c.toList c'.toList := RVs.of_arr c1 c2
                rw [hcl] at hc
                obtain ⟨q1, q2, hcl', r1, r2⟩ : ∃ q1 q2, c'.toList = [q1, q2] ∧ RV ι (.pointer (some ⟨bs, 0, none⟩)) q1 ∧ RV ι (.pointer (some ⟨bn, 0, none⟩)) q2 := by
                  generalize c'.toList = y at hc
                  cases hc with
                  | cons a b => cases b with
                    | cons a' b' => cases b'; exact ⟨_, _, rfl, a, a'⟩
                obtain rfl : c' = #[q1, q2] := by rw [← hcl']
                cases r1 with
                | ptr k1 =>
                cases r2 with
                | ptr k2 =>
                rename_i L1 L2
                have d1 := r.blk bs L1 k1
                have d2 := r.blk bn L2 k2
                rw [hbs] at d1
                rw [hbn] at d2
                obtain ⟨cs1, e1', fr1, w1, _, _, w4, _⟩ := d1
                obtain ⟨cs2, e2', fr2, u1, _, _, u4, _⟩ := d2
                obtain ⟨s', hs', hrs⟩ := w4 0 s (by simp)
                obtain ⟨n', hn', hrn⟩ := u4 0 (.int .i64 n) (by simp)
                cases hrn
                have hcell1 : w.cell? ⟨L1.cb, L1.base + 0, none⟩ = some s' := by rw [← hs']; simp [World.cell?, w1]
                have hcell2 : w.cell? ⟨L2.cb, L2.base + 0, none⟩ = some (.int .i64 (n.toNat : Int)) := by
                  rw [show (n.toNat : Int) = n by omega]
                  rw [← hn']; simp [World.cell?, u1]
                have l1 := (r.lt bs L1 k1).2
                have l2 := (r.lt bn L2 k2).2
                have hn1 : 1 ≤ n.toNat := by omega
                have hn2 : n.toNat ≤ 4294967296 := by omega
                -- what the call comes to, at a slice of len bytes
                have key : ∀ (b o len : Nat), len ≤ 1099511627776 → ChunkOK Fence.wide 4 ⟨L1.cb, L1.base + 0, none⟩ ⟨L2.cb, L2.base + 0, none⟩ s' b o len n.toNat →
                    Calls Try.prog 32 #[.func (.func 49) #[] #[.pointer (some ⟨L1.cb, L1.base + 0, none⟩), .pointer (some ⟨L2.cb, L2.base + 0, none⟩)]] w fun e w' =>
                      ∃ v : Value, e = .returned v ∧ w'.ownsRow w.heap.size 22 1 v (pcN len n.toNat) (pcs b o len n.toNat (pcN len n.toNat)) ∧ (v = .slice none 0 0 ↔ pcN len n.toNat = 0) ∧ Below w.heap.size w w' := by
                  intro b o len hlen hch
                  refine (callsIn_wide (n := 6)).1 ?_
                  refine (collect48 Fence.wide 6 trivial trivial trivial rfl (by decide) ⟨L1.cb, L1.base + 0, none⟩ ⟨L2.cb, L2.base + 0, none⟩ s' b o len n.toNat hn1 hlen hch w l1 l2 hcell1 hcell2).mono ?_
                  rintro e w' ⟨v, i, rfl, g1, g2, g3, g4, g5⟩
                  obtain rfl := pcN_eq hn1 g1 g2
                  exact ⟨v, rfl, g3, g4, g5⟩
                have empty : ∀ (x : Option Addr) (c : Nat), s' = .slice x 0 c → (v, H') = (.slice none 0 0, H) →
                    Calls Try.prog 32 #[.func (.func 49) #[] #[.pointer (some ⟨L1.cb, L1.base + 0, none⟩), .pointer (some ⟨L2.cb, L2.base + 0, none⟩)]] w fun e w' => ∃ v' ι', e = .returned v' ∧ RV ι' v v' ∧ Rel Try.prog B ι' H' w' ∧ Stp ι H w ι' H' w' := by
                  intro x c hs' hv
                  cases hv
                  have hk := key 0 0 0 (by omega) (by rw [hs']; exact chunk0 Fence.wide 4 trivial rfl _ _ 0 0 n.toNat x c)
                  have h0 : pcN 0 n.toNat = 0 := by unfold pcN; exact Nat.div_eq_of_lt (by omega)
                  refine hk.mono ?_
                  rintro e w' ⟨v', rfl, _, g2, g3⟩
                  obtain ⟨h3, h4⟩ := below_rel r g3
                  rw [g2.2 h0]
                  exact ⟨_, ι, rfl, .nils, h3, h4⟩
                have full : ∀ (b o len cap : Nat) (L : Eng.Loc), ι b = some L → s' = .slice (some ⟨L.cb, L.base + o, none⟩) len cap → len ≤ cap → len ≠ 0 → len ≤ 1099511627776 →
                    (v, H') = (.slice (some ⟨H.n, 0, none⟩) (pcN len n.toNat) (2 * pcN len n.toNat + 1), H.push (.cells (apcs b o len n.toNat (pcN len n.toNat)) 22 true)) →
                    Calls Try.prog 32 #[.func (.func 49) #[] #[.pointer (some ⟨L1.cb, L1.base + 0, none⟩), .pointer (some ⟨L2.cb, L2.base + 0, none⟩)]] w fun e w' => ∃ v' ι', e = .returned v' ∧ RV ι' v v' ∧ Rel Try.prog B ι' H' w' ∧ Stp ι H w ι' H' w' := by
                  intro b o len cap L hbL hs' hcap h0 hlen hv
                  cases hv
                  have hk := key L.cb (L.base + o) len hlen (by rw [hs']; exact chunk1 Fence.wide 4 trivial rfl (by decide) _ _ L.cb (L.base + o) len cap n.toNat hn1 hn2 hlen hcap)
                  have h1 : pcN len n.toNat ≠ 0 := by
                    unfold pcN
                    exact Nat.ne_of_gt (Nat.div_pos (by omega) (by omega))
                  refine hk.mono ?_
                  rintro e w' ⟨v', rfl, g1, g2, g3⟩
                  rcases g1.2 with ⟨_, hz⟩ | ⟨g, cp, cur, rfl, q1, q2, q3, q4, q5, q6⟩
                  · exact absurd hz h1
                  have hlt : g < w'.heap.size := (Array.getElem?_eq_some_iff.1 q2).1
                  have hB := r.base
                  have hrel := pcs_rel (len := len) (n := n.toNat) (o := o) hbL (pcN len n.toNat)
                  obtain ⟨h3, h4⟩ := newrow_rel r (.cells (apcs b o len n.toNat (pcN len n.toNat)) 22 true) ⟨g, 0, 1, cp⟩ g3 q1 hlt
                    ⟨cur, 22, (0, 0), q2, by simpa using q5, by rw [apcs_length]; simp; omega, fun i u hu => by
                      obtain ⟨u', hu', hr⟩ := hrel.get hu
                      refine ⟨u', ?_, hr⟩
                      have hi : i < pcN len n.toNat := by have := (List.getElem?_eq_some_iff.1 hu).1; rwa [apcs_length] at this
                      rw [← q6, List.getElem?_take_of_lt (by omega)] at hu'
                      simpa using hu', fun _ => ⟨by simp; omega, rfl, by kernel_rfl, fun j _ h => by simp at h⟩⟩
                  refine ⟨_, _, rfl, ?_, h3, h4⟩
                  have := RV.sli (ι := up ι H.n ⟨g, 0, 1, cp⟩) (b := H.n) (o := 0) (n := pcN len n.toNat) (c := pcN len n.toNat) (cc := cp) (L := ⟨g, 0, 1, cp⟩) (by simp [up]) q3 q3 (by simp)
                  simpa using this
                unfold chunkV at h2
                split at h2
                · cases h2
                  cases hrs
                  exact empty _ _ rfl rfl
                · rename_i b o len code
                  split at h2
                  · rename_i h0
                    have h0' := h0
                    subst h0
                    cases h2
                    cases hrs with
                    | sle hb hc => exact empty _ _ rfl rfl
                    | sli hb hc hn' ht => exact empty _ _ rfl rfl
                    | sl0 hk => exact empty _ _ rfl rfl
                  · rename_i h0
                    split at h2
                    · rename_i hl2
                      cases h2
                      cases hrs with
                      | sle hb hc => exact full _ _ _ _ _ hb rfl hc h0 hl2.2 rfl
                      | sli hb hc hn' ht => exact full _ _ _ _ _ hb rfl hn' h0 hl2.2 rfl
                      | sl0 hk => exact absurd rfl h0
                    · cases h2
                · cases h2
              · cases h2
            · cases h2
          · cases h2
        · cases h2
      · cases h2
    · simp [hg] at h2

end Go.Proofs.Ytehnchfnhbmkdaa

/-
  Chapter 48: slices.Insert as a Prim; known() returns true.
  Conditions: none. By an AI agent.
-/
namespace Go.Proofs.Ytehnchfnhbmkdaa
open Go Eng

theorem mixed : Try.prog.follows .mixedOrders = true := by kernel_rfl

def zIns0 : List Value := [(.string (mk [])), (.string (mk []))]
theorem insOK0 : InsOK Try.prog hints 56 37 3 60 zIns0 61 62 where
  mixed := mixed
  body := fun C n a0 a1 a2 H => by kernel_rfl
  hS := Try.underlying37
  hI := Try.underlying3
  hz := by kernel_rfl
  hsz := by kernel_rfl
  ovl := ⟨Try.f61, by kernel_rfl, by decide, by kernel_rfl, by kernel_rfl, by kernel_rfl, by kernel_rfl⟩

noncomputable def prims0 : Prims := fun f => if f = 56 then some (insP Try.prog hints 56 60 zIns0) else if f = 32 then some chunkP else none

theorem prims0_ok : PrimsOK Try.prog prims0 := by
  intro f p h
  unfold prims0 at h
  split at h
  · rename_i hf
    have e := Option.some.inj h
    subst hf
    rw [← e]
    exact ins_prim insOK0
  · skip
    split at h
    · rename_i hf
      have e := Option.some.inj h
      subst hf
      rw [← e]
      exact chunk_prim
    · skip
      cases h

theorem known_run : dCall Try.prog prims0 hints 60 9 [] H0 = some (.bool true, H0) := by kernel_rfl

noncomputable def prims1 : Prims := fun f => if f = 9 then some trueP else prims0 f

theorem prims1_ok : PrimsOK Try.prog prims1 := by
  intro f p h
  unfold prims1 at h
  split at h
  · rename_i hf
    have e := Option.some.inj h
    subst hf
    rw [← e]
    exact true_prim prims0_ok mixed ⟨60, _, known_run⟩
  · exact prims0_ok f p h

/-- What a call gives. -/
noncomputable def CC : CallF := D Try.prog prims1 hints

end Go.Proofs.Ytehnchfnhbmkdaa
