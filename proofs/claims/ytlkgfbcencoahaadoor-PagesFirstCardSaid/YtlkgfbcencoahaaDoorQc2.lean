/-
  1 texts in one (merge.py): Sh.
  Conditions: none. By an AI agent.
-/
import Derived.Test.YtlkgfbcencoahaaDoorQc1
import Derived.Test.YtlkgfbcencoahaaDoorChecked
import Derived.KernelRfl

/-
  The seat's functions as terms over the engine's combinators (a program of ours printed it).
  Conditions: none. By an AI agent.
-/
set_option linter.unusedVariables false
namespace Go.Proofs.YtlkgfbcencoahaaDoor
open Go Eng

/-! ticketline.ticketlinelaw44.small -/

noncomputable def s_law_small (mg : GT) (mc : CT) (ms : ST) (P : Program) (C : CallF) (L0 : Value → Value → AHeap → K → Res) (a0 : Value) (H : AHeap) (K0 : K) : Res :=
ms (fun k1 =>
L0 a0 (.int .i64 0) H (blkK [0] 0 k1)) (seqK (fun tT h1 =>
bareK (lenS (get tT 0)) h1 fun t31 h2 =>
bareK (xbin P .leq T.int (.tmp 31) (.const (.int .i64 40)) t31 (.int .i64 40)) h2 fun t32 h3 =>
K0 .ret [(2, t32)] h3) K0)

noncomputable def s_law_small_b0 (mg : GT) (mc : CT) (ms : ST) (P : Program) (C : CallF) (L0 : Value → Value → AHeap → K → Res) (v0 : Value) (v3 : Value) (H : AHeap) (k : K) : Res :=
bareK (lenS v0) H fun t6 h1 =>
bareK (xbin P .lss T.int (.tmp 4) (.tmp 6) v3 t6) h1 fun t7 h2 =>
mg t7 true (fun o2 => o2 v3 h2) h2 fun t9 h3 =>
mg t7 true (fun o3 => bareK (xbin P .lss T.int (.tmp 9) (.const (.int .i64 41)) t9 (.int .i64 41)) h3 o3) h3 fun t10 h4 =>
pickK t7 t10 (.bool false) fun t11 =>
mc t11 (fun k4 => k4 .normal [(0, v0), (3, v3)] h4) (fun k4 =>
k4 (.exit 0) [(11, t11), (10, t10), (9, t9), (8, t7), (7, t7), (6, t6), (5, v0), (4, v3), (0, v0), (3, v3)] h4) (seqK (fun tT h5 =>
ms (fun k5 =>
bareK (ixS 2 (get tT 0) (get tT 3)) h5 fun t16 h6 =>
bareK (fad 0 t16) h6 fun t17 h7 =>
bareK (ld1 h7 t17) h7 fun t18 h8 =>
bareK (lenT t18) h8 fun t19 h9 =>
bareK (xbin P .gtr T.int (.tmp 19) (.const (.int .i64 30)) t19 (.int .i64 30)) h9 fun t20 h10 =>
mg t20 false (fun o6 => o6 (get tT 0) h10) h10 fun t22 h11 =>
mg t20 false (fun o7 => o7 (get tT 3) h11) h11 fun t23 h12 =>
mg t20 false (fun o8 => bareK (ixS 2 t22 t23) h12 o8) h12 fun t24 h13 =>
mg t20 false (fun o9 => bareK (fad 1 t24) h13 o9) h13 fun t25 h14 =>
mg t20 false (fun o10 => bareK (ld1 h14 t25) h14 o10) h14 fun t26 h15 =>
mg t20 false (fun o11 => bareK (lenT t26) h15 o11) h15 fun t27 h16 =>
mg t20 false (fun o12 => bareK (xbin P .gtr T.int (.tmp 27) (.const (.int .i64 44)) t27 (.int .i64 44)) h16 o12) h16 fun t28 h17 =>
pickK t20 (.bool true) t28 fun t29 =>
mc t29 (fun k13 => k13 .ret [(2, (.bool false))] h17) (fun k13 =>
k13 .normal [(0, (get tT 0)), (3, (get tT 3))] h17) (blkK [0, 3] 1 k5)) (seqK (fun tT_1 h18 =>
bareK (xbin P .add T.int (.tmp 12) (.const (.int .i64 1)) (get tT_1 3) (.int .i64 1)) h18 fun t13 h19 =>
k .normal [(0, (get tT_1 0)), (3, t13)] h19) (afterK [0, 3] k))) (afterK [0, 3] k))

theorem s_law_small_eq (M : CombL) (C : CallF) (LP : LoopH) (a0 : Value) (H : AHeap) : dBodyL M Tryd.prog hints C LP F.law_small [a0] H = s_law_small M.b.g M.c M.s Tryd.prog C (fun v0 v3 H k => loopL M Tryd.prog hints C LP F.law_small 0 [(0, v0), (3, v3)] H k) a0 H (endK Tryd.prog [.tmp 2]) := by kernel_rfl

theorem s_law_small_b0_eq (M : CombL) (C : CallF) (LP : LoopH) (v0 : Value) (v3 : Value) (H : AHeap) (k : K) : bodyL M Tryd.prog hints C LP F.law_small 0 [(0, v0), (3, v3)] H (afterK [0, 3] k) = s_law_small_b0 M.b.g M.c M.s Tryd.prog C (fun v0 v3 H k => loopL M Tryd.prog hints C LP F.law_small 0 [(0, v0), (3, v3)] H k) v0 v3 H k := by kernel_rfl

/-! ticketline.ticketlinelaw44.filled -/

noncomputable def s_law_filled (mg : GT) (mc : CT) (ms : ST) (P : Program) (C : CallF) (L0 : Value → Value → Value → AHeap → K → Res) (a0 : Value) (H : AHeap) (K0 : K) : Res :=
bareK (bldS #[(.slice none 0 0)] [(0, 1)] []) H fun t5 h1 =>
bothK (newv T.model_Model t5 h1) fun t6 h2 =>
ms (fun k1 =>
L0 a0 t6 (.int .i64 0) h2 (blkK [3] 0 k1)) (seqK (fun tT h3 =>
K0 .ret [(2, (get tT 3))] h3) K0)

noncomputable def s_law_filled_b0 (mg : GT) (mc : CT) (ms : ST) (P : Program) (C : CallF) (L0 : Value → Value → Value → AHeap → K → Res) (v0 : Value) (v3 : Value) (v4 : Value) (H : AHeap) (k : K) : Res :=
bareK (lenS v0) H fun t9 h3 =>
bareK (xbin P .lss T.int (.tmp 7) (.tmp 9) v4 t9) h3 fun t10 h4 =>
mc t10 (fun k2 => k2 .normal [(0, v0), (3, v3), (4, v4)] h4) (fun k2 =>
k2 (.exit 0) [(10, t10), (9, t9), (8, v0), (7, v4), (0, v0), (3, v3), (4, v4)] h4) (seqK (fun tT h5 =>
ms (fun k3 =>
bareK (ixS 2 (get tT 0) (get tT 4)) h5 fun t16 h6 =>
bareK (fad 0 t16) h6 fun t17 h7 =>
bareK (ld1 h7 t17) h7 fun t18 h8 =>
bareK (ixS 2 (get tT 0) (get tT 4)) h8 fun t21 h9 =>
bareK (fad 1 t21) h9 fun t22 h10 =>
bareK (ld1 h10 t22) h10 fun t23 h11 =>
enterK C F.model_Model_Put [(get tT 3), t18, t23] h11 fun t24 h12 =>
checkK true <|
k3 .normal [(0, (get tT 0)), (3, (get tT 3)), (4, (get tT 4))] h12) (seqK (fun tT_1 h13 =>
bareK (xbin P .add T.int (.tmp 11) (.const (.int .i64 1)) (get tT_1 4) (.int .i64 1)) h13 fun t12 h14 =>
k .normal [(0, (get tT_1 0)), (3, (get tT_1 3)), (4, t12)] h14) (afterK [0, 3, 4] k))) (afterK [0, 3, 4] k))

theorem s_law_filled_eq (M : CombL) (C : CallF) (LP : LoopH) (a0 : Value) (H : AHeap) : dBodyL M Tryd.prog hints C LP F.law_filled [a0] H = s_law_filled M.b.g M.c M.s Tryd.prog C (fun v0 v3 v4 H k => loopL M Tryd.prog hints C LP F.law_filled 0 [(0, v0), (3, v3), (4, v4)] H k) a0 H (endK Tryd.prog [.tmp 2]) := by kernel_rfl

theorem s_law_filled_b0_eq (M : CombL) (C : CallF) (LP : LoopH) (v0 : Value) (v3 : Value) (v4 : Value) (H : AHeap) (k : K) : bodyL M Tryd.prog hints C LP F.law_filled 0 [(0, v0), (3, v3), (4, v4)] H (afterK [0, 3, 4] k) = s_law_filled_b0 M.b.g M.c M.s Tryd.prog C (fun v0 v3 v4 H k => loopL M Tryd.prog hints C LP F.law_filled 0 [(0, v0), (3, v3), (4, v4)] H k) v0 v3 v4 H k := by kernel_rfl

/-! ticketline.ticketlinelaw44.first -/

noncomputable def s_law_first (mg : GT) (mc : CT) (ms : ST) (P : Program) (C : CallF) (a0 : Value) (a1 : Value) (a2 : Value) (a3 : Value) (a4 : Value) (a5 : Value) (a6 : Value) (H : AHeap) (K0 : K) : Res :=
enterK C F.pages_First [a0, a1, a2, a3] H fun t23 h1 =>
bareK (xextract t23 0) h1 fun t24 h2 =>
bareK (xextract t23 1) h2 fun t25 h3 =>
bareK (xextract t23 2) h3 fun t26 h4 =>
enterK C F.law_same [t24, a4] h4 fun t29 h5 =>
mg t29 true (fun o1 => o1 t25 h5) h5 fun t31 h6 =>
mg t29 true (fun o2 => o2 a5 h6) h6 fun t32 h7 =>
mg t29 true (fun o3 => bareK (xbin P .eql T.string (.tmp 31) (.tmp 32) t31 t32) h7 o3) h7 fun t33 h8 =>
pickK t29 t33 (.bool false) fun t34 =>
mg t34 true (fun o4 => o4 t26 h8) h8 fun t36 h9 =>
mg t34 true (fun o5 => o5 a6 h9) h9 fun t37 h10 =>
mg t34 true (fun o6 => bareK (xbin P .eql T.int (.tmp 36) (.tmp 37) t36 t37) h10 o6) h10 fun t38 h11 =>
pickK t34 t38 (.bool false) fun t39 =>
K0 .ret [(14, t39)] h11

theorem s_law_first_eq (M : CombL) (C : CallF) (LP : LoopH) (a0 : Value) (a1 : Value) (a2 : Value) (a3 : Value) (a4 : Value) (a5 : Value) (a6 : Value) (H : AHeap) : dBodyL M Tryd.prog hints C LP F.law_first [a0, a1, a2, a3, a4, a5, a6] H = s_law_first M.b.g M.c M.s Tryd.prog C a0 a1 a2 a3 a4 a5 a6 H (endK Tryd.prog [.tmp 14]) := by kernel_rfl

/-! ticketline.ticketlinelaw44.alls -/

noncomputable def s_law_alls (mg : GT) (mc : CT) (ms : ST) (P : Program) (C : CallF) (L0 : Value → Value → Value → AHeap → K → Res) (a0 : Value) (a1 : Value) (a2 : Value) (a3 : Value) (a4 : Value) (a5 : Value) (H : AHeap) (K0 : K) : Res :=
enterK C F.pages_All [a0, a1, a2, a3] H fun t21 h1 =>
bareK (xextract t21 0) h1 fun t22 h2 =>
bareK (xextract t21 1) h2 fun t23 h3 =>
bareK (lenS t22) h3 fun t25 h4 =>
bareK (lenS a4) h4 fun t27 h5 =>
bareK (xbin P .neq T.int (.tmp 25) (.tmp 27) t25 t27) h5 fun t28 h6 =>
mg t28 false (fun o1 => o1 t23 h6) h6 fun t30 h7 =>
mg t28 false (fun o2 => o2 a5 h7) h7 fun t31 h8 =>
mg t28 false (fun o3 => bareK (xbin P .neq T.int (.tmp 30) (.tmp 31) t30 t31) h8 o3) h8 fun t32 h9 =>
pickK t28 (.bool true) t32 fun t33 =>
mc t33 (fun k4 => k4 .ret [(12, (.bool false))] h9) (fun k4 =>
k4 .normal [(4, a4), (13, t22)] h9) (seqK (fun tT h10 =>
ms (fun k5 =>
L0 (get tT 4) (get tT 13) (.int .i64 0) h10 (blkK [] 0 k5)) (seqK (fun tT_1 h11 =>
K0 .ret [(12, (.bool true))] h11) K0)) K0)

noncomputable def s_law_alls_b0 (mg : GT) (mc : CT) (ms : ST) (P : Program) (C : CallF) (L0 : Value → Value → Value → AHeap → K → Res) (v4 : Value) (v13 : Value) (v15 : Value) (H : AHeap) (k : K) : Res :=
bareK (lenS v13) H fun t36 h11 =>
bareK (xbin P .lss T.int (.tmp 34) (.tmp 36) v15 t36) h11 fun t37 h12 =>
mc t37 (fun k6 => k6 .normal [(4, v4), (13, v13), (15, v15)] h12) (fun k6 =>
k6 (.exit 0) [(37, t37), (36, t36), (35, v13), (34, v15), (4, v4), (13, v13), (15, v15)] h12) (seqK (fun tT h13 =>
ms (fun k7 =>
bareK (ixS 1 (get tT 13) (get tT 15)) h13 fun t42 h14 =>
bareK (ld1 h14 t42) h14 fun t43 h15 =>
bareK (ixS 1 (get tT 4) (get tT 15)) h15 fun t46 h16 =>
bareK (ld1 h16 t46) h16 fun t47 h17 =>
enterK C F.law_same [t43, t47] h17 fun t48 h18 =>
bareK (xun P .not t48) h18 fun t49 h19 =>
checkK true <|
mc t49 (fun k8 => k8 .ret [(12, (.bool false))] h19) (fun k8 =>
k8 .normal [(4, (get tT 4)), (13, (get tT 13)), (15, (get tT 15))] h19) (blkK [4, 13, 15] 1 k7)) (seqK (fun tT_1 h20 =>
bareK (xbin P .add T.int (.tmp 38) (.const (.int .i64 1)) (get tT_1 15) (.int .i64 1)) h20 fun t39 h21 =>
k .normal [(4, (get tT_1 4)), (13, (get tT_1 13)), (15, t39)] h21) (afterK [4, 13, 15] k))) (afterK [4, 13, 15] k))

theorem s_law_alls_eq (M : CombL) (C : CallF) (LP : LoopH) (a0 : Value) (a1 : Value) (a2 : Value) (a3 : Value) (a4 : Value) (a5 : Value) (H : AHeap) : dBodyL M Tryd.prog hints C LP F.law_alls [a0, a1, a2, a3, a4, a5] H = s_law_alls M.b.g M.c M.s Tryd.prog C (fun v4 v13 v15 H k => loopL M Tryd.prog hints C LP F.law_alls 0 [(4, v4), (13, v13), (15, v15)] H k) a0 a1 a2 a3 a4 a5 H (endK Tryd.prog [.tmp 12]) := by kernel_rfl

theorem s_law_alls_b0_eq (M : CombL) (C : CallF) (LP : LoopH) (v4 : Value) (v13 : Value) (v15 : Value) (H : AHeap) (k : K) : bodyL M Tryd.prog hints C LP F.law_alls 0 [(4, v4), (13, v13), (15, v15)] H (afterK [4, 13, 15] k) = s_law_alls_b0 M.b.g M.c M.s Tryd.prog C (fun v4 v13 v15 H k => loopL M Tryd.prog hints C LP F.law_alls 0 [(4, v4), (13, v13), (15, v15)] H k) v4 v13 v15 H k := by kernel_rfl

/-! ticketline.ticketlinelaw44.in -/

noncomputable def s_law_in (mg : GT) (mc : CT) (ms : ST) (P : Program) (C : CallF) (L0 : Value → Value → Value → Value → Value → Value → AHeap → K → Res) (a0 : Value) (a1 : Value) (a2 : Value) (a3 : Value) (H : AHeap) (K0 : K) : Res :=
enterK C F.model_Model_Pairs [a0] H fun t13 h1 =>
ms (fun k1 =>
L0 a1 a2 a3 (.slice none 0 0) t13 (.int .i64 0) h1 (blkK [9] 0 k1)) (seqK (fun tT h2 =>
K0 .ret [(8, (get tT 9))] h2) K0)

noncomputable def s_law_in_b0 (mg : GT) (mc : CT) (ms : ST) (P : Program) (C : CallF) (L0 : Value → Value → Value → Value → Value → Value → AHeap → K → Res) (v1 : Value) (v2 : Value) (v3 : Value) (v9 : Value) (v10 : Value) (v11 : Value) (H : AHeap) (k : K) : Res :=
bareK (lenS v10) H fun t16 h2 =>
bareK (xbin P .lss T.int (.tmp 14) (.tmp 16) v11 t16) h2 fun t17 h3 =>
mc t17 (fun k2 => k2 .normal [(1, v1), (2, v2), (3, v3), (9, v9), (10, v10), (11, v11)] h3) (fun k2 =>
k2 (.exit 0) [(17, t17), (16, t16), (15, v10), (14, v11), (1, v1), (2, v2), (3, v3), (9, v9), (10, v10), (11, v11)] h3) (seqK (fun tT h4 =>
ms (fun k3 =>
bareK (ixS 2 (get tT 10) (get tT 11)) h4 fun t22 h5 =>
bareK (fad 0 t22) h5 fun t23 h6 =>
bareK (ld1 h6 t23) h6 fun t24 h7 =>
bareK (xbin P .gtr T.string (.tmp 24) (.tmp 25) t24 (get tT 1)) h7 fun t26 h8 =>
mg t26 false (fun o4 => o4 (get tT 2) h8) h8 fun t28 h9 =>
mg t26 false (fun o5 => o5 t28 h9) h9 fun t29 h10 =>
mg t29 true (fun o6 => o6 (get tT 10) h10) h10 fun t30 h11 =>
mg t29 true (fun o7 => o7 (get tT 11) h11) h11 fun t31 h12 =>
mg t29 true (fun o8 => bareK (ixS 2 t30 t31) h12 o8) h12 fun t32 h13 =>
mg t29 true (fun o9 => bareK (fad 0 t32) h13 o9) h13 fun t33 h14 =>
mg t29 true (fun o10 => bareK (ld1 h14 t33) h14 o10) h14 fun t34 h15 =>
mg t29 true (fun o11 => o11 (get tT 1) h15) h15 fun t35 h16 =>
mg t29 true (fun o12 => bareK (xbin P .eql T.string (.tmp 34) (.tmp 35) t34 t35) h16 o12) h16 fun t36 h17 =>
mg t26 false (fun o13 => pickK t29 t36 (.bool false) fun v => o13 v h17) h17 fun t37 h18 =>
pickK t26 (.bool true) t37 fun t38 =>
mg t38 true (fun o14 => o14 (get tT 3) h18) h18 fun t40 h19 =>
mg t38 true (fun o15 => bareK (xbin P .eql T.string (.tmp 40) (.const (.string (mk []))) t40 (.string (mk []))) h19 o15) h19 fun t41 h20 =>
mg t38 true (fun o16 => o16 t41 h20) h20 fun t42 h21 =>
mg t42 false (fun o17 => o17 (get tT 10) h21) h21 fun t43 h22 =>
mg t42 false (fun o18 => o18 (get tT 11) h22) h22 fun t44 h23 =>
mg t42 false (fun o19 => bareK (ixS 2 t43 t44) h23 o19) h23 fun t45 h24 =>
mg t42 false (fun o20 => bareK (fad 0 t45) h24 o20) h24 fun t46 h25 =>
mg t42 false (fun o21 => bareK (ld1 h25 t46) h25 o21) h25 fun t47 h26 =>
mg t42 false (fun o22 => o22 (get tT 3) h26) h26 fun t48 h27 =>
mg t42 false (fun o23 => bareK (xbin P .lss T.string (.tmp 47) (.tmp 48) t47 t48) h27 o23) h27 fun t49 h28 =>
mg t38 true (fun o24 => pickK t42 (.bool true) t49 fun v => o24 v h28) h28 fun t50 h29 =>
pickK t38 t50 (.bool false) fun t51 =>
mc t51 (fun k25 => bareK (ixS 2 (get tT 10) (get tT 11)) h29 fun t55 h30 =>
bareK (ldN 2 h30 t55) h30 fun t56 h31 =>
bothK (bldL T.api_Pair [(.string (mk [])), (.string (mk []))] 1 [(0, t56)] h31) fun t57 h32 =>
bothK (app T.api_Pair 2 32 (get tT 9) (srcS 2 t57 h32) h32) fun t58 h33 =>
k25 .normal [(1, (get tT 1)), (2, (get tT 2)), (3, (get tT 3)), (9, t58), (10, (get tT 10)), (11, (get tT 11))] h33) (fun k25 =>
k25 .normal [(1, (get tT 1)), (2, (get tT 2)), (3, (get tT 3)), (9, (get tT 9)), (10, (get tT 10)), (11, (get tT 11))] h29) (blkK [1, 2, 3, 9, 10, 11] 1 k3)) (seqK (fun tT_1 h34 =>
bareK (xbin P .add T.int (.tmp 18) (.const (.int .i64 1)) (get tT_1 11) (.int .i64 1)) h34 fun t19 h35 =>
k .normal [(1, (get tT_1 1)), (2, (get tT_1 2)), (3, (get tT_1 3)), (9, (get tT_1 9)), (10, (get tT_1 10)), (11, t19)] h35) (afterK [1, 2, 3, 9, 10, 11] k))) (afterK [1, 2, 3, 9, 10, 11] k))

theorem s_law_in_eq (M : CombL) (C : CallF) (LP : LoopH) (a0 : Value) (a1 : Value) (a2 : Value) (a3 : Value) (H : AHeap) : dBodyL M Tryd.prog hints C LP F.law_in [a0, a1, a2, a3] H = s_law_in M.b.g M.c M.s Tryd.prog C (fun v1 v2 v3 v9 v10 v11 H k => loopL M Tryd.prog hints C LP F.law_in 0 [(1, v1), (2, v2), (3, v3), (9, v9), (10, v10), (11, v11)] H k) a0 a1 a2 a3 H (endK Tryd.prog [.tmp 8]) := by kernel_rfl

theorem s_law_in_b0_eq (M : CombL) (C : CallF) (LP : LoopH) (v1 : Value) (v2 : Value) (v3 : Value) (v9 : Value) (v10 : Value) (v11 : Value) (H : AHeap) (k : K) : bodyL M Tryd.prog hints C LP F.law_in 0 [(1, v1), (2, v2), (3, v3), (9, v9), (10, v10), (11, v11)] H (afterK [1, 2, 3, 9, 10, 11] k) = s_law_in_b0 M.b.g M.c M.s Tryd.prog C (fun v1 v2 v3 v9 v10 v11 H k => loopL M Tryd.prog hints C LP F.law_in 0 [(1, v1), (2, v2), (3, v3), (9, v9), (10, v10), (11, v11)] H k) v1 v2 v3 v9 v10 v11 H k := by kernel_rfl

/-! ticketline.ticketlinelaw44.cut -/

noncomputable def s_law_cut (mg : GT) (mc : CT) (ms : ST) (P : Program) (C : CallF) (a0 : Value) (a1 : Value) (a2 : Value) (H : AHeap) (K0 : K) : Res :=
bareK (lenS a0) H fun t9 h1 =>
bareK (xbin P .leq T.int (.tmp 9) (.tmp 10) t9 a1) h1 fun t11 h2 =>
mc t11 (fun k1 => k1 .ret [(6, a0), (7, (.string (mk [])))] h2) (fun k1 =>
k1 .normal [(0, a0), (1, a1), (2, a2)] h2) (seqK (fun tT h3 =>
bareK (slS T.api_Pair 2 (get tT 0) none (some (get tT 1)) none h3) h3 fun t15 h4 =>
bareK (xbin P .sub T.int (.tmp 18) (.const (.int .i64 1)) (get tT 1) (.int .i64 1)) h4 fun t19 h5 =>
bareK (ixS 2 (get tT 0) t19) h5 fun t20 h6 =>
bareK (fad 0 t20) h6 fun t21 h7 =>
bareK (ld1 h7 t21) h7 fun t22 h8 =>
enterK C F.law_marked [(get tT 2), t22] h8 fun t23 h9 =>
checkK (okV (some true) none h8 h9 h3 h3 && (okV (some true) none h8 h9 h3 h3 && (okV (some true) (blockOf (get tT 0)) h8 h9 h3 h4 && true))) <|
K0 .ret [(6, t15), (7, t23)] h9) K0)

theorem s_law_cut_eq (M : CombL) (C : CallF) (LP : LoopH) (a0 : Value) (a1 : Value) (a2 : Value) (H : AHeap) : dBodyL M Tryd.prog hints C LP F.law_cut [a0, a1, a2] H = s_law_cut M.b.g M.c M.s Tryd.prog C a0 a1 a2 H (endK Tryd.prog [.tmp 6, .tmp 7]) := by kernel_rfl

/-! ticketline.ticketlinelaw44.marked -/

noncomputable def s_law_marked (mg : GT) (mc : CT) (ms : ST) (P : Program) (C : CallF) (L0 : Value → Value → Value → AHeap → K → Res) (a0 : Value) (a1 : Value) (H : AHeap) (K0 : K) : Res :=
enterK C F.law_hexed [a0] H fun t9 h1 =>
bareK (xbin P .add T.string (.tmp 9) (.const (.string (mk [46]))) t9 (.string (mk [46]))) h1 fun t10 h2 =>
enterK C F.law_hexed [a1] h2 fun t12 h3 =>
bareK (xbin P .add T.string (.tmp 10) (.tmp 12) t10 t12) h3 fun t13 h4 =>
bareK (xbin P .add T.string (.tmp 13) (.const (.string (mk [46]))) t13 (.string (mk [46]))) h4 fun t14 h5 =>
ms (fun k1 =>
L0 t14 (.int .i64 17) (.int .i64 0) h5 (blkK [5, 6] 0 k1)) (seqK (fun tT h6 =>
bareK (xbin P .quo T.int (.tmp 30) (.const (.int .i64 256)) (get tT 6) (.int .i64 256)) h6 fun t31 h7 =>
bothK (xconv P T.int T.uint8 t31 h7) fun t32 h8 =>
bareK (xbin P .rem T.int (.tmp 33) (.const (.int .i64 256)) (get tT 6) (.int .i64 256)) h8 fun t34 h9 =>
bothK (xconv P T.int T.uint8 t34 h9) fun t35 h10 =>
bothK (bldL T.uint8 [(.int .u8 0)] 2 [(0, t32), (1, t35)] h10) fun t36 h11 =>
bothK (xconv P T.sl_uint8 T.string t36 h11) fun t37 h12 =>
enterK C F.law_hexed [t37] h12 fun t38 h13 =>
bareK (xbin P .add T.string (.tmp 29) (.tmp 38) (get tT 5) t38) h13 fun t39 h14 =>
K0 .ret [(4, t39)] h14) K0)

noncomputable def s_law_marked_b0 (mg : GT) (mc : CT) (ms : ST) (P : Program) (C : CallF) (L0 : Value → Value → Value → AHeap → K → Res) (v5 : Value) (v6 : Value) (v7 : Value) (H : AHeap) (k : K) : Res :=
bareK (lenT v5) H fun t17 h6 =>
bareK (xbin P .lss T.int (.tmp 15) (.tmp 17) v7 t17) h6 fun t18 h7 =>
mc t18 (fun k2 => k2 .normal [(5, v5), (6, v6), (7, v7)] h7) (fun k2 =>
k2 (.exit 0) [(18, t18), (17, t17), (16, v5), (15, v7), (5, v5), (6, v6), (7, v7)] h7) (seqK (fun tT h8 =>
ms (fun k3 =>
bareK (xbin P .mul T.int (.const (.int .i64 31)) (.tmp 21) (.int .i64 31) (get tT 6)) h8 fun t22 h9 =>
bareK (xindex P T.string (get tT 5) (get tT 7)) h9 fun t25 h10 =>
bothK (xconv P T.uint8 T.int t25 h10) fun t26 h11 =>
bareK (xbin P .add T.int (.tmp 22) (.tmp 26) t22 t26) h11 fun t27 h12 =>
bareK (xbin P .rem T.int (.tmp 27) (.const (.int .i64 65521)) t27 (.int .i64 65521)) h12 fun t28 h13 =>
k3 .normal [(5, (get tT 5)), (6, t28), (7, (get tT 7))] h13) (seqK (fun tT_1 h14 =>
bareK (xbin P .add T.int (.tmp 19) (.const (.int .i64 1)) (get tT_1 7) (.int .i64 1)) h14 fun t20 h15 =>
k .normal [(5, (get tT_1 5)), (6, (get tT_1 6)), (7, t20)] h15) (afterK [5, 6, 7] k))) (afterK [5, 6, 7] k))

theorem s_law_marked_eq (M : CombL) (C : CallF) (LP : LoopH) (a0 : Value) (a1 : Value) (H : AHeap) : dBodyL M Tryd.prog hints C LP F.law_marked [a0, a1] H = s_law_marked M.b.g M.c M.s Tryd.prog C (fun v5 v6 v7 H k => loopL M Tryd.prog hints C LP F.law_marked 0 [(5, v5), (6, v6), (7, v7)] H k) a0 a1 H (endK Tryd.prog [.tmp 4]) := by kernel_rfl

theorem s_law_marked_b0_eq (M : CombL) (C : CallF) (LP : LoopH) (v5 : Value) (v6 : Value) (v7 : Value) (H : AHeap) (k : K) : bodyL M Tryd.prog hints C LP F.law_marked 0 [(5, v5), (6, v6), (7, v7)] H (afterK [5, 6, 7] k) = s_law_marked_b0 M.b.g M.c M.s Tryd.prog C (fun v5 v6 v7 H k => loopL M Tryd.prog hints C LP F.law_marked 0 [(5, v5), (6, v6), (7, v7)] H k) v5 v6 v7 H k := by kernel_rfl

/-! ticketline.ticketlinelaw44.unmarked -/

noncomputable def s_law_unmarked (mg : GT) (mc : CT) (ms : ST) (P : Program) (C : CallF) (L0 : Value → Value → Value → Value → AHeap → K → Res) (L1 : Value → Value → Value → Value → AHeap → K → Res) (a0 : Value) (H : AHeap) (K0 : K) : Res :=
bothK (newv T.n2_string (.agg #[(.string (mk [])), (.string (mk []))]) H) fun t5 h1 =>
ms (fun k1 =>
L0 a0 t5 (.int .i64 0) (.int .i64 0) h1 (blkK [0, 5] 0 k1)) (seqK (fun tT h2 =>
bareK (ixA 2 1 (get tT 5) (.int .i64 0)) h2 fun t68 h3 =>
bareK (ld1 h3 t68) h3 fun t69 h4 =>
bareK (ixA 2 1 (get tT 5) (.int .i64 1)) h4 fun t70 h5 =>
bareK (ld1 h5 t70) h5 fun t71 h6 =>
checkK true <|
bareK (lenT t71) h6 fun t73 h7 =>
bareK (xbin P .lss T.int (.tmp 73) (.const (.int .i64 1)) t73 (.int .i64 1)) h7 fun t74 h8 =>
mg t74 false (fun o2 => o2 t71 h8) h8 fun t76 h9 =>
mg t74 false (fun o3 => bareK (lenT t76) h9 o3) h9 fun t77 h10 =>
mg t74 false (fun o4 => bareK (xbin P .gtr T.int (.tmp 77) (.const (.int .i64 24)) t77 (.int .i64 24)) h10 o4) h10 fun t78 h11 =>
pickK t74 (.bool true) t78 fun t79 =>
mg t79 false (fun o5 => o5 t69 h11) h11 fun t81 h12 =>
mg t79 false (fun o6 => bareK (lenT t81) h12 o6) h12 fun t82 h13 =>
mg t79 false (fun o7 => bareK (xbin P .gtr T.int (.tmp 82) (.const (.int .i64 24)) t82 (.int .i64 24)) h13 o7) h13 fun t83 h14 =>
pickK t79 (.bool true) t83 fun t84 =>
mg t84 false (fun o8 => o8 t69 h14) h14 fun t86 h15 =>
mg t84 false (fun o9 => bareK (lenT t86) h15 o9) h15 fun t87 h16 =>
mg t84 false (fun o10 => bareK (xbin P .gtr T.int (.tmp 87) (.const (.int .i64 0)) t87 (.int .i64 0)) h16 o10) h16 fun t88 h17 =>
mg t84 false (fun o11 => o11 t88 h17) h17 fun t89 h18 =>
mg t89 true (fun o12 => o12 t69 h18) h18 fun t90 h19 =>
mg t89 true (fun o13 => o13 t71 h19) h19 fun t91 h20 =>
mg t89 true (fun o14 => bareK (xbin P .leq T.string (.tmp 90) (.tmp 91) t90 t91) h20 o14) h20 fun t92 h21 =>
mg t84 false (fun o15 => pickK t89 t92 (.bool false) fun v => o15 v h21) h21 fun t93 h22 =>
pickK t84 (.bool true) t93 fun t94 =>
mg t94 false (fun o16 => o16 t69 h22) h22 fun t96 h23 =>
mg t94 false (fun o17 => o17 t71 h23) h23 fun t97 h24 =>
mg t94 false (fun o18 => enterK C F.law_marked [t96, t97] h24 o18) h24 fun t98 h25 =>
mg t94 false (fun o19 => o19 (get tT 0) h25) h25 fun t99 h26 =>
mg t94 false (fun o20 => bareK (xbin P .neq T.string (.tmp 98) (.tmp 99) t98 t99) h26 o20) h26 fun t100 h27 =>
pickK t94 (.bool true) t100 fun t101 =>
mc t101 (fun k21 => k21 .ret [(2, (.string (mk []))), (3, (.string (mk []))), (4, (.bool false))] h27) (fun k21 =>
k21 .normal [(8, t69), (9, t71)] h27) (seqK (fun tT_1 h28 =>
K0 .ret [(2, (get tT_1 8)), (3, (get tT_1 9)), (4, (.bool true))] h28) K0)) K0)

noncomputable def s_law_unmarked_b0 (mg : GT) (mc : CT) (ms : ST) (P : Program) (C : CallF) (L0 : Value → Value → Value → Value → AHeap → K → Res) (L1 : Value → Value → Value → Value → AHeap → K → Res) (v0 : Value) (v5 : Value) (v6 : Value) (v7 : Value) (H : AHeap) (k : K) : Res :=
bareK (xbin P .lss T.int (.tmp 10) (.const (.int .i64 2)) v7 (.int .i64 2)) H fun t11 h2 =>
mc t11 (fun k2 => k2 .normal [(0, v0), (5, v5), (6, v6), (7, v7)] h2) (fun k2 =>
k2 (.exit 0) [(11, t11), (10, v7), (0, v0), (5, v5), (6, v6), (7, v7)] h2) (seqK (fun tT h3 =>
ms (fun k3 =>
ms (fun k4 =>
L1 (get tT 0) (get tT 5) (get tT 6) (get tT 7) h3 (blkK [0, 5, 6, 7] 2 k4)) (seqK (fun tT_1 h4 =>
bareK (lenT (get tT_1 0)) h4 fun t58 h5 =>
bareK (xbin P .geq T.int (.tmp 56) (.tmp 58) (get tT_1 6) t58) h5 fun t59 h6 =>
mg t59 false (fun o5 => o5 (get tT_1 0) h6) h6 fun t61 h7 =>
mg t59 false (fun o6 => o6 (get tT_1 6) h7) h7 fun t62 h8 =>
mg t59 false (fun o7 => bareK (xindex P T.string t61 t62) h8 o7) h8 fun t63 h9 =>
mg t59 false (fun o8 => bareK (xbin P .neq T.uint8 (.tmp 63) (.const (.int .u8 46)) t63 (.int .u8 46)) h9 o8) h9 fun t64 h10 =>
pickK t59 (.bool true) t64 fun t65 =>
mc t65 (fun k9 => k9 .ret [(2, (.string (mk []))), (3, (.string (mk []))), (4, (.bool false))] h10) (fun k9 =>
k9 .normal [(0, (get tT_1 0)), (5, (get tT_1 5)), (6, (get tT_1 6)), (7, (get tT_1 7))] h10) (seqK (fun tT_2 h11 =>
bareK (xbin P .add T.int (.tmp 66) (.const (.int .i64 1)) (get tT_2 6) (.int .i64 1)) h11 fun t67 h12 =>
k3 .normal [(0, (get tT_2 0)), (5, (get tT_2 5)), (6, t67), (7, (get tT_2 7))] h12) (blkK [0, 5, 6, 7] 1 k3))) (blkK [0, 5, 6, 7] 1 k3))) (seqK (fun tT_3 h13 =>
bareK (xbin P .add T.int (.tmp 12) (.const (.int .i64 1)) (get tT_3 7) (.int .i64 1)) h13 fun t13 h14 =>
k .normal [(0, (get tT_3 0)), (5, (get tT_3 5)), (6, (get tT_3 6)), (7, t13)] h14) (afterK [0, 5, 6, 7] k))) (afterK [0, 5, 6, 7] k))

noncomputable def s_law_unmarked_b1 (mg : GT) (mc : CT) (ms : ST) (P : Program) (C : CallF) (L0 : Value → Value → Value → Value → AHeap → K → Res) (L1 : Value → Value → Value → Value → AHeap → K → Res) (v0 : Value) (v5 : Value) (v6 : Value) (v7 : Value) (H : AHeap) (k : K) : Res :=
bareK (xbin P .add T.int (.tmp 14) (.const (.int .i64 1)) v6 (.int .i64 1)) H fun t15 h4 =>
bareK (lenT v0) h4 fun t17 h5 =>
bareK (xbin P .lss T.int (.tmp 15) (.tmp 17) t15 t17) h5 fun t18 h6 =>
mg t18 true (fun o5 => o5 v0 h6) h6 fun t20 h7 =>
mg t18 true (fun o6 => o6 v6 h7) h7 fun t21 h8 =>
mg t18 true (fun o7 => bareK (xindex P T.string t20 t21) h8 o7) h8 fun t22 h9 =>
mg t18 true (fun o8 => enterK C F.law_digit [t22] h9 o8) h9 fun t23 h10 =>
mg t18 true (fun o9 => bareK (xbin P .geq T.int (.tmp 23) (.const (.int .i64 0)) t23 (.int .i64 0)) h10 o9) h10 fun t24 h11 =>
pickK t18 t24 (.bool false) fun t25 =>
mg t25 true (fun o10 => o10 v0 h11) h11 fun t27 h12 =>
mg t25 true (fun o11 => o11 v6 h12) h12 fun t28 h13 =>
mg t25 true (fun o12 => bareK (xbin P .add T.int (.tmp 28) (.const (.int .i64 1)) t28 (.int .i64 1)) h13 o12) h13 fun t29 h14 =>
mg t25 true (fun o13 => bareK (xindex P T.string t27 t29) h14 o13) h14 fun t30 h15 =>
mg t25 true (fun o14 => enterK C F.law_digit [t30] h15 o14) h15 fun t31 h16 =>
mg t25 true (fun o15 => bareK (xbin P .geq T.int (.tmp 31) (.const (.int .i64 0)) t31 (.int .i64 0)) h16 o15) h16 fun t32 h17 =>
pickK t25 t32 (.bool false) fun t33 =>
mc t33 (fun k16 => k16 .normal [(0, v0), (5, v5), (6, v6), (7, v7)] h17) (fun k16 =>
k16 (.exit 2) [(33, t33), (32, t32), (31, t31), (30, t30), (29, t29), (28, t28), (27, t27), (26, t25), (25, t25), (24, t24), (23, t23), (22, t22), (21, t21), (20, t20), (19, t18), (18, t18), (17, t17), (16, v0), (15, t15), (14, v6), (0, v0), (5, v5), (6, v6), (7, v7)] h17) (seqK (fun tT h18 =>
ms (fun k17 =>
bareK (ixA 2 1 (get tT 5) (get tT 7)) h18 fun t36 h19 =>
bareK (ld1 h19 t36) h19 fun t37 h20 =>
bareK (xindex P T.string (get tT 0) (get tT 6)) h20 fun t40 h21 =>
enterK C F.law_digit [t40] h21 fun t41 h22 =>
bareK (xbin P .mul T.int (.const (.int .i64 16)) (.tmp 41) (.int .i64 16) t41) h22 fun t42 h23 =>
bareK (xbin P .add T.int (.tmp 44) (.const (.int .i64 1)) (get tT 6) (.int .i64 1)) h23 fun t45 h24 =>
bareK (xindex P T.string (get tT 0) t45) h24 fun t46 h25 =>
enterK C F.law_digit [t46] h25 fun t47 h26 =>
bareK (xbin P .add T.int (.tmp 42) (.tmp 47) t42 t47) h26 fun t48 h27 =>
bothK (xconv P T.int T.uint8 t48 h27) fun t49 h28 =>
bothK (bldL T.uint8 [(.int .u8 0)] 1 [(0, t49)] h28) fun t50 h29 =>
bothK (xconv P T.sl_uint8 T.string t50 h29) fun t51 h30 =>
bareK (xbin P .add T.string (.tmp 37) (.tmp 51) t37 t51) h30 fun t52 h31 =>
bareK (ixA 2 1 (get tT 5) (get tT 7)) h31 fun t53 h32 =>
quietK (st1 h32 t53 t52) fun _ h33 =>
checkK (okV (some true) none h21 h22 h18 h18 && (okV (some true) none h21 h22 h18 h18 && (okV (some true) none h21 h22 h18 h19 && (okV (some true) (blockOf t36) h21 h22 h19 h20 && (okV (some true) none h21 h22 h23 h23 && (okV (some true) none h21 h22 h23 h23 && (okV (some true) none h21 h22 h23 h24 && (okV (some true) none h21 h22 h24 h25 && (okV (some true) none h25 h26 h18 h18 && (okV (some true) none h25 h26 h18 h18 && (okV (some true) none h25 h26 h18 h19 && (okV (some true) (blockOf t36) h25 h26 h19 h20 && (okV (some true) none h25 h26 h22 h23 && true))))))))))))) <|
bareK (xbin P .add T.int (.tmp 54) (.const (.int .i64 2)) (get tT 6) (.int .i64 2)) h33 fun t55 h34 =>
k17 .normal [(0, (get tT 0)), (5, (get tT 5)), (6, t55), (7, (get tT 7))] h34) (afterK [0, 5, 6, 7] k)) (afterK [0, 5, 6, 7] k))

theorem s_law_unmarked_eq (M : CombL) (C : CallF) (LP : LoopH) (a0 : Value) (H : AHeap) : dBodyL M Tryd.prog hints C LP F.law_unmarked [a0] H = s_law_unmarked M.b.g M.c M.s Tryd.prog C (fun v0 v5 v6 v7 H k => loopL M Tryd.prog hints C LP F.law_unmarked 0 [(0, v0), (5, v5), (6, v6), (7, v7)] H k) (fun v0 v5 v6 v7 H k => loopL M Tryd.prog hints C LP F.law_unmarked 1 [(0, v0), (5, v5), (6, v6), (7, v7)] H k) a0 H (endK Tryd.prog [.tmp 2, .tmp 3, .tmp 4]) := by kernel_rfl

theorem s_law_unmarked_b0_eq (M : CombL) (C : CallF) (LP : LoopH) (v0 : Value) (v5 : Value) (v6 : Value) (v7 : Value) (H : AHeap) (k : K) : bodyL M Tryd.prog hints C LP F.law_unmarked 0 [(0, v0), (5, v5), (6, v6), (7, v7)] H (afterK [0, 5, 6, 7] k) = s_law_unmarked_b0 M.b.g M.c M.s Tryd.prog C (fun v0 v5 v6 v7 H k => loopL M Tryd.prog hints C LP F.law_unmarked 0 [(0, v0), (5, v5), (6, v6), (7, v7)] H k) (fun v0 v5 v6 v7 H k => loopL M Tryd.prog hints C LP F.law_unmarked 1 [(0, v0), (5, v5), (6, v6), (7, v7)] H k) v0 v5 v6 v7 H k := by kernel_rfl

theorem s_law_unmarked_b1_eq (M : CombL) (C : CallF) (LP : LoopH) (v0 : Value) (v5 : Value) (v6 : Value) (v7 : Value) (H : AHeap) (k : K) : bodyL M Tryd.prog hints C LP F.law_unmarked 1 [(0, v0), (5, v5), (6, v6), (7, v7)] H (afterK [0, 5, 6, 7] k) = s_law_unmarked_b1 M.b.g M.c M.s Tryd.prog C (fun v0 v5 v6 v7 H k => loopL M Tryd.prog hints C LP F.law_unmarked 0 [(0, v0), (5, v5), (6, v6), (7, v7)] H k) (fun v0 v5 v6 v7 H k => loopL M Tryd.prog hints C LP F.law_unmarked 1 [(0, v0), (5, v5), (6, v6), (7, v7)] H k) v0 v5 v6 v7 H k := by kernel_rfl

/-! ticketline.ticketlinelaw44.read -/

noncomputable def s_law_read (mg : GT) (mc : CT) (ms : ST) (P : Program) (C : CallF) (a0 : Value) (a1 : Value) (a2 : Value) (a3 : Value) (H : AHeap) (K0 : K) : Res :=
enterK C F.pages_Read [a0] H fun t14 h1 =>
bareK (xextract t14 0) h1 fun t15 h2 =>
bareK (xextract t14 1) h2 fun t16 h3 =>
bareK (xextract t14 2) h3 fun t17 h4 =>
bareK (xbin P .eql T.string (.tmp 18) (.tmp 19) t15 a1) h4 fun t20 h5 =>
mg t20 true (fun o1 => o1 t16 h5) h5 fun t22 h6 =>
mg t20 true (fun o2 => o2 a2 h6) h6 fun t23 h7 =>
mg t20 true (fun o3 => bareK (xbin P .eql T.string (.tmp 22) (.tmp 23) t22 t23) h7 o3) h7 fun t24 h8 =>
pickK t20 t24 (.bool false) fun t25 =>
mg t25 true (fun o4 => o4 t17 h8) h8 fun t27 h9 =>
mg t25 true (fun o5 => o5 a3 h9) h9 fun t28 h10 =>
mg t25 true (fun o6 => bareK (xbin P .eql T.int (.tmp 27) (.tmp 28) t27 t28) h10 o6) h10 fun t29 h11 =>
pickK t25 t29 (.bool false) fun t30 =>
K0 .ret [(8, t30)] h11

theorem s_law_read_eq (M : CombL) (C : CallF) (LP : LoopH) (a0 : Value) (a1 : Value) (a2 : Value) (a3 : Value) (H : AHeap) : dBodyL M Tryd.prog hints C LP F.law_read [a0, a1, a2, a3] H = s_law_read M.b.g M.c M.s Tryd.prog C a0 a1 a2 a3 H (endK Tryd.prog [.tmp 8]) := by kernel_rfl

/-! ticketline.ticketlinelaw44.next -/

noncomputable def s_law_next (mg : GT) (mc : CT) (ms : ST) (P : Program) (C : CallF) (a0 : Value) (a1 : Value) (a2 : Value) (a3 : Value) (a4 : Value) (a5 : Value) (H : AHeap) (K0 : K) : Res :=
enterK C F.pages_Next [a0, a1, a2] H fun t20 h1 =>
bareK (xextract t20 0) h1 fun t21 h2 =>
bareK (xextract t20 1) h2 fun t22 h3 =>
bareK (xextract t20 2) h3 fun t23 h4 =>
enterK C F.law_same [t21, a3] h4 fun t26 h5 =>
mg t26 true (fun o1 => o1 t22 h5) h5 fun t28 h6 =>
mg t26 true (fun o2 => o2 a4 h6) h6 fun t29 h7 =>
mg t26 true (fun o3 => bareK (xbin P .eql T.string (.tmp 28) (.tmp 29) t28 t29) h7 o3) h7 fun t30 h8 =>
pickK t26 t30 (.bool false) fun t31 =>
mg t31 true (fun o4 => o4 t23 h8) h8 fun t33 h9 =>
mg t31 true (fun o5 => o5 a5 h9) h9 fun t34 h10 =>
mg t31 true (fun o6 => bareK (xbin P .eql T.int (.tmp 33) (.tmp 34) t33 t34) h10 o6) h10 fun t35 h11 =>
pickK t31 t35 (.bool false) fun t36 =>
K0 .ret [(12, t36)] h11

theorem s_law_next_eq (M : CombL) (C : CallF) (LP : LoopH) (a0 : Value) (a1 : Value) (a2 : Value) (a3 : Value) (a4 : Value) (a5 : Value) (H : AHeap) : dBodyL M Tryd.prog hints C LP F.law_next [a0, a1, a2, a3, a4, a5] H = s_law_next M.b.g M.c M.s Tryd.prog C a0 a1 a2 a3 a4 a5 H (endK Tryd.prog [.tmp 12]) := by kernel_rfl

/-! ticketline.pages.First -/

noncomputable def s_pages_First (mg : GT) (mc : CT) (ms : ST) (P : Program) (C : CallF) (a0 : Value) (a1 : Value) (a2 : Value) (a3 : Value) (H : AHeap) (K0 : K) : Res :=
enterK C F.pages_allowed [a0, a3] H fun t14 h1 =>
bareK (xbin P .neq T.api_Errno (.tmp 15) (.const (.int .i64 0)) t14 (.int .i64 0)) h1 fun t16 h2 =>
mc t16 (fun k1 => k1 .ret [(8, (.slice none 0 0)), (9, (.string (mk []))), (10, t14)] h2) (fun k1 =>
k1 .normal [(0, a0), (1, a1), (2, a2), (3, a3)] h2) (seqK (fun tT h3 =>
ms (fun k2 =>
bareK (lenT (get tT 1)) h3 fun t20 h4 =>
bareK (xbin P .gtr T.int (.tmp 20) (.const (.int .i64 24)) t20 (.int .i64 24)) h4 fun t21 h5 =>
mg t21 false (fun o3 => o3 (get tT 2) h5) h5 fun t23 h6 =>
mg t21 false (fun o4 => bareK (lenT t23) h6 o4) h6 fun t24 h7 =>
mg t21 false (fun o5 => bareK (xbin P .gtr T.int (.tmp 24) (.const (.int .i64 24)) t24 (.int .i64 24)) h7 o5) h7 fun t25 h8 =>
pickK t21 (.bool true) t25 fun t26 =>
mc t26 (fun k6 => k6 .ret [(8, (.slice none 0 0)), (9, (.string (mk []))), (10, (.int .i64 5))] h8) (fun k6 =>
bareK (xbin P .neq T.string (.tmp 28) (.const (.string (mk []))) (get tT 2) (.string (mk []))) h8 fun t29 h9 =>
mg t29 true (fun o7 => o7 (get tT 2) h9) h9 fun t31 h10 =>
mg t29 true (fun o8 => o8 (get tT 1) h10) h10 fun t32 h11 =>
mg t29 true (fun o9 => bareK (xbin P .leq T.string (.tmp 31) (.tmp 32) t31 t32) h11 o9) h11 fun t33 h12 =>
pickK t29 t33 (.bool false) fun t34 =>
mc t34 (fun k10 => k10 .ret [(8, (.slice none 0 0)), (9, (.string (mk []))), (10, (.int .i64 13))] h12) (fun k10 =>
k10 .normal [(0, (get tT 0)), (1, (get tT 1)), (2, (get tT 2)), (3, (get tT 3))] h12) (afterK [0, 1, 2, 3] k6)) (blkK [0, 1, 2, 3] 0 k2)) (seqK (fun tT_1 h13 =>
enterK C F.pages_page [(get tT_1 0), (get tT_1 1), (.bool false), (get tT_1 2), (get tT_1 3)] h13 fun t40 h14 =>
bareK (xextract t40 0) h14 fun t41 h15 =>
bareK (xextract t40 1) h15 fun t42 h16 =>
K0 .ret [(8, t41), (9, t42), (10, (.int .i64 0))] h16) K0)) K0)

theorem s_pages_First_eq (M : CombL) (C : CallF) (LP : LoopH) (a0 : Value) (a1 : Value) (a2 : Value) (a3 : Value) (H : AHeap) : dBodyL M Tryd.prog hints C LP F.pages_First [a0, a1, a2, a3] H = s_pages_First M.b.g M.c M.s Tryd.prog C a0 a1 a2 a3 H (endK Tryd.prog [.tmp 8, .tmp 9, .tmp 10]) := by kernel_rfl

/-! (*ticketline.model.Model).Delete -/

noncomputable def s_model_Model_Delete (mg : GT) (mc : CT) (ms : ST) (P : Program) (C : CallF) (a0 : Value) (a1 : Value) (H : AHeap) (K0 : K) : Res :=
enterK C F.model_Model_Get [a0, a1] H fun t13 h1 =>
bareK (xextract t13 0) h1 fun t14 h2 =>
bareK (xextract t13 1) h2 fun t15 h3 =>
bareK (xbin P .neq T.api_Errno (.tmp 16) (.const (.int .i64 0)) t15 (.int .i64 0)) h3 fun t17 h4 =>
mc t17 (fun k1 => k1 .ret [(4, (.string (mk []))), (5, t15)] h4) (fun k1 =>
k1 .normal [(0, a0), (1, a1), (6, t14)] h4) (seqK (fun tT h5 =>
enterK C F.model_Model_place [(get tT 0), (get tT 1)] h5 fun t22 h6 =>
bareK (xextract t22 0) h6 fun t23 h7 =>
bareK (xextract t22 1) h7 fun t24 h8 =>
bareK (xnilCheck (get tT 0)) h8 fun t27 h9 =>
bareK (fad 0 t27) h9 fun t28 h10 =>
bareK (ld1 h10 t28) h10 fun t29 h11 =>
bareK (xbin P .add T.int (.tmp 31) (.const (.int .i64 1)) t23 (.int .i64 1)) h11 fun t32 h12 =>
enterK C F.slices_Delete_Pair [t29, t23, t32] h12 fun t33 h13 =>
bareK (xnilCheck (get tT 0)) h13 fun t34 h14 =>
bareK (fad 0 t34) h14 fun t35 h15 =>
quietK (st1 h15 t35 t33) fun _ h16 =>
K0 .ret [(4, (get tT 6)), (5, (.int .i64 0))] h16) K0)

theorem s_model_Model_Delete_eq (M : CombL) (C : CallF) (LP : LoopH) (a0 : Value) (a1 : Value) (H : AHeap) : dBodyL M Tryd.prog hints C LP F.model_Model_Delete [a0, a1] H = s_model_Model_Delete M.b.g M.c M.s Tryd.prog C a0 a1 H (endK Tryd.prog [.tmp 4, .tmp 5]) := by kernel_rfl

/-! (*ticketline.model.Model).Put -/

noncomputable def s_model_Model_Put (mg : GT) (mc : CT) (ms : ST) (P : Program) (C : CallF) (a0 : Value) (a1 : Value) (a2 : Value) (H : AHeap) (K0 : K) : Res :=
bothK (bldL T.string [(.string (mk []))] 1 [(0, a2)] H) fun t14 h1 =>
enterK C F.model_Model_at [a0, a1, t14] h1 fun t15 h2 =>
bareK (xextract t15 0) h2 fun t16 h3 =>
bareK (xextract t15 1) h3 fun t17 h4 =>
bareK (xextract t15 2) h4 fun t18 h5 =>
bareK (xbin P .neq T.api_Errno (.tmp 19) (.const (.int .i64 0)) t18 (.int .i64 0)) h5 fun t20 h6 =>
mc t20 (fun k1 => k1 .ret [(6, t18)] h6) (fun k1 =>
k1 .normal [(0, a0), (1, a1), (2, a2), (7, t16), (8, t17)] h6) (seqK (fun tT h7 =>
bareK (bldS #[(.string (mk [])), (.string (mk []))] [(0, 1), (1, 1)] [(0, (get tT 1)), (1, (get tT 2))]) h7 fun t27 h8 =>
enterK C F.model_Model_set [(get tT 0), (get tT 7), (get tT 8), t27] h8 fun t28 h9 =>
K0 .ret [(6, t28)] h9) K0)

theorem s_model_Model_Put_eq (M : CombL) (C : CallF) (LP : LoopH) (a0 : Value) (a1 : Value) (a2 : Value) (H : AHeap) : dBodyL M Tryd.prog hints C LP F.model_Model_Put [a0, a1, a2] H = s_model_Model_Put M.b.g M.c M.s Tryd.prog C a0 a1 a2 H (endK Tryd.prog [.tmp 6]) := by kernel_rfl

/-! ticketline.pages.Next -/

noncomputable def s_pages_Next (mg : GT) (mc : CT) (ms : ST) (P : Program) (C : CallF) (a0 : Value) (a1 : Value) (a2 : Value) (H : AHeap) (K0 : K) : Res :=
enterK C F.pages_allowed [a0, a2] H fun t14 h1 =>
bareK (xbin P .neq T.api_Errno (.tmp 15) (.const (.int .i64 0)) t14 (.int .i64 0)) h1 fun t16 h2 =>
mc t16 (fun k1 => k1 .ret [(6, (.slice none 0 0)), (7, (.string (mk []))), (8, t14)] h2) (fun k1 =>
k1 .normal [(0, a0), (1, a1), (2, a2)] h2) (seqK (fun tT h3 =>
enterK C F.pages_Read [(get tT 1)] h3 fun t20 h4 =>
bareK (xextract t20 0) h4 fun t21 h5 =>
bareK (xextract t20 1) h5 fun t22 h6 =>
bareK (xextract t20 2) h6 fun t23 h7 =>
bareK (xbin P .neq T.api_Errno (.tmp 24) (.const (.int .i64 0)) t23 (.int .i64 0)) h7 fun t25 h8 =>
mc t25 (fun k2 => k2 .ret [(6, (.slice none 0 0)), (7, (.string (mk []))), (8, t23)] h8) (fun k2 =>
k2 .normal [(0, (get tT 0)), (2, (get tT 2)), (10, t21), (11, t22)] h8) (seqK (fun tT_1 h9 =>
enterK C F.pages_page [(get tT_1 0), (get tT_1 11), (.bool true), (get tT_1 10), (get tT_1 2)] h9 fun t32 h10 =>
bareK (xextract t32 0) h10 fun t33 h11 =>
bareK (xextract t32 1) h11 fun t34 h12 =>
K0 .ret [(6, t33), (7, t34), (8, (.int .i64 0))] h12) K0)) K0)

theorem s_pages_Next_eq (M : CombL) (C : CallF) (LP : LoopH) (a0 : Value) (a1 : Value) (a2 : Value) (H : AHeap) : dBodyL M Tryd.prog hints C LP F.pages_Next [a0, a1, a2] H = s_pages_Next M.b.g M.c M.s Tryd.prog C a0 a1 a2 H (endK Tryd.prog [.tmp 6, .tmp 7, .tmp 8]) := by kernel_rfl

/-! ticketline.ticketlinelaw44.same -/

noncomputable def s_law_same (mg : GT) (mc : CT) (ms : ST) (P : Program) (C : CallF) (L0 : Value → Value → Value → AHeap → K → Res) (a0 : Value) (a1 : Value) (H : AHeap) (K0 : K) : Res :=
bareK (lenS a0) H fun t7 h1 =>
bareK (lenS a1) h1 fun t9 h2 =>
bareK (xbin P .neq T.int (.tmp 7) (.tmp 9) t7 t9) h2 fun t10 h3 =>
mc t10 (fun k1 => k1 .ret [(4, (.bool false))] h3) (fun k1 =>
k1 .normal [(0, a0), (1, a1)] h3) (seqK (fun tT h4 =>
ms (fun k2 =>
L0 (get tT 0) (get tT 1) (.int .i64 0) h4 (blkK [] 0 k2)) (seqK (fun tT_1 h5 =>
K0 .ret [(4, (.bool true))] h5) K0)) K0)

noncomputable def s_law_same_b0 (mg : GT) (mc : CT) (ms : ST) (P : Program) (C : CallF) (L0 : Value → Value → Value → AHeap → K → Res) (v0 : Value) (v1 : Value) (v5 : Value) (H : AHeap) (k : K) : Res :=
bareK (lenS v0) H fun t13 h5 =>
bareK (xbin P .lss T.int (.tmp 11) (.tmp 13) v5 t13) h5 fun t14 h6 =>
mc t14 (fun k3 => k3 .normal [(0, v0), (1, v1), (5, v5)] h6) (fun k3 =>
k3 (.exit 0) [(14, t14), (13, t13), (12, v0), (11, v5), (0, v0), (1, v1), (5, v5)] h6) (seqK (fun tT h7 =>
ms (fun k4 =>
bareK (ixS 2 (get tT 0) (get tT 5)) h7 fun t19 h8 =>
bareK (ldN 2 h8 t19) h8 fun t20 h9 =>
bareK (ixS 2 (get tT 1) (get tT 5)) h9 fun t23 h10 =>
bareK (ldN 2 h10 t23) h10 fun t24 h11 =>
bareK (xbin P .neq T.api_Pair (.tmp 20) (.tmp 24) t20 t24) h11 fun t25 h12 =>
checkK true <|
mc t25 (fun k5 => k5 .ret [(4, (.bool false))] h12) (fun k5 =>
k5 .normal [(0, (get tT 0)), (1, (get tT 1)), (5, (get tT 5))] h12) (blkK [0, 1, 5] 1 k4)) (seqK (fun tT_1 h13 =>
bareK (xbin P .add T.int (.tmp 15) (.const (.int .i64 1)) (get tT_1 5) (.int .i64 1)) h13 fun t16 h14 =>
k .normal [(0, (get tT_1 0)), (1, (get tT_1 1)), (5, t16)] h14) (afterK [0, 1, 5] k))) (afterK [0, 1, 5] k))

theorem s_law_same_eq (M : CombL) (C : CallF) (LP : LoopH) (a0 : Value) (a1 : Value) (H : AHeap) : dBodyL M Tryd.prog hints C LP F.law_same [a0, a1] H = s_law_same M.b.g M.c M.s Tryd.prog C (fun v0 v1 v5 H k => loopL M Tryd.prog hints C LP F.law_same 0 [(0, v0), (1, v1), (5, v5)] H k) a0 a1 H (endK Tryd.prog [.tmp 4]) := by kernel_rfl

theorem s_law_same_b0_eq (M : CombL) (C : CallF) (LP : LoopH) (v0 : Value) (v1 : Value) (v5 : Value) (H : AHeap) (k : K) : bodyL M Tryd.prog hints C LP F.law_same 0 [(0, v0), (1, v1), (5, v5)] H (afterK [0, 1, 5] k) = s_law_same_b0 M.b.g M.c M.s Tryd.prog C (fun v0 v1 v5 H k => loopL M Tryd.prog hints C LP F.law_same 0 [(0, v0), (1, v1), (5, v5)] H k) v0 v1 v5 H k := by kernel_rfl

/-! ticketline.ticketlinelaw44.pair -/

noncomputable def s_law_pair (mg : GT) (mc : CT) (ms : ST) (P : Program) (C : CallF) (a0 : Value) (H : AHeap) (K0 : K) : Res :=
bothK (newv T.api_Pair (.agg #[(.string (mk [])), (.string (mk []))]) H) fun t2 h1 =>
bareK (bldS #[(.string (mk [])), (.string (mk []))] [(0, 1), (1, 1)] [(0, a0), (1, (.string (mk [118])))]) h1 fun t4 h2 =>
quietK (stN 2 h2 t2 t4) fun _ h3 =>
K0 .ret [(2, t2)] h3

theorem s_law_pair_eq (M : CombL) (C : CallF) (LP : LoopH) (a0 : Value) (H : AHeap) : dBodyL M Tryd.prog hints C LP F.law_pair [a0] H = s_law_pair M.b.g M.c M.s Tryd.prog C a0 H (endK Tryd.prog [.cell 2 T.api_Pair]) := by kernel_rfl

/-! ticketline.model.Of -/

noncomputable def s_model_Of (mg : GT) (mc : CT) (ms : ST) (P : Program) (C : CallF) (L0 : Value → Value → Value → Value → AHeap → K → Res) (a0 : Value) (H : AHeap) (K0 : K) : Res :=
bareK (lenS a0) H fun t8 h1 =>
ms (fun k1 =>
L0 a0 a0 t8 (.int .i64 0) h1 (blkK [0] 0 k1)) (seqK (fun tT h2 =>
bareK (lenS (get tT 0)) h2 fun t39 h3 =>
bareK (xbin P .gtr T.int (.tmp 39) (.const (.int .i64 20000)) t39 (.int .i64 20000)) h3 fun t40 h4 =>
mc t40 (fun k2 => k2 .ret [(2, (.pointer none)), (3, (.int .i64 7))] h4) (fun k2 =>
k2 .normal [(0, (get tT 0))] h4) (seqK (fun tT_1 h5 =>
enterK C F.slices_Clone_Pair [(get tT_1 0)] h5 fun t42 h6 =>
bareK (bldS #[(.slice none 0 0)] [(0, 1)] [(0, t42)]) h6 fun t43 h7 =>
bothK (newv T.model_Model t43 h7) fun t44 h8 =>
K0 .ret [(2, t44), (3, (.int .i64 0))] h8) K0)) K0)

noncomputable def s_model_Of_b0 (mg : GT) (mc : CT) (ms : ST) (P : Program) (C : CallF) (L0 : Value → Value → Value → Value → AHeap → K → Res) (v0 : Value) (v7 : Value) (v8 : Value) (v9 : Value) (H : AHeap) (k : K) : Res :=
bareK (xbin P .lss T.int (.tmp 9) (.tmp 8) v9 v8) H fun t10 h2 =>
mc t10 (fun k2 => k2 .normal [(0, v0), (7, v7), (8, v8), (9, v9)] h2) (fun k2 =>
k2 (.exit 0) [(10, t10), (0, v0), (7, v7), (8, v8), (9, v9)] h2) (seqK (fun tT h3 =>
ms (fun k3 =>
bareK (ixS 2 (get tT 7) (get tT 9)) h3 fun t12 h4 =>
bareK (ldN 2 h4 t12) h4 fun t13 h5 =>
bothK (newv T.api_Pair (.agg #[(.string (mk [])), (.string (mk []))]) h5) fun t5 h6 =>
quietK (stN 2 h6 t5 t13) fun _ h7 =>
bareK (fad 0 t5) h7 fun t14 h8 =>
bareK (ld1 h8 t14) h8 fun t15 h9 =>
bareK (fad 1 t5) h9 fun t16 h10 =>
bareK (ld1 h10 t16) h10 fun t17 h11 =>
bothK (bldL T.string [(.string (mk []))] 1 [(0, t17)] h11) fun t18 h12 =>
enterK C F.model_check [t15, t18] h12 fun t19 h13 =>
bareK (xbin P .neq T.api_Errno (.tmp 20) (.const (.int .i64 0)) t19 (.int .i64 0)) h13 fun t21 h14 =>
mc t21 (fun k4 => k4 .ret [(2, (.pointer none)), (3, t19)] h14) (fun k4 =>
k4 .normal [(0, (get tT 0)), (4, (get tT 9)), (5, t5), (7, (get tT 7)), (8, (get tT 8)), (9, (get tT 9))] h14) (seqK (fun tT_1 h15 =>
bareK (xbin P .gtr T.int (.tmp 23) (.const (.int .i64 0)) (get tT_1 4) (.int .i64 0)) h15 fun t24 h16 =>
mg t24 true (fun o5 => o5 (get tT_1 0) h16) h16 fun t26 h17 =>
mg t24 true (fun o6 => o6 (get tT_1 4) h17) h17 fun t27 h18 =>
mg t24 true (fun o7 => bareK (xbin P .sub T.int (.tmp 27) (.const (.int .i64 1)) t27 (.int .i64 1)) h18 o7) h18 fun t28 h19 =>
mg t24 true (fun o8 => bareK (ixS 2 t26 t28) h19 o8) h19 fun t29 h20 =>
mg t24 true (fun o9 => bareK (fad 0 t29) h20 o9) h20 fun t30 h21 =>
mg t24 true (fun o10 => bareK (ld1 h21 t30) h21 o10) h21 fun t31 h22 =>
mg t24 true (fun o11 => bareK (fad 0 (get tT_1 5)) h22 o11) h22 fun t32 h23 =>
mg t24 true (fun o12 => bareK (ld1 h23 t32) h23 o12) h23 fun t33 h24 =>
mg t24 true (fun o13 => enterK C F.keys_Compare [t31, t33] h24 o13) h24 fun t34 h25 =>
mg t24 true (fun o14 => bareK (xbin P .geq T.int (.tmp 34) (.const (.int .i64 0)) t34 (.int .i64 0)) h25 o14) h25 fun t35 h26 =>
pickK t24 t35 (.bool false) fun t36 =>
checkK true <|
mc t36 (fun k15 => k15 .ret [(2, (.pointer none)), (3, (.int .i64 13))] h26) (fun k15 =>
k15 .normal [(0, (get tT_1 0)), (7, (get tT_1 7)), (8, (get tT_1 8)), (9, (get tT_1 9))] h26) (blkK [0, 7, 8, 9] 1 k3)) (blkK [0, 7, 8, 9] 1 k3))) (seqK (fun tT_2 h27 =>
bareK (xbin P .add T.int (.tmp 9) (.const (.int .i64 1)) (get tT_2 9) (.int .i64 1)) h27 fun t37 h28 =>
k .normal [(0, (get tT_2 0)), (7, (get tT_2 7)), (8, (get tT_2 8)), (9, t37)] h28) (afterK [0, 7, 8, 9] k))) (afterK [0, 7, 8, 9] k))

theorem s_model_Of_eq (M : CombL) (C : CallF) (LP : LoopH) (a0 : Value) (H : AHeap) : dBodyL M Tryd.prog hints C LP F.model_Of [a0] H = s_model_Of M.b.g M.c M.s Tryd.prog C (fun v0 v7 v8 v9 H k => loopL M Tryd.prog hints C LP F.model_Of 0 [(0, v0), (7, v7), (8, v8), (9, v9)] H k) a0 H (endK Tryd.prog [.tmp 2, .tmp 3]) := by kernel_rfl

theorem s_model_Of_b0_eq (M : CombL) (C : CallF) (LP : LoopH) (v0 : Value) (v7 : Value) (v8 : Value) (v9 : Value) (H : AHeap) (k : K) : bodyL M Tryd.prog hints C LP F.model_Of 0 [(0, v0), (7, v7), (8, v8), (9, v9)] H (afterK [0, 7, 8, 9] k) = s_model_Of_b0 M.b.g M.c M.s Tryd.prog C (fun v0 v7 v8 v9 H k => loopL M Tryd.prog hints C LP F.model_Of 0 [(0, v0), (7, v7), (8, v8), (9, v9)] H k) v0 v7 v8 v9 H k := by kernel_rfl

/-! ticketline.pages.All -/

noncomputable def s_pages_All (mg : GT) (mc : CT) (ms : ST) (P : Program) (C : CallF) (L0 : Value → Value → Value → Value → Value → AHeap → K → Res) (a0 : Value) (a1 : Value) (a2 : Value) (a3 : Value) (H : AHeap) (K0 : K) : Res :=
enterK C F.pages_First [a0, a1, a2, a3] H fun t19 h1 =>
bareK (xextract t19 0) h1 fun t20 h2 =>
bareK (xextract t19 1) h2 fun t21 h3 =>
bareK (xextract t19 2) h3 fun t22 h4 =>
bareK (xbin P .neq T.api_Errno (.tmp 23) (.const (.int .i64 0)) t22 (.int .i64 0)) h4 fun t24 h5 =>
mc t24 (fun k1 => k1 .ret [(8, (.slice none 0 0)), (9, t22)] h5) (fun k1 =>
k1 .normal [(0, a0), (3, a3), (10, t20), (11, t21)] h5) (seqK (fun tT h6 =>
ms (fun k2 =>
L0 (get tT 0) (get tT 3) (get tT 10) (get tT 11) (.slice none 0 0) h6 (blkK [13] 0 k2)) (seqK (fun tT_1 h7 =>
K0 .ret [(8, (get tT_1 13)), (9, (.int .i64 0))] h7) K0)) K0)

noncomputable def s_pages_All_b0 (mg : GT) (mc : CT) (ms : ST) (P : Program) (C : CallF) (L0 : Value → Value → Value → Value → Value → AHeap → K → Res) (v0 : Value) (v3 : Value) (v10 : Value) (v11 : Value) (v13 : Value) (H : AHeap) (k : K) : Res :=
bareK (lenS v10) H fun t27 h7 =>
bareK (xbin P .gtr T.int (.tmp 27) (.const (.int .i64 0)) t27 (.int .i64 0)) h7 fun t28 h8 =>
mc t28 (fun k3 => k3 .normal [(0, v0), (3, v3), (10, v10), (11, v11), (13, v13)] h8) (fun k3 =>
k3 (.exit 0) [(28, t28), (27, t27), (26, v10), (0, v0), (3, v3), (10, v10), (11, v11), (13, v13)] h8) (seqK (fun tT h9 =>
ms (fun k4 =>
bothK (bldL T.sl_api_Pair [(.slice none 0 0)] 1 [(0, (get tT 10))] h9) fun t31 h10 =>
bothK (app T.sl_api_Pair 1 24 (get tT 13) (srcS 1 t31 h10) h10) fun t32 h11 =>
bareK (xbin P .eql T.string (.tmp 33) (.const (.string (mk []))) (get tT 11) (.string (mk []))) h11 fun t34 h12 =>
mc t34 (fun k5 => k5 (.exit 0) ((34, t34) :: (33, (get tT 11)) :: (13, t32) :: (32, t32) :: (31, t31) :: (30, (get tT 10)) :: (29, (get tT 13)) :: tT) h12) (fun k5 =>
k5 .normal [(0, (get tT 0)), (3, (get tT 3)), (11, (get tT 11)), (13, t32)] h12) (seqK (fun tT_1 h13 =>
enterK C F.pages_Next [(get tT_1 0), (get tT_1 11), (get tT_1 3)] h13 fun t39 h14 =>
bareK (xextract t39 0) h14 fun t40 h15 =>
bareK (xextract t39 1) h15 fun t41 h16 =>
bareK (xextract t39 2) h16 fun t42 h17 =>
bareK (xbin P .neq T.api_Errno (.tmp 43) (.const (.int .i64 0)) t42 (.int .i64 0)) h17 fun t44 h18 =>
mc t44 (fun k6 => k6 .ret [(8, (.slice none 0 0)), (9, t42)] h18) (fun k6 =>
k6 .normal [(0, (get tT_1 0)), (3, (get tT_1 3)), (10, t40), (11, t41), (13, (get tT_1 13))] h18) (blkK [0, 3, 10, 11, 13] 1 k4)) (blkK [0, 3, 10, 11, 13] 1 k4))) (afterK [0, 3, 10, 11, 13] k)) (afterK [0, 3, 10, 11, 13] k))

theorem s_pages_All_eq (M : CombL) (C : CallF) (LP : LoopH) (a0 : Value) (a1 : Value) (a2 : Value) (a3 : Value) (H : AHeap) : dBodyL M Tryd.prog hints C LP F.pages_All [a0, a1, a2, a3] H = s_pages_All M.b.g M.c M.s Tryd.prog C (fun v0 v3 v10 v11 v13 H k => loopL M Tryd.prog hints C LP F.pages_All 0 [(0, v0), (3, v3), (10, v10), (11, v11), (13, v13)] H k) a0 a1 a2 a3 H (endK Tryd.prog [.tmp 8, .tmp 9]) := by kernel_rfl

theorem s_pages_All_b0_eq (M : CombL) (C : CallF) (LP : LoopH) (v0 : Value) (v3 : Value) (v10 : Value) (v11 : Value) (v13 : Value) (H : AHeap) (k : K) : bodyL M Tryd.prog hints C LP F.pages_All 0 [(0, v0), (3, v3), (10, v10), (11, v11), (13, v13)] H (afterK [0, 3, 10, 11, 13] k) = s_pages_All_b0 M.b.g M.c M.s Tryd.prog C (fun v0 v3 v10 v11 v13 H k => loopL M Tryd.prog hints C LP F.pages_All 0 [(0, v0), (3, v3), (10, v10), (11, v11), (13, v13)] H k) v0 v3 v10 v11 v13 H k := by kernel_rfl

/-! (*ticketline.model.Model).Pairs -/

noncomputable def s_model_Model_Pairs (mg : GT) (mc : CT) (ms : ST) (P : Program) (C : CallF) (a0 : Value) (H : AHeap) (K0 : K) : Res :=
bareK (xbin P .eql T.p_model_Model (.tmp 3) (.const (.pointer none)) a0 (.pointer none)) H fun t4 h1 =>
mc t4 (fun k1 => k1 .ret [(2, (.slice none 0 0))] h1) (fun k1 =>
k1 .normal [(0, a0)] h1) (seqK (fun tT h2 =>
bareK (xnilCheck (get tT 0)) h2 fun t6 h3 =>
bareK (fad 0 t6) h3 fun t7 h4 =>
bareK (ld1 h4 t7) h4 fun t8 h5 =>
enterK C F.slices_Clone_Pair [t8] h5 fun t9 h6 =>
K0 .ret [(2, t9)] h6) K0)

theorem s_model_Model_Pairs_eq (M : CombL) (C : CallF) (LP : LoopH) (a0 : Value) (H : AHeap) : dBodyL M Tryd.prog hints C LP F.model_Model_Pairs [a0] H = s_model_Model_Pairs M.b.g M.c M.s Tryd.prog C a0 H (endK Tryd.prog [.tmp 2]) := by kernel_rfl

/-! ticketline.ticketlinelaw44.hexed -/

noncomputable def s_law_hexed (mg : GT) (mc : CT) (ms : ST) (P : Program) (C : CallF) (L0 : Value → Value → Value → AHeap → K → Res) (L1 : Value → Value → Value → Value → Value → Value → AHeap → K → Res) (a0 : Value) (H : AHeap) (K0 : K) : Res :=
ms (fun k1 =>
L0 a0 (.slice none 0 0) (.int .i64 0) H (blkK [3] 0 k1)) (seqK (fun tT h1 =>
bothK (xconv P T.sl_uint8 T.string (get tT 3) h1) fun t42 h2 =>
K0 .ret [(2, t42)] h2) K0)

noncomputable def s_law_hexed_b0 (mg : GT) (mc : CT) (ms : ST) (P : Program) (C : CallF) (L0 : Value → Value → Value → AHeap → K → Res) (L1 : Value → Value → Value → Value → Value → Value → AHeap → K → Res) (v0 : Value) (v3 : Value) (v4 : Value) (H : AHeap) (k : K) : Res :=
bareK (lenT v0) H fun t9 h1 =>
bareK (xbin P .lss T.int (.tmp 7) (.tmp 9) v4 t9) h1 fun t10 h2 =>
mc t10 (fun k2 => k2 .normal [(0, v0), (3, v3), (4, v4)] h2) (fun k2 =>
k2 (.exit 0) [(10, t10), (9, t9), (8, v0), (7, v4), (0, v0), (3, v3), (4, v4)] h2) (seqK (fun tT h3 =>
ms (fun k3 =>
bareK (xindex P T.string (get tT 0) (get tT 4)) h3 fun t15 h4 =>
bareK (xbin P .quo T.uint8 (.tmp 15) (.const (.int .u8 16)) t15 (.int .u8 16)) h4 fun t16 h5 =>
bareK (xindex P T.string (get tT 0) (get tT 4)) h5 fun t19 h6 =>
bareK (xbin P .rem T.uint8 (.tmp 19) (.const (.int .u8 16)) t19 (.int .u8 16)) h6 fun t20 h7 =>
bothK (bldL T.uint8 [(.int .u8 0)] 2 [(0, t16), (1, t20)] h7) fun t21 h8 =>
bareK (lenS t21) h8 fun t22 h9 =>
checkK true <|
ms (fun k4 =>
L1 (get tT 0) (get tT 3) (get tT 4) t21 t22 (.int .i64 0) h9 (blkK [0, 3, 4] 2 k4)) (blkK [0, 3, 4] 1 k3)) (seqK (fun tT_1 h10 =>
bareK (xbin P .add T.int (.tmp 11) (.const (.int .i64 1)) (get tT_1 4) (.int .i64 1)) h10 fun t12 h11 =>
k .normal [(0, (get tT_1 0)), (3, (get tT_1 3)), (4, t12)] h11) (afterK [0, 3, 4] k))) (afterK [0, 3, 4] k))

noncomputable def s_law_hexed_b1 (mg : GT) (mc : CT) (ms : ST) (P : Program) (C : CallF) (L0 : Value → Value → Value → AHeap → K → Res) (L1 : Value → Value → Value → Value → Value → Value → AHeap → K → Res) (v0 : Value) (v3 : Value) (v4 : Value) (v21 : Value) (v22 : Value) (v23 : Value) (H : AHeap) (k : K) : Res :=
bareK (xbin P .lss T.int (.tmp 23) (.tmp 22) v23 v22) H fun t24 h10 =>
mc t24 (fun k5 => k5 .normal [(0, v0), (3, v3), (4, v4), (21, v21), (22, v22), (23, v23)] h10) (fun k5 =>
k5 (.exit 2) [(24, t24), (0, v0), (3, v3), (4, v4), (21, v21), (22, v22), (23, v23)] h10) (seqK (fun tT h11 =>
ms (fun k6 =>
bareK (ixS 1 (get tT 21) (get tT 23)) h11 fun t25 h12 =>
bareK (ld1 h12 t25) h12 fun t26 h13 =>
bareK (xbin P .lss T.uint8 (.tmp 27) (.const (.int .u8 10)) t26 (.int .u8 10)) h13 fun t28 h14 =>
mc t28 (fun k7 => bareK (xbin P .add T.uint8 (.const (.int .u8 48)) (.tmp 30) (.int .u8 48) t26) h14 fun t31 h15 =>
bothK (bldL T.uint8 [(.int .u8 0)] 1 [(0, t31)] h15) fun t32 h16 =>
bothK (app T.uint8 1 1 (get tT 3) (srcS 1 t32 h16) h16) fun t33 h17 =>
k7 .normal [(0, (get tT 0)), (3, t33), (4, (get tT 4)), (21, (get tT 21)), (22, (get tT 22)), (23, (get tT 23))] h17) (fun k7 =>
bareK (xbin P .add T.uint8 (.const (.int .u8 97)) (.tmp 35) (.int .u8 97) t26) h14 fun t36 h18 =>
bareK (xbin P .sub T.uint8 (.tmp 36) (.const (.int .u8 10)) t36 (.int .u8 10)) h18 fun t37 h19 =>
bothK (bldL T.uint8 [(.int .u8 0)] 1 [(0, t37)] h19) fun t38 h20 =>
bothK (app T.uint8 1 1 (get tT 3) (srcS 1 t38 h20) h20) fun t39 h21 =>
k7 .normal [(0, (get tT 0)), (3, t39), (4, (get tT 4)), (21, (get tT 21)), (22, (get tT 22)), (23, (get tT 23))] h21) (blkK [0, 3, 4, 21, 22, 23] 3 k6)) (seqK (fun tT_1 h22 =>
bareK (xbin P .add T.int (.tmp 23) (.const (.int .i64 1)) (get tT_1 23) (.int .i64 1)) h22 fun t40 h23 =>
k .normal [(0, (get tT_1 0)), (3, (get tT_1 3)), (4, (get tT_1 4)), (21, (get tT_1 21)), (22, (get tT_1 22)), (23, t40)] h23) (afterK [0, 3, 4, 21, 22, 23] k))) (afterK [0, 3, 4, 21, 22, 23] k))

theorem s_law_hexed_eq (M : CombL) (C : CallF) (LP : LoopH) (a0 : Value) (H : AHeap) : dBodyL M Tryd.prog hints C LP F.law_hexed [a0] H = s_law_hexed M.b.g M.c M.s Tryd.prog C (fun v0 v3 v4 H k => loopL M Tryd.prog hints C LP F.law_hexed 0 [(0, v0), (3, v3), (4, v4)] H k) (fun v0 v3 v4 v21 v22 v23 H k => loopL M Tryd.prog hints C LP F.law_hexed 1 [(0, v0), (3, v3), (4, v4), (21, v21), (22, v22), (23, v23)] H k) a0 H (endK Tryd.prog [.tmp 2]) := by kernel_rfl

theorem s_law_hexed_b0_eq (M : CombL) (C : CallF) (LP : LoopH) (v0 : Value) (v3 : Value) (v4 : Value) (H : AHeap) (k : K) : bodyL M Tryd.prog hints C LP F.law_hexed 0 [(0, v0), (3, v3), (4, v4)] H (afterK [0, 3, 4] k) = s_law_hexed_b0 M.b.g M.c M.s Tryd.prog C (fun v0 v3 v4 H k => loopL M Tryd.prog hints C LP F.law_hexed 0 [(0, v0), (3, v3), (4, v4)] H k) (fun v0 v3 v4 v21 v22 v23 H k => loopL M Tryd.prog hints C LP F.law_hexed 1 [(0, v0), (3, v3), (4, v4), (21, v21), (22, v22), (23, v23)] H k) v0 v3 v4 H k := by kernel_rfl

theorem s_law_hexed_b1_eq (M : CombL) (C : CallF) (LP : LoopH) (v0 : Value) (v3 : Value) (v4 : Value) (v21 : Value) (v22 : Value) (v23 : Value) (H : AHeap) (k : K) : bodyL M Tryd.prog hints C LP F.law_hexed 1 [(0, v0), (3, v3), (4, v4), (21, v21), (22, v22), (23, v23)] H (afterK [0, 3, 4, 21, 22, 23] k) = s_law_hexed_b1 M.b.g M.c M.s Tryd.prog C (fun v0 v3 v4 H k => loopL M Tryd.prog hints C LP F.law_hexed 0 [(0, v0), (3, v3), (4, v4)] H k) (fun v0 v3 v4 v21 v22 v23 H k => loopL M Tryd.prog hints C LP F.law_hexed 1 [(0, v0), (3, v3), (4, v4), (21, v21), (22, v22), (23, v23)] H k) v0 v3 v4 v21 v22 v23 H k := by kernel_rfl

/-! ticketline.ticketlinelaw44.digit -/

noncomputable def s_law_digit (mg : GT) (mc : CT) (ms : ST) (P : Program) (C : CallF) (a0 : Value) (H : AHeap) (K0 : K) : Res :=
ms (fun k1 =>
bareK (xbin P .geq T.uint8 (.tmp 4) (.const (.int .u8 48)) a0 (.int .u8 48)) H fun t5 h1 =>
mg t5 true (fun o2 => o2 a0 h1) h1 fun t7 h2 =>
mg t5 true (fun o3 => bareK (xbin P .leq T.uint8 (.tmp 7) (.const (.int .u8 57)) t7 (.int .u8 57)) h2 o3) h2 fun t8 h3 =>
pickK t5 t8 (.bool false) fun t9 =>
mc t9 (fun k4 => bareK (xbin P .sub T.uint8 (.tmp 10) (.const (.int .u8 48)) a0 (.int .u8 48)) h3 fun t11 h4 =>
bothK (xconv P T.uint8 T.int t11 h4) fun t12 h5 =>
k4 .ret [(2, t12)] h5) (fun k4 =>
bareK (xbin P .geq T.uint8 (.tmp 14) (.const (.int .u8 97)) a0 (.int .u8 97)) h3 fun t15 h6 =>
mg t15 true (fun o5 => o5 a0 h6) h6 fun t17 h7 =>
mg t15 true (fun o6 => bareK (xbin P .leq T.uint8 (.tmp 17) (.const (.int .u8 102)) t17 (.int .u8 102)) h7 o6) h7 fun t18 h8 =>
pickK t15 t18 (.bool false) fun t19 =>
mc t19 (fun k7 => bareK (xbin P .sub T.uint8 (.tmp 20) (.const (.int .u8 97)) a0 (.int .u8 97)) h8 fun t21 h9 =>
bothK (xconv P T.uint8 T.int t21 h9) fun t22 h10 =>
bareK (xbin P .add T.int (.tmp 22) (.const (.int .i64 10)) t22 (.int .i64 10)) h10 fun t23 h11 =>
k7 .ret [(2, t23)] h11) (fun k7 =>
k7 .normal [] h8) (afterK [] k4)) (blkK [] 0 k1)) (seqK (fun tT h12 =>
K0 .ret [(2, (.int .i64 (-1)))] h12) K0)

theorem s_law_digit_eq (M : CombL) (C : CallF) (LP : LoopH) (a0 : Value) (H : AHeap) : dBodyL M Tryd.prog hints C LP F.law_digit [a0] H = s_law_digit M.b.g M.c M.s Tryd.prog C a0 H (endK Tryd.prog [.tmp 2]) := by kernel_rfl

/-! ticketline.pages.Read -/

noncomputable def s_pages_Read (mg : GT) (mc : CT) (ms : ST) (P : Program) (C : CallF) (a0 : Value) (H : AHeap) (K0 : K) : Res :=
enterK C F.strings_Split [a0, (.string (mk [46]))] H fun t7 h1 =>
bareK (lenS t7) h1 fun t9 h2 =>
bareK (xbin P .neq T.int (.tmp 9) (.const (.int .i64 3)) t9 (.int .i64 3)) h2 fun t10 h3 =>
mc t10 (fun k1 => k1 .ret [(2, (.string (mk []))), (3, (.string (mk []))), (4, (.int .i64 6))] h3) (fun k1 =>
k1 .normal [(0, a0), (5, t7)] h3) (seqK (fun tT h4 =>
bareK (ixS 1 (get tT 5) (.int .i64 0)) h4 fun t12 h5 =>
bareK (ld1 h5 t12) h5 fun t13 h6 =>
enterK C F.pages_bytes [t13] h6 fun t14 h7 =>
bareK (ixS 1 (get tT 5) (.int .i64 1)) h7 fun t16 h8 =>
bareK (ld1 h8 t16) h8 fun t17 h9 =>
enterK C F.pages_bytes [t17] h9 fun t18 h10 =>
checkK (okV (some true) none h6 h7 h7 h7 && (okV (some true) none h6 h7 h7 h8 && (okV (some true) (blockOf t16) h6 h7 h8 h9 && true))) <|
enterK C F.keys_ValidKey [t18] h10 fun t20 h11 =>
bareK (xun P .not t20) h11 fun t21 h12 =>
mg t21 false (fun o2 => o2 t14 h12) h12 fun t23 h13 =>
mg t21 false (fun o3 => bareK (lenT t23) h13 o3) h13 fun t24 h14 =>
mg t21 false (fun o4 => bareK (xbin P .gtr T.int (.tmp 24) (.const (.int .i64 24)) t24 (.int .i64 24)) h14 o4) h14 fun t25 h15 =>
pickK t21 (.bool true) t25 fun t26 =>
mg t26 false (fun o5 => o5 t14 h15) h15 fun t28 h16 =>
mg t26 false (fun o6 => bareK (xbin P .neq T.string (.tmp 28) (.const (.string (mk []))) t28 (.string (mk []))) h16 o6) h16 fun t29 h17 =>
mg t26 false (fun o7 => o7 t29 h17) h17 fun t30 h18 =>
mg t30 true (fun o8 => o8 t14 h18) h18 fun t31 h19 =>
mg t30 true (fun o9 => o9 t18 h19) h19 fun t32 h20 =>
mg t30 true (fun o10 => bareK (xbin P .leq T.string (.tmp 31) (.tmp 32) t31 t32) h20 o10) h20 fun t33 h21 =>
mg t26 false (fun o11 => pickK t30 t33 (.bool false) fun v => o11 v h21) h21 fun t34 h22 =>
pickK t26 (.bool true) t34 fun t35 =>
mg t35 false (fun o12 => o12 t14 h22) h22 fun t37 h23 =>
mg t35 false (fun o13 => o13 t18 h23) h23 fun t38 h24 =>
mg t35 false (fun o14 => enterK C F.pages_marked [t37, t38] h24 o14) h24 fun t39 h25 =>
mg t35 false (fun o15 => o15 (get tT 0) h25) h25 fun t40 h26 =>
mg t35 false (fun o16 => bareK (xbin P .neq T.string (.tmp 39) (.tmp 40) t39 t40) h26 o16) h26 fun t41 h27 =>
pickK t35 (.bool true) t41 fun t42 =>
mc t42 (fun k17 => k17 .ret [(2, (.string (mk []))), (3, (.string (mk []))), (4, (.int .i64 6))] h27) (fun k17 =>
k17 .normal [(2, t14), (3, t18)] h27) (seqK (fun tT_1 h28 =>
K0 .ret [(2, (get tT_1 2)), (3, (get tT_1 3)), (4, (.int .i64 0))] h28) K0)) K0)

theorem s_pages_Read_eq (M : CombL) (C : CallF) (LP : LoopH) (a0 : Value) (H : AHeap) : dBodyL M Tryd.prog hints C LP F.pages_Read [a0] H = s_pages_Read M.b.g M.c M.s Tryd.prog C a0 H (endK Tryd.prog [.tmp 2, .tmp 3, .tmp 4]) := by kernel_rfl

/-! ticketline.pages.allowed -/

noncomputable def s_pages_allowed (mg : GT) (mc : CT) (ms : ST) (P : Program) (C : CallF) (a0 : Value) (a1 : Value) (H : AHeap) (K0 : K) : Res :=
ms (fun k1 =>
bareK (xbin P .eql T.p_model_Model (.tmp 6) (.const (.pointer none)) a0 (.pointer none)) H fun t7 h1 =>
mc t7 (fun k2 => k2 .ret [(4, (.int .i64 1))] h1) (fun k2 =>
bareK (xbin P .lss T.int (.tmp 9) (.const (.int .i64 1)) a1 (.int .i64 1)) h1 fun t10 h2 =>
mg t10 false (fun o3 => o3 a1 h2) h2 fun t12 h3 =>
mg t10 false (fun o4 => bareK (xbin P .gtr T.int (.tmp 12) (.const (.int .i64 32)) t12 (.int .i64 32)) h3 o4) h3 fun t13 h4 =>
pickK t10 (.bool true) t13 fun t14 =>
mc t14 (fun k5 => k5 .ret [(4, (.int .i64 2))] h4) (fun k5 =>
k5 .normal [] h4) (afterK [] k2)) (blkK [] 0 k1)) (seqK (fun tT h5 =>
K0 .ret [(4, (.int .i64 0))] h5) K0)

theorem s_pages_allowed_eq (M : CombL) (C : CallF) (LP : LoopH) (a0 : Value) (a1 : Value) (H : AHeap) : dBodyL M Tryd.prog hints C LP F.pages_allowed [a0, a1] H = s_pages_allowed M.b.g M.c M.s Tryd.prog C a0 a1 H (endK Tryd.prog [.tmp 4]) := by kernel_rfl

/-! ticketline.pages.page -/

noncomputable def s_pages_page (mg : GT) (mc : CT) (ms : ST) (P : Program) (C : CallF) (L0 : Value → Value → Value → Value → Value → Value → Value → Value → AHeap → K → Res) (a0 : Value) (a1 : Value) (a2 : Value) (a3 : Value) (a4 : Value) (H : AHeap) (K0 : K) : Res :=
enterK C F.model_Model_Pairs [a0] H fun t16 h1 =>
bareK (lenS t16) h1 fun t17 h2 =>
ms (fun k1 =>
L0 a1 a2 a3 a4 (.slice none 0 0) t16 t17 (.int .i64 0) h2 (blkK [12] 0 k1)) (seqK (fun tT h3 =>
K0 .ret [(10, (get tT 12)), (11, (.string (mk [])))] h3) K0)

noncomputable def s_pages_page_b0 (mg : GT) (mc : CT) (ms : ST) (P : Program) (C : CallF) (L0 : Value → Value → Value → Value → Value → Value → Value → Value → AHeap → K → Res) (v1 : Value) (v2 : Value) (v3 : Value) (v4 : Value) (v12 : Value) (v16 : Value) (v17 : Value) (v18 : Value) (H : AHeap) (k : K) : Res :=
bareK (xbin P .lss T.int (.tmp 18) (.tmp 17) v18 v17) H fun t19 h3 =>
mc t19 (fun k2 => k2 .normal [(1, v1), (2, v2), (3, v3), (4, v4), (12, v12), (16, v16), (17, v17), (18, v18)] h3) (fun k2 =>
k2 (.exit 0) [(19, t19), (1, v1), (2, v2), (3, v3), (4, v4), (12, v12), (16, v16), (17, v17), (18, v18)] h3) (seqK (fun tT h4 =>
ms (fun k3 =>
bareK (ixS 2 (get tT 16) (get tT 18)) h4 fun t20 h5 =>
bareK (ldN 2 h5 t20) h5 fun t21 h6 =>
bothK (newv T.api_Pair (.agg #[(.string (mk [])), (.string (mk []))]) h6) fun t14 h7 =>
quietK (stN 2 h7 t14 t21) fun _ h8 =>
bareK (fad 0 t14) h8 fun t22 h9 =>
bareK (ld1 h9 t22) h9 fun t23 h10 =>
bareK (xbin P .lss T.string (.tmp 23) (.tmp 24) t23 (get tT 1)) h10 fun t25 h11 =>
mg t25 false (fun o4 => o4 (get tT 2) h11) h11 fun t27 h12 =>
mg t25 false (fun o5 => o5 t27 h12) h12 fun t28 h13 =>
mg t28 true (fun o6 => bareK (fad 0 t14) h13 o6) h13 fun t29 h14 =>
mg t28 true (fun o7 => bareK (ld1 h14 t29) h14 o7) h14 fun t30 h15 =>
mg t28 true (fun o8 => o8 (get tT 1) h15) h15 fun t31 h16 =>
mg t28 true (fun o9 => bareK (xbin P .eql T.string (.tmp 30) (.tmp 31) t30 t31) h16 o9) h16 fun t32 h17 =>
mg t25 false (fun o10 => pickK t28 t32 (.bool false) fun v => o10 v h17) h17 fun t33 h18 =>
pickK t25 (.bool true) t33 fun t34 =>
mg t34 false (fun o11 => o11 (get tT 3) h18) h18 fun t36 h19 =>
mg t34 false (fun o12 => bareK (xbin P .neq T.string (.tmp 36) (.const (.string (mk []))) t36 (.string (mk []))) h19 o12) h19 fun t37 h20 =>
mg t34 false (fun o13 => o13 t37 h20) h20 fun t38 h21 =>
mg t38 true (fun o14 => bareK (fad 0 t14) h21 o14) h21 fun t39 h22 =>
mg t38 true (fun o15 => bareK (ld1 h22 t39) h22 o15) h22 fun t40 h23 =>
mg t38 true (fun o16 => o16 (get tT 3) h23) h23 fun t41 h24 =>
mg t38 true (fun o17 => bareK (xbin P .geq T.string (.tmp 40) (.tmp 41) t40 t41) h24 o17) h24 fun t42 h25 =>
mg t34 false (fun o18 => pickK t38 t42 (.bool false) fun v => o18 v h25) h25 fun t43 h26 =>
pickK t34 (.bool true) t43 fun t44 =>
mc t44 (fun k19 => k19 (.exit 1) ((44, t44) :: (43, t43) :: (42, t42) :: (41, t41) :: (40, t40) :: (39, t39) :: (38, t38) :: (37, t37) :: (36, t36) :: (35, t34) :: (34, t34) :: (33, t33) :: (32, t32) :: (31, t31) :: (30, t30) :: (29, t29) :: (28, t28) :: (27, t27) :: (26, t25) :: (25, t25) :: (24, (get tT 1)) :: (23, t23) :: (22, t22) :: (14, t14) :: (21, t21) :: (20, t20) :: tT) h26) (fun k19 =>
k19 .normal [(1, (get tT 1)), (2, (get tT 2)), (3, (get tT 3)), (4, (get tT 4)), (12, (get tT 12)), (14, t14), (16, (get tT 16)), (17, (get tT 17)), (18, (get tT 18))] h26) (seqK (fun tT_1 h27 =>
bareK (lenS (get tT_1 12)) h27 fun t46 h28 =>
bareK (xbin P .eql T.int (.tmp 46) (.tmp 47) t46 (get tT_1 4)) h28 fun t48 h29 =>
mc t48 (fun k20 => bareK (xbin P .sub T.int (.tmp 52) (.const (.int .i64 1)) (get tT_1 4) (.int .i64 1)) h29 fun t53 h30 =>
bareK (ixS 2 (get tT_1 12) t53) h30 fun t54 h31 =>
bareK (fad 0 t54) h31 fun t55 h32 =>
bareK (ld1 h32 t55) h32 fun t56 h33 =>
enterK C F.pages_marked [(get tT_1 3), t56] h33 fun t57 h34 =>
k20 .ret [(10, (get tT_1 12)), (11, t57)] h34) (fun k20 =>
k20 .normal [(1, (get tT_1 1)), (2, (get tT_1 2)), (3, (get tT_1 3)), (4, (get tT_1 4)), (12, (get tT_1 12)), (14, (get tT_1 14)), (16, (get tT_1 16)), (17, (get tT_1 17)), (18, (get tT_1 18))] h29) (seqK (fun tT_2 h35 =>
bareK (ldN 2 h35 (get tT_2 14)) h35 fun t59 h36 =>
bothK (bldL T.api_Pair [(.string (mk [])), (.string (mk []))] 1 [(0, t59)] h36) fun t60 h37 =>
bothK (app T.api_Pair 2 32 (get tT_2 12) (srcS 2 t60 h37) h37) fun t61 h38 =>
k3 .normal [(1, (get tT_2 1)), (2, (get tT_2 2)), (3, (get tT_2 3)), (4, (get tT_2 4)), (12, t61), (16, (get tT_2 16)), (17, (get tT_2 17)), (18, (get tT_2 18))] h38) (blkK [1, 2, 3, 4, 12, 16, 17, 18] 1 k3))) (blkK [1, 2, 3, 4, 12, 16, 17, 18] 1 k3))) (seqK (fun tT_3 h39 =>
bareK (xbin P .add T.int (.tmp 18) (.const (.int .i64 1)) (get tT_3 18) (.int .i64 1)) h39 fun t62 h40 =>
k .normal [(1, (get tT_3 1)), (2, (get tT_3 2)), (3, (get tT_3 3)), (4, (get tT_3 4)), (12, (get tT_3 12)), (16, (get tT_3 16)), (17, (get tT_3 17)), (18, t62)] h40) (afterK [1, 2, 3, 4, 12, 16, 17, 18] k))) (afterK [1, 2, 3, 4, 12, 16, 17, 18] k))

theorem s_pages_page_eq (M : CombL) (C : CallF) (LP : LoopH) (a0 : Value) (a1 : Value) (a2 : Value) (a3 : Value) (a4 : Value) (H : AHeap) : dBodyL M Tryd.prog hints C LP F.pages_page [a0, a1, a2, a3, a4] H = s_pages_page M.b.g M.c M.s Tryd.prog C (fun v1 v2 v3 v4 v12 v16 v17 v18 H k => loopL M Tryd.prog hints C LP F.pages_page 0 [(1, v1), (2, v2), (3, v3), (4, v4), (12, v12), (16, v16), (17, v17), (18, v18)] H k) a0 a1 a2 a3 a4 H (endK Tryd.prog [.tmp 10, .tmp 11]) := by kernel_rfl

theorem s_pages_page_b0_eq (M : CombL) (C : CallF) (LP : LoopH) (v1 : Value) (v2 : Value) (v3 : Value) (v4 : Value) (v12 : Value) (v16 : Value) (v17 : Value) (v18 : Value) (H : AHeap) (k : K) : bodyL M Tryd.prog hints C LP F.pages_page 0 [(1, v1), (2, v2), (3, v3), (4, v4), (12, v12), (16, v16), (17, v17), (18, v18)] H (afterK [1, 2, 3, 4, 12, 16, 17, 18] k) = s_pages_page_b0 M.b.g M.c M.s Tryd.prog C (fun v1 v2 v3 v4 v12 v16 v17 v18 H k => loopL M Tryd.prog hints C LP F.pages_page 0 [(1, v1), (2, v2), (3, v3), (4, v4), (12, v12), (16, v16), (17, v17), (18, v18)] H k) v1 v2 v3 v4 v12 v16 v17 v18 H k := by kernel_rfl

/-! (*ticketline.model.Model).Get -/

noncomputable def s_model_Model_Get (mg : GT) (mc : CT) (ms : ST) (P : Program) (C : CallF) (a0 : Value) (a1 : Value) (H : AHeap) (K0 : K) : Res :=
enterK C F.model_Model_at [a0, a1, (.slice none 0 0)] H fun t12 h1 =>
bareK (xextract t12 0) h1 fun t13 h2 =>
bareK (xextract t12 1) h2 fun t14 h3 =>
bareK (xextract t12 2) h3 fun t15 h4 =>
ms (fun k1 =>
bareK (xbin P .neq T.api_Errno (.tmp 17) (.const (.int .i64 0)) t15 (.int .i64 0)) h4 fun t18 h5 =>
mc t18 (fun k2 => k2 .ret [(4, (.string (mk []))), (5, t15)] h5) (fun k2 =>
bareK (xun P .not t14) h5 fun t22 h6 =>
mc t22 (fun k3 => k3 .ret [(4, (.string (mk []))), (5, (.int .i64 9))] h6) (fun k3 =>
k3 .normal [(0, a0), (6, t13)] h6) (afterK [0, 6] k2)) (blkK [0, 6] 0 k1)) (seqK (fun tT h7 =>
bareK (xnilCheck (get tT 0)) h7 fun t24 h8 =>
bareK (fad 0 t24) h8 fun t25 h9 =>
bareK (ld1 h9 t25) h9 fun t26 h10 =>
bareK (ixS 2 t26 (get tT 6)) h10 fun t28 h11 =>
bareK (fad 1 t28) h11 fun t29 h12 =>
bareK (ld1 h12 t29) h12 fun t30 h13 =>
K0 .ret [(4, t30), (5, (.int .i64 0))] h13) K0)

theorem s_model_Model_Get_eq (M : CombL) (C : CallF) (LP : LoopH) (a0 : Value) (a1 : Value) (H : AHeap) : dBodyL M Tryd.prog hints C LP F.model_Model_Get [a0, a1] H = s_model_Model_Get M.b.g M.c M.s Tryd.prog C a0 a1 H (endK Tryd.prog [.tmp 4, .tmp 5]) := by kernel_rfl

/-! (*ticketline.model.Model).place -/

noncomputable def s_model_Model_place (mg : GT) (mc : CT) (ms : ST) (P : Program) (C : CallF) (a0 : Value) (a1 : Value) (H : AHeap) (K0 : K) : Res :=
bareK (xnilCheck a0) H fun t7 h1 =>
bareK (fad 0 t7) h1 fun t8 h2 =>
bareK (ld1 h2 t8) h2 fun t9 h3 =>
enterK C F.slices_BinarySearchFunc_string [t9, a1, (.func (.func F.model_Model_place_1) #[] #[])] h3 fun t11 h4 =>
bareK (xextract t11 0) h4 fun t12 h5 =>
bareK (xextract t11 1) h5 fun t13 h6 =>
K0 .ret [(4, t12), (5, t13)] h6

theorem s_model_Model_place_eq (M : CombL) (C : CallF) (LP : LoopH) (a0 : Value) (a1 : Value) (H : AHeap) : dBodyL M Tryd.prog hints C LP F.model_Model_place [a0, a1] H = s_model_Model_place M.b.g M.c M.s Tryd.prog C a0 a1 H (endK Tryd.prog [.tmp 4, .tmp 5]) := by kernel_rfl

/-! slices.Delete[[]ticketline.api.Pair,ticketline.api.Pair] -/

noncomputable def s_slices_Delete_Pair (mg : GT) (mc : CT) (ms : ST) (P : Program) (C : CallF) (a0 : Value) (a1 : Value) (a2 : Value) (H : AHeap) (K0 : K) : Res :=
bareK (lenS a0) H fun t12 h1 =>
bareK (slS T.api_Pair 2 a0 (some a1) (some a2) (some t12) h1) h1 fun t13 h2 =>
bareK (xbin P .eql T.int (.tmp 14) (.tmp 15) a1 a2) h2 fun t16 h3 =>
mc t16 (fun k1 => k1 .ret [(6, a0)] h3) (fun k1 =>
k1 .normal [(0, a0), (1, a1), (2, a2)] h3) (seqK (fun tT h4 =>
bareK (lenS (get tT 0)) h4 fun t19 h5 =>
bareK (slS T.api_Pair 2 (get tT 0) none (some (get tT 1)) none h5) h5 fun t22 h6 =>
bareK (slS T.api_Pair 2 (get tT 0) (some (get tT 2)) none none h6) h6 fun t25 h7 =>
bothK (app T.api_Pair 2 32 t22 (srcS 2 t25 h7) h7) fun t26 h8 =>
checkK true <|
bareK (lenS t26) h8 fun t29 h9 =>
bareK (slS T.api_Pair 2 t26 (some t29) (some t19) none h9) h9 fun t31 h10 =>
bothK (xclear P [T.sl_api_Pair] t31 h10) fun _ h11 =>
K0 .ret [(6, t26)] h11) K0)

theorem s_slices_Delete_Pair_eq (M : CombL) (C : CallF) (LP : LoopH) (a0 : Value) (a1 : Value) (a2 : Value) (H : AHeap) : dBodyL M Tryd.prog hints C LP F.slices_Delete_Pair [a0, a1, a2] H = s_slices_Delete_Pair M.b.g M.c M.s Tryd.prog C a0 a1 a2 H (endK Tryd.prog [.tmp 6]) := by kernel_rfl

/-! (*ticketline.model.Model).at -/

noncomputable def s_model_Model_at (mg : GT) (mc : CT) (ms : ST) (P : Program) (C : CallF) (a0 : Value) (a1 : Value) (a2 : Value) (H : AHeap) (K0 : K) : Res :=
bareK (xbin P .eql T.p_model_Model (.tmp 13) (.const (.pointer none)) a0 (.pointer none)) H fun t14 h1 =>
mc t14 (fun k1 => k1 .ret [(6, (.int .i64 0)), (7, (.bool false)), (8, (.int .i64 1))] h1) (fun k1 =>
k1 .normal [(0, a0), (1, a1), (2, a2)] h1) (seqK (fun tT h2 =>
enterK C F.model_check [(get tT 1), (get tT 2)] h2 fun t17 h3 =>
bareK (xbin P .neq T.api_Errno (.tmp 18) (.const (.int .i64 0)) t17 (.int .i64 0)) h3 fun t19 h4 =>
mc t19 (fun k2 => k2 .ret [(6, (.int .i64 0)), (7, (.bool false)), (8, t17)] h4) (fun k2 =>
k2 .normal [(0, (get tT 0)), (1, (get tT 1))] h4) (seqK (fun tT_1 h5 =>
callK P C (.func (.func F.model_Model_place) #[(get tT_1 0)] #[]) [(get tT_1 1)] h5 fun t26 h6 =>
bareK (xextract t26 0) h6 fun t27 h7 =>
bareK (xextract t26 1) h7 fun t28 h8 =>
K0 .ret [(6, t27), (7, t28), (8, (.int .i64 0))] h8) K0)) K0)

theorem s_model_Model_at_eq (M : CombL) (C : CallF) (LP : LoopH) (a0 : Value) (a1 : Value) (a2 : Value) (H : AHeap) : dBodyL M Tryd.prog hints C LP F.model_Model_at [a0, a1, a2] H = s_model_Model_at M.b.g M.c M.s Tryd.prog C a0 a1 a2 H (endK Tryd.prog [.tmp 6, .tmp 7, .tmp 8]) := by kernel_rfl

/-! (*ticketline.model.Model).set -/

noncomputable def s_model_Model_set (mg : GT) (mc : CT) (ms : ST) (P : Program) (C : CallF) (a0 : Value) (a1 : Value) (a2 : Value) (a3 : Value) (H : AHeap) (K0 : K) : Res :=
bothK (newv T.api_Pair a3 H) fun t7 h1 =>
ms (fun k1 =>
mc a2 (fun k2 => bareK (xnilCheck a0) h1 fun t23 h2 =>
bareK (fad 0 t23) h2 fun t24 h3 =>
bareK (ld1 h3 t24) h3 fun t25 h4 =>
bareK (ldN 2 h4 t7) h4 fun t27 h5 =>
bareK (ixS 2 t25 a1) h5 fun t28 h6 =>
quietK (stN 2 h6 t28 t27) fun _ h7 =>
checkK true <|
k2 .normal [] h7) (fun k2 =>
bareK (xnilCheck a0) h1 fun t31 h8 =>
bareK (fad 0 t31) h8 fun t32 h9 =>
bareK (ld1 h9 t32) h9 fun t33 h10 =>
bareK (lenS t33) h10 fun t34 h11 =>
bareK (xbin P .eql T.int (.tmp 34) (.const (.int .i64 20000)) t34 (.int .i64 20000)) h11 fun t35 h12 =>
mc t35 (fun k3 => k3 .ret [(8, (.int .i64 7))] h12) (fun k3 =>
bareK (xnilCheck a0) h12 fun t11 h13 =>
bareK (fad 0 t11) h13 fun t12 h14 =>
bareK (ld1 h14 t12) h14 fun t13 h15 =>
bareK (ldN 2 h15 t7) h15 fun t15 h16 =>
bothK (bldL T.api_Pair [(.string (mk [])), (.string (mk []))] 1 [(0, t15)] h16) fun t16 h17 =>
enterK C F.slices_Insert_Pair [t13, a1, t16] h17 fun t17 h18 =>
bareK (xnilCheck a0) h18 fun t18 h19 =>
bareK (fad 0 t18) h19 fun t19 h20 =>
quietK (st1 h20 t19 t17) fun _ h21 =>
checkK (okV (some true) none h17 h18 h12 h12 && true) <|
k3 .normal [] h21) (afterK [] k2)) (blkK [] 0 k1)) (seqK (fun tT h22 =>
K0 .ret [(8, (.int .i64 0))] h22) K0)

theorem s_model_Model_set_eq (M : CombL) (C : CallF) (LP : LoopH) (a0 : Value) (a1 : Value) (a2 : Value) (a3 : Value) (H : AHeap) : dBodyL M Tryd.prog hints C LP F.model_Model_set [a0, a1, a2, a3] H = s_model_Model_set M.b.g M.c M.s Tryd.prog C a0 a1 a2 a3 H (endK Tryd.prog [.tmp 8]) := by kernel_rfl

/-! ticketline.model.check -/

noncomputable def s_model_check (mg : GT) (mc : CT) (ms : ST) (P : Program) (C : CallF) (a0 : Value) (a1 : Value) (H : AHeap) (K0 : K) : Res :=
ms (fun k1 =>
bareK (xbin P .eql T.string (.tmp 6) (.const (.string (mk []))) a0 (.string (mk []))) H fun t7 h1 =>
mc t7 (fun k2 => k2 .ret [(4, (.int .i64 2))] h1) (fun k2 =>
bareK (lenT a0) h1 fun t10 h2 =>
bareK (xbin P .gtr T.int (.tmp 10) (.const (.int .i64 24)) t10 (.int .i64 24)) h2 fun t11 h3 =>
mg t11 false (fun o3 => o3 a1 h3) h3 fun t13 h4 =>
mg t11 false (fun o4 => enterK C F.slices_ContainsFunc_string [t13, (.func (.func F.model_check_1) #[] #[])] h4 o4) h4 fun t14 h5 =>
pickK t11 (.bool true) t14 fun t15 =>
mc t15 (fun k5 => k5 .ret [(4, (.int .i64 5))] h5) (fun k5 =>
k5 .normal [] h5) (afterK [] k2)) (blkK [] 0 k1)) (seqK (fun tT h6 =>
K0 .ret [(4, (.int .i64 0))] h6) K0)

theorem s_model_check_eq (M : CombL) (C : CallF) (LP : LoopH) (a0 : Value) (a1 : Value) (H : AHeap) : dBodyL M Tryd.prog hints C LP F.model_check [a0, a1] H = s_model_check M.b.g M.c M.s Tryd.prog C a0 a1 H (endK Tryd.prog [.tmp 4]) := by kernel_rfl

/-! ticketline.keys.Compare -/

noncomputable def s_keys_Compare (mg : GT) (mc : CT) (ms : ST) (P : Program) (C : CallF) (a0 : Value) (a1 : Value) (H : AHeap) (K0 : K) : Res :=
enterK C F.strings_Compare [a0, a1] H fun t7 h1 =>
K0 .ret [(4, t7)] h1

theorem s_keys_Compare_eq (M : CombL) (C : CallF) (LP : LoopH) (a0 : Value) (a1 : Value) (H : AHeap) : dBodyL M Tryd.prog hints C LP F.keys_Compare [a0, a1] H = s_keys_Compare M.b.g M.c M.s Tryd.prog C a0 a1 H (endK Tryd.prog [.tmp 4]) := by kernel_rfl

/-! slices.Clone[[]ticketline.api.Pair,ticketline.api.Pair] -/

noncomputable def s_slices_Clone_Pair (mg : GT) (mc : CT) (ms : ST) (P : Program) (C : CallF) (a0 : Value) (H : AHeap) (K0 : K) : Res :=
bareK (xbin P .eql T.sl_api_Pair (.tmp 3) (.const (.slice none 0 0)) a0 (.slice none 0 0)) H fun t4 h1 =>
mc t4 (fun k1 => k1 .ret [(2, (.slice none 0 0))] h1) (fun k1 =>
k1 .normal [(0, a0)] h1) (seqK (fun tT h2 =>
bothK (bldL T.api_Pair [(.string (mk [])), (.string (mk []))] 0 [] h2) fun t5 h3 =>
bothK (app T.api_Pair 2 32 t5 (srcS 2 (get tT 0) h3) h3) fun t7 h4 =>
K0 .ret [(2, t7)] h4) K0)

theorem s_slices_Clone_Pair_eq (M : CombL) (C : CallF) (LP : LoopH) (a0 : Value) (H : AHeap) : dBodyL M Tryd.prog hints C LP F.slices_Clone_Pair [a0] H = s_slices_Clone_Pair M.b.g M.c M.s Tryd.prog C a0 H (endK Tryd.prog [.tmp 2]) := by kernel_rfl

/-! strings.Split -/

noncomputable def s_strings_Split (mg : GT) (mc : CT) (ms : ST) (P : Program) (C : CallF) (a0 : Value) (a1 : Value) (H : AHeap) (K0 : K) : Res :=
enterK C F.strings_genSplit [a0, a1, (.int .i64 0), (.int .i64 (-1))] H fun t7 h1 =>
K0 .ret [(4, t7)] h1

theorem s_strings_Split_eq (M : CombL) (C : CallF) (LP : LoopH) (a0 : Value) (a1 : Value) (H : AHeap) : dBodyL M Tryd.prog hints C LP F.strings_Split [a0, a1] H = s_strings_Split M.b.g M.c M.s Tryd.prog C a0 a1 H (endK Tryd.prog [.tmp 4]) := by kernel_rfl

/-! ticketline.pages.bytes -/

noncomputable def s_pages_bytes (mg : GT) (mc : CT) (ms : ST) (P : Program) (C : CallF) (L0 : Value → Value → Value → AHeap → K → Res) (a0 : Value) (H : AHeap) (K0 : K) : Res :=
ms (fun k1 =>
L0 a0 (.slice none 0 0) (.int .i64 0) H (blkK [3] 0 k1)) (seqK (fun tT h1 =>
bothK (xconv P T.sl_uint8 T.string (get tT 3) h1) fun t29 h2 =>
K0 .ret [(2, t29)] h2) K0)

noncomputable def s_pages_bytes_b0 (mg : GT) (mc : CT) (ms : ST) (P : Program) (C : CallF) (L0 : Value → Value → Value → AHeap → K → Res) (v0 : Value) (v3 : Value) (v4 : Value) (H : AHeap) (k : K) : Res :=
bareK (xbin P .add T.int (.tmp 7) (.const (.int .i64 1)) v4 (.int .i64 1)) H fun t8 h1 =>
bareK (lenT v0) h1 fun t10 h2 =>
bareK (xbin P .lss T.int (.tmp 8) (.tmp 10) t8 t10) h2 fun t11 h3 =>
mc t11 (fun k2 => k2 .normal [(0, v0), (3, v3), (4, v4)] h3) (fun k2 =>
k2 (.exit 0) [(11, t11), (10, t10), (9, v0), (8, t8), (7, v4), (0, v0), (3, v3), (4, v4)] h3) (seqK (fun tT h4 =>
ms (fun k3 =>
bareK (xbin P .add T.int (.tmp 17) (.const (.int .i64 2)) (get tT 4) (.int .i64 2)) h4 fun t18 h5 =>
bareK (slT (get tT 0) (some (get tT 4)) (some t18)) h5 fun t19 h6 =>
enterK C F.strconv_ParseUint [t19, (.int .i64 16), (.int .i64 8)] h6 fun t20 h7 =>
bareK (xextract t20 0) h7 fun t21 h8 =>
bareK (xextract t20 1) h8 fun t22 h9 =>
bothK (xconv P T.uint64 T.uint8 t21 h9) fun t25 h10 =>
bothK (bldL T.uint8 [(.int .u8 0)] 1 [(0, t25)] h10) fun t26 h11 =>
bothK (app T.uint8 1 1 (get tT 3) (srcS 1 t26 h11) h11) fun t27 h12 =>
k3 .normal [(0, (get tT 0)), (3, t27), (4, (get tT 4))] h12) (seqK (fun tT_1 h13 =>
bareK (xbin P .add T.int (.tmp 12) (.const (.int .i64 2)) (get tT_1 4) (.int .i64 2)) h13 fun t13 h14 =>
k .normal [(0, (get tT_1 0)), (3, (get tT_1 3)), (4, t13)] h14) (afterK [0, 3, 4] k))) (afterK [0, 3, 4] k))

theorem s_pages_bytes_eq (M : CombL) (C : CallF) (LP : LoopH) (a0 : Value) (H : AHeap) : dBodyL M Tryd.prog hints C LP F.pages_bytes [a0] H = s_pages_bytes M.b.g M.c M.s Tryd.prog C (fun v0 v3 v4 H k => loopL M Tryd.prog hints C LP F.pages_bytes 0 [(0, v0), (3, v3), (4, v4)] H k) a0 H (endK Tryd.prog [.tmp 2]) := by kernel_rfl

theorem s_pages_bytes_b0_eq (M : CombL) (C : CallF) (LP : LoopH) (v0 : Value) (v3 : Value) (v4 : Value) (H : AHeap) (k : K) : bodyL M Tryd.prog hints C LP F.pages_bytes 0 [(0, v0), (3, v3), (4, v4)] H (afterK [0, 3, 4] k) = s_pages_bytes_b0 M.b.g M.c M.s Tryd.prog C (fun v0 v3 v4 H k => loopL M Tryd.prog hints C LP F.pages_bytes 0 [(0, v0), (3, v3), (4, v4)] H k) v0 v3 v4 H k := by kernel_rfl

/-! ticketline.keys.ValidKey -/

noncomputable def s_keys_ValidKey (mg : GT) (mc : CT) (ms : ST) (P : Program) (C : CallF) (a0 : Value) (H : AHeap) (K0 : K) : Res :=
bareK (lenT a0) H fun t4 h1 =>
bareK (xbin P .geq T.int (.tmp 4) (.const (.int .i64 1)) t4 (.int .i64 1)) h1 fun t5 h2 =>
mg t5 true (fun o1 => o1 a0 h2) h2 fun t7 h3 =>
mg t5 true (fun o2 => bareK (lenT t7) h3 o2) h3 fun t8 h4 =>
mg t5 true (fun o3 => bareK (xbin P .leq T.int (.tmp 8) (.const (.int .i64 24)) t8 (.int .i64 24)) h4 o3) h4 fun t9 h5 =>
pickK t5 t9 (.bool false) fun t10 =>
K0 .ret [(2, t10)] h5

theorem s_keys_ValidKey_eq (M : CombL) (C : CallF) (LP : LoopH) (a0 : Value) (H : AHeap) : dBodyL M Tryd.prog hints C LP F.keys_ValidKey [a0] H = s_keys_ValidKey M.b.g M.c M.s Tryd.prog C a0 H (endK Tryd.prog [.tmp 2]) := by kernel_rfl

/-! ticketline.pages.marked -/

noncomputable def s_pages_marked (mg : GT) (mc : CT) (ms : ST) (P : Program) (C : CallF) (a0 : Value) (a1 : Value) (H : AHeap) (K0 : K) : Res :=
enterK C F.pages_hexed [a0] H fun t7 h1 =>
bareK (xbin P .add T.string (.tmp 7) (.const (.string (mk [46]))) t7 (.string (mk [46]))) h1 fun t8 h2 =>
enterK C F.pages_hexed [a1] h2 fun t10 h3 =>
bareK (xbin P .add T.string (.tmp 8) (.tmp 10) t8 t10) h3 fun t11 h4 =>
bareK (xbin P .add T.string (.tmp 11) (.const (.string (mk [46]))) t11 (.string (mk [46]))) h4 fun t12 h5 =>
enterK C F.pages_check [t12] h5 fun t15 h6 =>
bareK (xbin P .add T.string (.tmp 13) (.tmp 15) t12 t15) h6 fun t16 h7 =>
K0 .ret [(4, t16)] h7

theorem s_pages_marked_eq (M : CombL) (C : CallF) (LP : LoopH) (a0 : Value) (a1 : Value) (H : AHeap) : dBodyL M Tryd.prog hints C LP F.pages_marked [a0, a1] H = s_pages_marked M.b.g M.c M.s Tryd.prog C a0 a1 H (endK Tryd.prog [.tmp 4]) := by kernel_rfl

/-! slices.BinarySearchFunc[[]ticketline.api.Pair,ticketline.api.Pair,string] -/

noncomputable def s_slices_BinarySearchFunc_string (mg : GT) (mc : CT) (ms : ST) (P : Program) (C : CallF) (L0 : Value → Value → Value → Value → Value → Value → AHeap → K → Res) (a0 : Value) (a1 : Value) (a2 : Value) (H : AHeap) (K0 : K) : Res :=
bareK (lenS a0) H fun t13 h1 =>
ms (fun k1 =>
L0 a0 a1 a2 t13 (.int .i64 0) t13 h1 (blkK [0, 1, 2, 8, 9] 0 k1)) (seqK (fun tT h2 =>
bareK (xbin P .lss T.int (.tmp 36) (.tmp 37) (get tT 9) (get tT 8)) h2 fun t38 h3 =>
mg t38 true (fun o2 => o2 (get tT 2) h3) h3 fun t40 h4 =>
mg t38 true (fun o3 => o3 (get tT 0) h4) h4 fun t41 h5 =>
mg t38 true (fun o4 => o4 (get tT 9) h5) h5 fun t42 h6 =>
mg t38 true (fun o5 => bareK (ixS 2 t41 t42) h6 o5) h6 fun t43 h7 =>
mg t38 true (fun o6 => bareK (ldN 2 h7 t43) h7 o6) h7 fun t44 h8 =>
mg t38 true (fun o7 => o7 (get tT 1) h8) h8 fun t45 h9 =>
mg t38 true (fun o8 => callK P C t40 [t44, t45] h9 o8) h9 fun t46 h10 =>
mg t38 true (fun o9 => bareK (xbin P .eql T.int (.tmp 46) (.const (.int .i64 0)) t46 (.int .i64 0)) h10 o9) h10 fun t47 h11 =>
pickK t38 t47 (.bool false) fun t48 =>
K0 .ret [(6, (get tT 9)), (7, t48)] h11) K0)

noncomputable def s_slices_BinarySearchFunc_string_b0 (mg : GT) (mc : CT) (ms : ST) (P : Program) (C : CallF) (L0 : Value → Value → Value → Value → Value → Value → AHeap → K → Res) (v0 : Value) (v1 : Value) (v2 : Value) (v8 : Value) (v9 : Value) (v10 : Value) (H : AHeap) (k : K) : Res :=
bareK (xbin P .lss T.int (.tmp 15) (.tmp 16) v9 v10) H fun t17 h2 =>
mc t17 (fun k2 => k2 .normal [(0, v0), (1, v1), (2, v2), (8, v8), (9, v9), (10, v10)] h2) (fun k2 =>
k2 (.exit 0) [(17, t17), (16, v10), (15, v9), (0, v0), (1, v1), (2, v2), (8, v8), (9, v9), (10, v10)] h2) (seqK (fun tT h3 =>
ms (fun k3 =>
bareK (xbin P .add T.int (.tmp 18) (.tmp 19) (get tT 9) (get tT 10)) h3 fun t20 h4 =>
bothK (xconv P T.int T.uint t20 h4) fun t21 h5 =>
bareK (xbin P .shr T.uint (.tmp 21) (.const (.int .u64 1)) t21 (.int .u64 1)) h5 fun t22 h6 =>
bothK (xconv P T.uint T.int t22 h6) fun t23 h7 =>
bareK (ixS 2 (get tT 0) t23) h7 fun t27 h8 =>
bareK (ldN 2 h8 t27) h8 fun t28 h9 =>
callK P C (get tT 2) [t28, (get tT 1)] h9 fun t30 h10 =>
bareK (xbin P .lss T.int (.tmp 30) (.const (.int .i64 0)) t30 (.int .i64 0)) h10 fun t31 h11 =>
mc t31 (fun k4 => bareK (xbin P .add T.int (.tmp 32) (.const (.int .i64 1)) t23 (.int .i64 1)) h11 fun t33 h12 =>
k4 .normal [(0, (get tT 0)), (1, (get tT 1)), (2, (get tT 2)), (8, (get tT 8)), (9, t33), (10, (get tT 10))] h12) (fun k4 =>
k4 .normal [(0, (get tT 0)), (1, (get tT 1)), (2, (get tT 2)), (8, (get tT 8)), (9, (get tT 9)), (10, t23)] h11) (blkK [0, 1, 2, 8, 9, 10] 1 k3)) (afterK [0, 1, 2, 8, 9, 10] k)) (afterK [0, 1, 2, 8, 9, 10] k))

theorem s_slices_BinarySearchFunc_string_eq (M : CombL) (C : CallF) (LP : LoopH) (a0 : Value) (a1 : Value) (a2 : Value) (H : AHeap) : dBodyL M Tryd.prog hints C LP F.slices_BinarySearchFunc_string [a0, a1, a2] H = s_slices_BinarySearchFunc_string M.b.g M.c M.s Tryd.prog C (fun v0 v1 v2 v8 v9 v10 H k => loopL M Tryd.prog hints C LP F.slices_BinarySearchFunc_string 0 [(0, v0), (1, v1), (2, v2), (8, v8), (9, v9), (10, v10)] H k) a0 a1 a2 H (endK Tryd.prog [.tmp 6, .tmp 7]) := by kernel_rfl

theorem s_slices_BinarySearchFunc_string_b0_eq (M : CombL) (C : CallF) (LP : LoopH) (v0 : Value) (v1 : Value) (v2 : Value) (v8 : Value) (v9 : Value) (v10 : Value) (H : AHeap) (k : K) : bodyL M Tryd.prog hints C LP F.slices_BinarySearchFunc_string 0 [(0, v0), (1, v1), (2, v2), (8, v8), (9, v9), (10, v10)] H (afterK [0, 1, 2, 8, 9, 10] k) = s_slices_BinarySearchFunc_string_b0 M.b.g M.c M.s Tryd.prog C (fun v0 v1 v2 v8 v9 v10 H k => loopL M Tryd.prog hints C LP F.slices_BinarySearchFunc_string 0 [(0, v0), (1, v1), (2, v2), (8, v8), (9, v9), (10, v10)] H k) v0 v1 v2 v8 v9 v10 H k := by kernel_rfl

/-! (*ticketline.model.Model).place$1 -/

noncomputable def s_model_Model_place_1 (mg : GT) (mc : CT) (ms : ST) (P : Program) (C : CallF) (a0 : Value) (a1 : Value) (H : AHeap) (K0 : K) : Res :=
bothK (newv T.api_Pair a0 H) fun t2 h1 =>
bareK (fad 0 t2) h1 fun t5 h2 =>
bareK (ld1 h2 t5) h2 fun t6 h3 =>
enterK C F.keys_Compare [t6, a1] h3 fun t8 h4 =>
K0 .ret [(4, t8)] h4

theorem s_model_Model_place_1_eq (M : CombL) (C : CallF) (LP : LoopH) (a0 : Value) (a1 : Value) (H : AHeap) : dBodyL M Tryd.prog hints C LP F.model_Model_place_1 [a0, a1] H = s_model_Model_place_1 M.b.g M.c M.s Tryd.prog C a0 a1 H (endK Tryd.prog [.tmp 4]) := by kernel_rfl

/-! slices.Insert[[]ticketline.api.Pair,ticketline.api.Pair] -/

noncomputable def s_slices_Insert_Pair (mg : GT) (mc : CT) (ms : ST) (P : Program) (C : CallF) (a0 : Value) (a1 : Value) (a2 : Value) (H : AHeap) (K0 : K) : Res :=
bareK (slS T.api_Pair 2 a0 (some a1) none none H) H fun t12 h1 =>
bareK (lenS a2) h1 fun t14 h2 =>
bareK (xbin P .eql T.int (.tmp 15) (.const (.int .i64 0)) t14 (.int .i64 0)) h2 fun t16 h3 =>
mc t16 (fun k1 => k1 .ret [(6, a0)] h3) (fun k1 =>
k1 .normal [(0, a0), (1, a1), (2, a2), (7, t14)] h3) (seqK (fun tT h4 =>
bareK (lenS (get tT 0)) h4 fun t19 h5 =>
bareK (xbin P .eql T.int (.tmp 20) (.tmp 21) (get tT 1) t19) h5 fun t22 h6 =>
mc t22 (fun k2 => bothK (app T.api_Pair 2 32 (get tT 0) (srcS 2 (get tT 2) h6) h6) fun t25 h7 =>
k2 .ret [(6, t25)] h7) (fun k2 =>
k2 .normal [(0, (get tT 0)), (1, (get tT 1)), (2, (get tT 2)), (7, (get tT 7)), (8, t19)] h6) (seqK (fun tT_1 h8 =>
bareK (xbin P .add T.int (.tmp 26) (.tmp 27) (get tT_1 8) (get tT_1 7)) h8 fun t28 h9 =>
nextK C h9 (xbuiltin P .cap [T.sl_api_Pair] [(get tT_1 0)] h9) fun t30 h10 =>
bareK (xbin P .gtr T.int (.tmp 28) (.tmp 30) t28 t30) h10 fun t31 h11 =>
mc t31 (fun k3 => bareK (slS T.api_Pair 2 (get tT_1 0) none (some (get tT_1 1)) none h11) h11 fun t34 h12 =>
bareK (xbin P .add T.int (.tmp 35) (.tmp 36) (get tT_1 8) (get tT_1 7)) h12 fun t37 h13 =>
bareK (xbin P .sub T.int (.tmp 37) (.tmp 38) t37 (get tT_1 1)) h13 fun t39 h14 =>
bothK (app T.api_Pair 2 32 t34 (srcZ [(.string (mk [])), (.string (mk []))] 32 t39) h14) fun t40 h15 =>
bareK (slS T.api_Pair 2 t40 (some (get tT_1 1)) none none h15) h15 fun t43 h16 =>
bothK (cpy 2 t43 (get tT_1 2) h16) fun t45 h17 =>
bareK (xbin P .add T.int (.tmp 47) (.tmp 48) (get tT_1 1) (get tT_1 7)) h17 fun t49 h18 =>
bareK (slS T.api_Pair 2 t40 (some t49) none none h18) h18 fun t50 h19 =>
bareK (slS T.api_Pair 2 (get tT_1 0) (some (get tT_1 1)) none none h19) h19 fun t53 h20 =>
bothK (cpy 2 t50 t53 h20) fun t54 h21 =>
checkK true <|
k3 .ret [(6, t40)] h21) (fun k3 =>
k3 .normal [(0, (get tT_1 0)), (1, (get tT_1 1)), (2, (get tT_1 2)), (7, (get tT_1 7)), (8, (get tT_1 8))] h11) (seqK (fun tT_2 h22 =>
bareK (xbin P .add T.int (.tmp 57) (.tmp 58) (get tT_2 8) (get tT_2 7)) h22 fun t59 h23 =>
bareK (slS T.api_Pair 2 (get tT_2 0) none (some t59) none h23) h23 fun t60 h24 =>
bareK (xbin P .add T.int (.tmp 63) (.tmp 64) (get tT_2 1) (get tT_2 7)) h24 fun t65 h25 =>
bareK (slS T.api_Pair 2 t60 (some t65) none none h25) h25 fun t66 h26 =>
bareK (xext P Tryd.f54 [(get tT_2 2), t66] h26) h26 fun t67 h27 =>
bareK (xun P .not t67) h27 fun t68 h28 =>
mc t68 (fun k4 => bareK (xbin P .add T.int (.tmp 70) (.tmp 71) (get tT_2 1) (get tT_2 7)) h28 fun t72 h29 =>
bareK (slS T.api_Pair 2 t60 (some t72) none none h29) h29 fun t73 h30 =>
bareK (slS T.api_Pair 2 t60 (some (get tT_2 1)) none none h30) h30 fun t76 h31 =>
bothK (cpy 2 t73 t76 h31) fun t77 h32 =>
checkK true <|
bareK (slS T.api_Pair 2 t60 (some (get tT_2 1)) none none h32) h32 fun t80 h33 =>
bothK (cpy 2 t80 (get tT_2 2) h33) fun t82 h34 =>
k4 .ret [(6, t60)] h34) (fun k4 =>
k4 .normal [(0, t60), (1, (get tT_2 1)), (2, (get tT_2 2)), (7, (get tT_2 7)), (8, (get tT_2 8))] h28) (seqK (fun tT_3 h35 =>
bareK (slS T.api_Pair 2 (get tT_3 0) (some (get tT_3 8)) none none h35) h35 fun t86 h36 =>
bothK (cpy 2 t86 (get tT_3 2) h36) fun t88 h37 =>
bareK (slS T.api_Pair 2 (get tT_3 0) (some (get tT_3 1)) none none h37) h37 fun t91 h38 =>
enterK C F.slices_rotateRight_Pair [t91, (get tT_3 7)] h38 fun t93 h39 =>
K0 .ret [(6, (get tT_3 0))] h39) K0)) K0)) K0)) K0)

theorem s_slices_Insert_Pair_eq (M : CombL) (C : CallF) (LP : LoopH) (a0 : Value) (a1 : Value) (a2 : Value) (H : AHeap) : dBodyL M Tryd.prog hints C LP F.slices_Insert_Pair [a0, a1, a2] H = s_slices_Insert_Pair M.b.g M.c M.s Tryd.prog C a0 a1 a2 H (endK Tryd.prog [.tmp 6]) := by kernel_rfl

/-! slices.ContainsFunc[[]string,string] -/

noncomputable def s_slices_ContainsFunc_string (mg : GT) (mc : CT) (ms : ST) (P : Program) (C : CallF) (a0 : Value) (a1 : Value) (H : AHeap) (K0 : K) : Res :=
enterK C F.slices_IndexFunc_string [a0, a1] H fun t7 h1 =>
bareK (xbin P .geq T.int (.tmp 7) (.const (.int .i64 0)) t7 (.int .i64 0)) h1 fun t8 h2 =>
K0 .ret [(4, t8)] h2

theorem s_slices_ContainsFunc_string_eq (M : CombL) (C : CallF) (LP : LoopH) (a0 : Value) (a1 : Value) (H : AHeap) : dBodyL M Tryd.prog hints C LP F.slices_ContainsFunc_string [a0, a1] H = s_slices_ContainsFunc_string M.b.g M.c M.s Tryd.prog C a0 a1 H (endK Tryd.prog [.tmp 4]) := by kernel_rfl

/-! ticketline.model.check$1 -/

noncomputable def s_model_check_1 (mg : GT) (mc : CT) (ms : ST) (P : Program) (C : CallF) (a0 : Value) (H : AHeap) (K0 : K) : Res :=
bareK (lenT a0) H fun t4 h1 =>
bareK (xbin P .gtr T.int (.tmp 4) (.const (.int .i64 40)) t4 (.int .i64 40)) h1 fun t5 h2 =>
K0 .ret [(2, t5)] h2

theorem s_model_check_1_eq (M : CombL) (C : CallF) (LP : LoopH) (a0 : Value) (H : AHeap) : dBodyL M Tryd.prog hints C LP F.model_check_1 [a0] H = s_model_check_1 M.b.g M.c M.s Tryd.prog C a0 H (endK Tryd.prog [.tmp 2]) := by kernel_rfl

/-! strings.Compare -/

noncomputable def s_strings_Compare (mg : GT) (mc : CT) (ms : ST) (P : Program) (C : CallF) (a0 : Value) (a1 : Value) (H : AHeap) (K0 : K) : Res :=
enterK C F.internal_bytealg_CompareString [a0, a1] H fun t7 h1 =>
K0 .ret [(4, t7)] h1

theorem s_strings_Compare_eq (M : CombL) (C : CallF) (LP : LoopH) (a0 : Value) (a1 : Value) (H : AHeap) : dBodyL M Tryd.prog hints C LP F.strings_Compare [a0, a1] H = s_strings_Compare M.b.g M.c M.s Tryd.prog C a0 a1 H (endK Tryd.prog [.tmp 4]) := by kernel_rfl

/-! strings.genSplit -/

noncomputable def s_strings_genSplit (mg : GT) (mc : CT) (ms : ST) (P : Program) (C : CallF) (L0 : Value → Value → Value → Value → Value → Value → AHeap → K → Res) (a0 : Value) (a1 : Value) (a2 : Value) (a3 : Value) (H : AHeap) (K0 : K) : Res :=
bareK (xbin P .eql T.int (.tmp 12) (.const (.int .i64 0)) a3 (.int .i64 0)) H fun t13 h1 =>
mc t13 (fun k1 => k1 .ret [(8, (.slice none 0 0))] h1) (fun k1 =>
k1 .normal [(0, a0), (1, a1), (2, a2), (3, a3)] h1) (seqK (fun tT h2 =>
bareK (xbin P .eql T.string (.tmp 14) (.const (.string (mk []))) (get tT 1) (.string (mk []))) h2 fun t15 h3 =>
mc t15 (fun k2 => enterK C F.strings_explode [(get tT 0), (get tT 3)] h3 fun t18 h4 =>
k2 .ret [(8, t18)] h4) (fun k2 =>
k2 .normal [(0, (get tT 0)), (1, (get tT 1)), (2, (get tT 2)), (3, (get tT 3))] h3) (seqK (fun tT_1 h5 =>
bareK (xbin P .lss T.int (.tmp 19) (.const (.int .i64 0)) (get tT_1 3) (.int .i64 0)) h5 fun t20 h6 =>
mc t20 (fun k3 => enterK C F.strings_Count [(get tT_1 0), (get tT_1 1)] h6 fun t23 h7 =>
bareK (xbin P .add T.int (.tmp 23) (.const (.int .i64 1)) t23 (.int .i64 1)) h7 fun t24 h8 =>
k3 .normal [(0, (get tT_1 0)), (1, (get tT_1 1)), (2, (get tT_1 2)), (3, t24)] h8) (fun k3 =>
k3 .normal [(0, (get tT_1 0)), (1, (get tT_1 1)), (2, (get tT_1 2)), (3, (get tT_1 3))] h6) (seqK (fun tT_2 h9 =>
bareK (lenT (get tT_2 0)) h9 fun t27 h10 =>
bareK (xbin P .add T.int (.tmp 27) (.const (.int .i64 1)) t27 (.int .i64 1)) h10 fun t28 h11 =>
nextK C h11 (xbuiltin P .min [T.int, T.int] [(get tT_2 3), t28] h11) fun t29 h12 =>
bothK (mkS T.string [(.string (mk []))] 16 t29 t29 h12) fun t31 h13 =>
bareK (xbin P .sub T.int (.tmp 32) (.const (.int .i64 1)) t29 (.int .i64 1)) h13 fun t33 h14 =>
ms (fun k4 =>
L0 (get tT_2 0) (get tT_2 1) (get tT_2 2) t33 t31 (.int .i64 0) h14 (blkK [0, 9, 10] 0 k4)) (seqK (fun tT_3 h15 =>
bareK (ixS 1 (get tT_3 9) (get tT_3 10)) h15 fun t61 h16 =>
quietK (st1 h16 t61 (get tT_3 0)) fun _ h17 =>
bareK (xbin P .add T.int (.tmp 63) (.const (.int .i64 1)) (get tT_3 10) (.int .i64 1)) h17 fun t64 h18 =>
bareK (slS T.string 1 (get tT_3 9) none (some t64) none h18) h18 fun t65 h19 =>
K0 .ret [(8, t65)] h19) K0)) K0)) K0)) K0)

noncomputable def s_strings_genSplit_b0 (mg : GT) (mc : CT) (ms : ST) (P : Program) (C : CallF) (L0 : Value → Value → Value → Value → Value → Value → AHeap → K → Res) (v0 : Value) (v1 : Value) (v2 : Value) (v3 : Value) (v9 : Value) (v10 : Value) (H : AHeap) (k : K) : Res :=
bareK (xbin P .lss T.int (.tmp 34) (.tmp 35) v10 v3) H fun t36 h15 =>
mc t36 (fun k5 => k5 .normal [(0, v0), (1, v1), (2, v2), (3, v3), (9, v9), (10, v10)] h15) (fun k5 =>
k5 (.exit 0) [(36, t36), (35, v3), (34, v10), (0, v0), (1, v1), (2, v2), (3, v3), (9, v9), (10, v10)] h15) (seqK (fun tT h16 =>
ms (fun k6 =>
enterK C F.strings_Index [(get tT 0), (get tT 1)] h16 fun t39 h17 =>
bareK (xbin P .lss T.int (.tmp 40) (.const (.int .i64 0)) t39 (.int .i64 0)) h17 fun t41 h18 =>
mc t41 (fun k7 => k7 (.exit 0) ((41, t41) :: (40, t39) :: (11, t39) :: (39, t39) :: (38, (get tT 1)) :: (37, (get tT 0)) :: tT) h18) (fun k7 =>
k7 .normal [(0, (get tT 0)), (1, (get tT 1)), (2, (get tT 2)), (3, (get tT 3)), (9, (get tT 9)), (10, (get tT 10)), (11, t39)] h18) (seqK (fun tT_1 h19 =>
bareK (xbin P .add T.int (.tmp 45) (.tmp 46) (get tT_1 11) (get tT_1 2)) h19 fun t47 h20 =>
bareK (slT (get tT_1 0) none (some t47)) h20 fun t48 h21 =>
bareK (ixS 1 (get tT_1 9) (get tT_1 10)) h21 fun t49 h22 =>
quietK (st1 h22 t49 t48) fun _ h23 =>
bareK (lenT (get tT_1 1)) h23 fun t53 h24 =>
bareK (xbin P .add T.int (.tmp 51) (.tmp 53) (get tT_1 11) t53) h24 fun t54 h25 =>
bareK (slT (get tT_1 0) (some t54) none) h25 fun t55 h26 =>
bareK (xbin P .add T.int (.tmp 56) (.const (.int .i64 1)) (get tT_1 10) (.int .i64 1)) h26 fun t57 h27 =>
k6 .normal [(0, t55), (1, (get tT_1 1)), (2, (get tT_1 2)), (3, (get tT_1 3)), (9, (get tT_1 9)), (10, t57)] h27) (blkK [0, 1, 2, 3, 9, 10] 1 k6))) (afterK [0, 1, 2, 3, 9, 10] k)) (afterK [0, 1, 2, 3, 9, 10] k))

theorem s_strings_genSplit_eq (M : CombL) (C : CallF) (LP : LoopH) (a0 : Value) (a1 : Value) (a2 : Value) (a3 : Value) (H : AHeap) : dBodyL M Tryd.prog hints C LP F.strings_genSplit [a0, a1, a2, a3] H = s_strings_genSplit M.b.g M.c M.s Tryd.prog C (fun v0 v1 v2 v3 v9 v10 H k => loopL M Tryd.prog hints C LP F.strings_genSplit 0 [(0, v0), (1, v1), (2, v2), (3, v3), (9, v9), (10, v10)] H k) a0 a1 a2 a3 H (endK Tryd.prog [.tmp 8]) := by kernel_rfl

theorem s_strings_genSplit_b0_eq (M : CombL) (C : CallF) (LP : LoopH) (v0 : Value) (v1 : Value) (v2 : Value) (v3 : Value) (v9 : Value) (v10 : Value) (H : AHeap) (k : K) : bodyL M Tryd.prog hints C LP F.strings_genSplit 0 [(0, v0), (1, v1), (2, v2), (3, v3), (9, v9), (10, v10)] H (afterK [0, 1, 2, 3, 9, 10] k) = s_strings_genSplit_b0 M.b.g M.c M.s Tryd.prog C (fun v0 v1 v2 v3 v9 v10 H k => loopL M Tryd.prog hints C LP F.strings_genSplit 0 [(0, v0), (1, v1), (2, v2), (3, v3), (9, v9), (10, v10)] H k) v0 v1 v2 v3 v9 v10 H k := by kernel_rfl

/-! strconv.ParseUint -/

noncomputable def s_strconv_ParseUint (mg : GT) (mc : CT) (ms : ST) (P : Program) (C : CallF) (a0 : Value) (a1 : Value) (a2 : Value) (H : AHeap) (K0 : K) : Res :=
enterK C F.internal_strconv_ParseUint [a0, a1, a2] H fun t14 h1 =>
bareK (xextract t14 0) h1 fun t15 h2 =>
bareK (xextract t14 1) h2 fun t16 h3 =>
bareK (xbin P .neq T.error (.tmp 17) (.const .nilIface) t16 .nilIface) h3 fun t18 h4 =>
mc t18 (fun k1 => enterK C F.strconv_toError [(.string (mk [80, 97, 114, 115, 101, 85, 105, 110, 116])), a0, a1, a2, t16] h4 fun t24 h5 =>
k1 .ret [(6, t15), (7, t24)] h5) (fun k1 =>
k1 .normal [(8, t15)] h4) (seqK (fun tT h6 =>
K0 .ret [(6, (get tT 8)), (7, .nilIface)] h6) K0)

theorem s_strconv_ParseUint_eq (M : CombL) (C : CallF) (LP : LoopH) (a0 : Value) (a1 : Value) (a2 : Value) (H : AHeap) : dBodyL M Tryd.prog hints C LP F.strconv_ParseUint [a0, a1, a2] H = s_strconv_ParseUint M.b.g M.c M.s Tryd.prog C a0 a1 a2 H (endK Tryd.prog [.tmp 6, .tmp 7]) := by kernel_rfl

/-! ticketline.pages.hexed -/

noncomputable def s_pages_hexed (mg : GT) (mc : CT) (ms : ST) (P : Program) (C : CallF) (L0 : Value → Value → Value → Value → AHeap → K → Res) (a0 : Value) (H : AHeap) (K0 : K) : Res :=
bothK (newv T.strings_Builder (.agg #[(.pointer none), (.slice none 0 0)]) H) fun t3 h1 =>
bothK (xconv P T.string T.sl_uint8 a0 h1) fun t7 h2 =>
bareK (lenS t7) h2 fun t8 h3 =>
ms (fun k1 =>
L0 t3 t7 t8 (.int .i64 0) h3 (blkK [3] 0 k1)) (seqK (fun tT h4 =>
enterK C F.strings_Builder_String [(get tT 3)] h4 fun t22 h5 =>
K0 .ret [(2, t22)] h5) K0)

noncomputable def s_pages_hexed_b0 (mg : GT) (mc : CT) (ms : ST) (P : Program) (C : CallF) (L0 : Value → Value → Value → Value → AHeap → K → Res) (v3 : Value) (v7 : Value) (v8 : Value) (v9 : Value) (H : AHeap) (k : K) : Res :=
bareK (xbin P .lss T.int (.tmp 9) (.tmp 8) v9 v8) H fun t10 h4 =>
mc t10 (fun k2 => k2 .normal [(3, v3), (7, v7), (8, v8), (9, v9)] h4) (fun k2 =>
k2 (.exit 0) [(10, t10), (3, v3), (7, v7), (8, v8), (9, v9)] h4) (seqK (fun tT h5 =>
ms (fun k3 =>
bareK (ixS 1 (get tT 7) (get tT 9)) h5 fun t11 h6 =>
bareK (ld1 h6 t11) h6 fun t12 h7 =>
bareK (xbin P .shr T.uint8 (.tmp 13) (.const (.int .u64 4)) t12 (.int .u64 4)) h7 fun t14 h8 =>
bareK (xindex P T.string (.string (mk [48, 49, 50, 51, 52, 53, 54, 55, 56, 57, 97, 98, 99, 100, 101, 102])) t14) h8 fun t15 h9 =>
enterK C F.strings_Builder_WriteByte [(get tT 3), t15] h9 fun t16 h10 =>
bareK (xbin P .and T.uint8 (.tmp 17) (.const (.int .u8 15)) t12 (.int .u8 15)) h10 fun t18 h11 =>
bareK (xindex P T.string (.string (mk [48, 49, 50, 51, 52, 53, 54, 55, 56, 57, 97, 98, 99, 100, 101, 102])) t18) h11 fun t19 h12 =>
enterK C F.strings_Builder_WriteByte [(get tT 3), t19] h12 fun t20 h13 =>
k3 .normal [(3, (get tT 3)), (7, (get tT 7)), (8, (get tT 8)), (9, (get tT 9))] h13) (seqK (fun tT_1 h14 =>
bareK (xbin P .add T.int (.tmp 9) (.const (.int .i64 1)) (get tT_1 9) (.int .i64 1)) h14 fun t21 h15 =>
k .normal [(3, (get tT_1 3)), (7, (get tT_1 7)), (8, (get tT_1 8)), (9, t21)] h15) (afterK [3, 7, 8, 9] k))) (afterK [3, 7, 8, 9] k))

theorem s_pages_hexed_eq (M : CombL) (C : CallF) (LP : LoopH) (a0 : Value) (H : AHeap) : dBodyL M Tryd.prog hints C LP F.pages_hexed [a0] H = s_pages_hexed M.b.g M.c M.s Tryd.prog C (fun v3 v7 v8 v9 H k => loopL M Tryd.prog hints C LP F.pages_hexed 0 [(3, v3), (7, v7), (8, v8), (9, v9)] H k) a0 H (endK Tryd.prog [.tmp 2]) := by kernel_rfl

theorem s_pages_hexed_b0_eq (M : CombL) (C : CallF) (LP : LoopH) (v3 : Value) (v7 : Value) (v8 : Value) (v9 : Value) (H : AHeap) (k : K) : bodyL M Tryd.prog hints C LP F.pages_hexed 0 [(3, v3), (7, v7), (8, v8), (9, v9)] H (afterK [3, 7, 8, 9] k) = s_pages_hexed_b0 M.b.g M.c M.s Tryd.prog C (fun v3 v7 v8 v9 H k => loopL M Tryd.prog hints C LP F.pages_hexed 0 [(3, v3), (7, v7), (8, v8), (9, v9)] H k) v3 v7 v8 v9 H k := by kernel_rfl

/-! ticketline.pages.check -/

noncomputable def s_pages_check (mg : GT) (mc : CT) (ms : ST) (P : Program) (C : CallF) (L0 : Value → Value → Value → Value → AHeap → K → Res) (a0 : Value) (H : AHeap) (K0 : K) : Res :=
bothK (xconv P T.string T.sl_uint8 a0 H) fun t7 h1 =>
bareK (lenS t7) h1 fun t8 h2 =>
ms (fun k1 =>
L0 (.int .i64 17) t7 t8 (.int .i64 0) h2 (blkK [3] 0 k1)) (seqK (fun tT h3 =>
bareK (xbin P .shr T.int (.tmp 20) (.const (.int .u64 8)) (get tT 3) (.int .u64 8)) h3 fun t21 h4 =>
bothK (xconv P T.int T.uint8 t21 h4) fun t22 h5 =>
bothK (xconv P T.int T.uint8 (get tT 3) h5) fun t24 h6 =>
bothK (bldL T.uint8 [(.int .u8 0)] 2 [(0, t22), (1, t24)] h6) fun t25 h7 =>
bothK (xconv P T.sl_uint8 T.string t25 h7) fun t26 h8 =>
enterK C F.pages_hexed [t26] h8 fun t27 h9 =>
K0 .ret [(2, t27)] h9) K0)

noncomputable def s_pages_check_b0 (mg : GT) (mc : CT) (ms : ST) (P : Program) (C : CallF) (L0 : Value → Value → Value → Value → AHeap → K → Res) (v3 : Value) (v7 : Value) (v8 : Value) (v9 : Value) (H : AHeap) (k : K) : Res :=
bareK (xbin P .lss T.int (.tmp 9) (.tmp 8) v9 v8) H fun t10 h3 =>
mc t10 (fun k2 => k2 .normal [(3, v3), (7, v7), (8, v8), (9, v9)] h3) (fun k2 =>
k2 (.exit 0) [(10, t10), (3, v3), (7, v7), (8, v8), (9, v9)] h3) (seqK (fun tT h4 =>
ms (fun k3 =>
bareK (ixS 1 (get tT 7) (get tT 9)) h4 fun t11 h5 =>
bareK (ld1 h5 t11) h5 fun t12 h6 =>
bareK (xbin P .mul T.int (.const (.int .i64 31)) (.tmp 13) (.int .i64 31) (get tT 3)) h6 fun t14 h7 =>
bothK (xconv P T.uint8 T.int t12 h7) fun t16 h8 =>
bareK (xbin P .add T.int (.tmp 14) (.tmp 16) t14 t16) h8 fun t17 h9 =>
bareK (xbin P .rem T.int (.tmp 17) (.const (.int .i64 65521)) t17 (.int .i64 65521)) h9 fun t18 h10 =>
k3 .normal [(3, t18), (7, (get tT 7)), (8, (get tT 8)), (9, (get tT 9))] h10) (seqK (fun tT_1 h11 =>
bareK (xbin P .add T.int (.tmp 9) (.const (.int .i64 1)) (get tT_1 9) (.int .i64 1)) h11 fun t19 h12 =>
k .normal [(3, (get tT_1 3)), (7, (get tT_1 7)), (8, (get tT_1 8)), (9, t19)] h12) (afterK [3, 7, 8, 9] k))) (afterK [3, 7, 8, 9] k))

theorem s_pages_check_eq (M : CombL) (C : CallF) (LP : LoopH) (a0 : Value) (H : AHeap) : dBodyL M Tryd.prog hints C LP F.pages_check [a0] H = s_pages_check M.b.g M.c M.s Tryd.prog C (fun v3 v7 v8 v9 H k => loopL M Tryd.prog hints C LP F.pages_check 0 [(3, v3), (7, v7), (8, v8), (9, v9)] H k) a0 H (endK Tryd.prog [.tmp 2]) := by kernel_rfl

theorem s_pages_check_b0_eq (M : CombL) (C : CallF) (LP : LoopH) (v3 : Value) (v7 : Value) (v8 : Value) (v9 : Value) (H : AHeap) (k : K) : bodyL M Tryd.prog hints C LP F.pages_check 0 [(3, v3), (7, v7), (8, v8), (9, v9)] H (afterK [3, 7, 8, 9] k) = s_pages_check_b0 M.b.g M.c M.s Tryd.prog C (fun v3 v7 v8 v9 H k => loopL M Tryd.prog hints C LP F.pages_check 0 [(3, v3), (7, v7), (8, v8), (9, v9)] H k) v3 v7 v8 v9 H k := by kernel_rfl

/-! slices.rotateRight[ticketline.api.Pair] -/

noncomputable def s_slices_rotateRight_Pair (mg : GT) (mc : CT) (ms : ST) (P : Program) (C : CallF) (a0 : Value) (a1 : Value) (H : AHeap) (K0 : K) : Res :=
bareK (lenS a0) H fun t6 h1 =>
bareK (xbin P .sub T.int (.tmp 6) (.tmp 7) t6 a1) h1 fun t8 h2 =>
enterK C F.slices_rotateLeft_Pair [a0, t8] h2 fun t9 h3 =>
K0 .normal [(9, t9), (8, t8), (7, a1), (6, t6), (5, a0), (4, a0), (0, a0), (1, a1)] h3

theorem s_slices_rotateRight_Pair_eq (M : CombL) (C : CallF) (LP : LoopH) (a0 : Value) (a1 : Value) (H : AHeap) : dBodyL M Tryd.prog hints C LP F.slices_rotateRight_Pair [a0, a1] H = s_slices_rotateRight_Pair M.b.g M.c M.s Tryd.prog C a0 a1 H (endK Tryd.prog []) := by kernel_rfl

/-! slices.IndexFunc[[]string,string] -/

noncomputable def s_slices_IndexFunc_string (mg : GT) (mc : CT) (ms : ST) (P : Program) (C : CallF) (L0 : Value → Value → Value → Value → AHeap → K → Res) (a0 : Value) (a1 : Value) (H : AHeap) (K0 : K) : Res :=
bareK (lenS a0) H fun t7 h1 =>
ms (fun k1 =>
L0 a0 a1 t7 (.int .i64 0) h1 (blkK [] 0 k1)) (seqK (fun tT h2 =>
K0 .ret [(4, (.int .i64 (-1)))] h2) K0)

noncomputable def s_slices_IndexFunc_string_b0 (mg : GT) (mc : CT) (ms : ST) (P : Program) (C : CallF) (L0 : Value → Value → Value → Value → AHeap → K → Res) (v0 : Value) (v1 : Value) (v7 : Value) (v8 : Value) (H : AHeap) (k : K) : Res :=
bareK (xbin P .lss T.int (.tmp 8) (.tmp 7) v8 v7) H fun t9 h2 =>
mc t9 (fun k2 => k2 .normal [(0, v0), (1, v1), (7, v7), (8, v8)] h2) (fun k2 =>
k2 (.exit 0) [(9, t9), (0, v0), (1, v1), (7, v7), (8, v8)] h2) (seqK (fun tT h3 =>
ms (fun k3 =>
bareK (ixS 1 (get tT 0) (get tT 8)) h3 fun t14 h4 =>
bareK (ld1 h4 t14) h4 fun t15 h5 =>
callK P C (get tT 1) [t15] h5 fun t16 h6 =>
mc t16 (fun k4 => k4 .ret [(4, (get tT 8))] h6) (fun k4 =>
k4 .normal [(0, (get tT 0)), (1, (get tT 1)), (7, (get tT 7)), (8, (get tT 8))] h6) (blkK [0, 1, 7, 8] 1 k3)) (seqK (fun tT_1 h7 =>
bareK (xbin P .add T.int (.tmp 8) (.const (.int .i64 1)) (get tT_1 8) (.int .i64 1)) h7 fun t18 h8 =>
k .normal [(0, (get tT_1 0)), (1, (get tT_1 1)), (7, (get tT_1 7)), (8, t18)] h8) (afterK [0, 1, 7, 8] k))) (afterK [0, 1, 7, 8] k))

theorem s_slices_IndexFunc_string_eq (M : CombL) (C : CallF) (LP : LoopH) (a0 : Value) (a1 : Value) (H : AHeap) : dBodyL M Tryd.prog hints C LP F.slices_IndexFunc_string [a0, a1] H = s_slices_IndexFunc_string M.b.g M.c M.s Tryd.prog C (fun v0 v1 v7 v8 H k => loopL M Tryd.prog hints C LP F.slices_IndexFunc_string 0 [(0, v0), (1, v1), (7, v7), (8, v8)] H k) a0 a1 H (endK Tryd.prog [.tmp 4]) := by kernel_rfl

theorem s_slices_IndexFunc_string_b0_eq (M : CombL) (C : CallF) (LP : LoopH) (v0 : Value) (v1 : Value) (v7 : Value) (v8 : Value) (H : AHeap) (k : K) : bodyL M Tryd.prog hints C LP F.slices_IndexFunc_string 0 [(0, v0), (1, v1), (7, v7), (8, v8)] H (afterK [0, 1, 7, 8] k) = s_slices_IndexFunc_string_b0 M.b.g M.c M.s Tryd.prog C (fun v0 v1 v7 v8 H k => loopL M Tryd.prog hints C LP F.slices_IndexFunc_string 0 [(0, v0), (1, v1), (7, v7), (8, v8)] H k) v0 v1 v7 v8 H k := by kernel_rfl

/-! internal.bytealg.CompareString -/

noncomputable def s_internal_bytealg_CompareString (mg : GT) (mc : CT) (ms : ST) (P : Program) (C : CallF) (a0 : Value) (a1 : Value) (H : AHeap) (K0 : K) : Res :=
bareK (xext P Tryd.f66 [a0, a1] H) H fun t7 h1 =>
K0 .ret [(4, t7)] h1

theorem s_internal_bytealg_CompareString_eq (M : CombL) (C : CallF) (LP : LoopH) (a0 : Value) (a1 : Value) (H : AHeap) : dBodyL M Tryd.prog hints C LP F.internal_bytealg_CompareString [a0, a1] H = s_internal_bytealg_CompareString M.b.g M.c M.s Tryd.prog C a0 a1 H (endK Tryd.prog [.tmp 4]) := by kernel_rfl

/-! strings.explode -/

noncomputable def s_strings_explode (mg : GT) (mc : CT) (ms : ST) (P : Program) (C : CallF) (L0 : Value → Value → Value → Value → AHeap → K → Res) (a0 : Value) (a1 : Value) (H : AHeap) (K0 : K) : Res :=
enterK C F.unicode_utf8_RuneCountInString [a0] H fun t11 h1 =>
bareK (xbin P .lss T.int (.tmp 12) (.const (.int .i64 0)) a1 (.int .i64 0)) h1 fun t13 h2 =>
mg t13 false (fun o1 => o1 a1 h2) h2 fun t15 h3 =>
mg t13 false (fun o2 => o2 t11 h3) h3 fun t16 h4 =>
mg t13 false (fun o3 => bareK (xbin P .gtr T.int (.tmp 15) (.tmp 16) t15 t16) h4 o3) h4 fun t17 h5 =>
pickK t13 (.bool true) t17 fun t18 =>
mc t18 (fun k4 => k4 .normal [(0, a0), (1, t11)] h5) (fun k4 =>
k4 .normal [(0, a0), (1, a1)] h5) (seqK (fun tT h6 =>
bothK (mkS T.string [(.string (mk []))] 16 (get tT 1) (get tT 1) h6) fun t21 h7 =>
ms (fun k5 =>
L0 (get tT 0) (get tT 1) t21 (.int .i64 0) h7 (blkK [0, 1, 6] 0 k5)) (seqK (fun tT_1 h8 =>
bareK (xbin P .gtr T.int (.tmp 42) (.const (.int .i64 0)) (get tT_1 1) (.int .i64 0)) h8 fun t43 h9 =>
mc t43 (fun k6 => bareK (xbin P .sub T.int (.tmp 45) (.const (.int .i64 1)) (get tT_1 1) (.int .i64 1)) h9 fun t46 h10 =>
bareK (ixS 1 (get tT_1 6) t46) h10 fun t48 h11 =>
quietK (st1 h11 t48 (get tT_1 0)) fun _ h12 =>
k6 .normal [(6, (get tT_1 6))] h12) (fun k6 =>
k6 .normal [(6, (get tT_1 6))] h9) (seqK (fun tT_2 h13 =>
K0 .ret [(4, (get tT_2 6))] h13) K0)) K0)) K0)

noncomputable def s_strings_explode_b0 (mg : GT) (mc : CT) (ms : ST) (P : Program) (C : CallF) (L0 : Value → Value → Value → Value → AHeap → K → Res) (v0 : Value) (v1 : Value) (v6 : Value) (v7 : Value) (H : AHeap) (k : K) : Res :=
bareK (xbin P .sub T.int (.tmp 23) (.const (.int .i64 1)) v1 (.int .i64 1)) H fun t24 h8 =>
bareK (xbin P .lss T.int (.tmp 22) (.tmp 24) v7 t24) h8 fun t25 h9 =>
mc t25 (fun k6 => k6 .normal [(0, v0), (1, v1), (6, v6), (7, v7)] h9) (fun k6 =>
k6 (.exit 0) [(25, t25), (24, t24), (23, v1), (22, v7), (0, v0), (1, v1), (6, v6), (7, v7)] h9) (seqK (fun tT h10 =>
ms (fun k7 =>
enterK C F.unicode_utf8_DecodeRuneInString [(get tT 0)] h10 fun t30 h11 =>
bareK (xextract t30 0) h11 fun t31 h12 =>
bareK (xextract t30 1) h12 fun t32 h13 =>
bareK (slT (get tT 0) none (some t32)) h13 fun t37 h14 =>
bareK (ixS 1 (get tT 6) (get tT 7)) h14 fun t38 h15 =>
quietK (st1 h15 t38 t37) fun _ h16 =>
bareK (slT (get tT 0) (some t32) none) h16 fun t41 h17 =>
k7 .normal [(0, t41), (1, (get tT 1)), (6, (get tT 6)), (7, (get tT 7))] h17) (seqK (fun tT_1 h18 =>
bareK (xbin P .add T.int (.tmp 26) (.const (.int .i64 1)) (get tT_1 7) (.int .i64 1)) h18 fun t27 h19 =>
k .normal [(0, (get tT_1 0)), (1, (get tT_1 1)), (6, (get tT_1 6)), (7, t27)] h19) (afterK [0, 1, 6, 7] k))) (afterK [0, 1, 6, 7] k))

theorem s_strings_explode_eq (M : CombL) (C : CallF) (LP : LoopH) (a0 : Value) (a1 : Value) (H : AHeap) : dBodyL M Tryd.prog hints C LP F.strings_explode [a0, a1] H = s_strings_explode M.b.g M.c M.s Tryd.prog C (fun v0 v1 v6 v7 H k => loopL M Tryd.prog hints C LP F.strings_explode 0 [(0, v0), (1, v1), (6, v6), (7, v7)] H k) a0 a1 H (endK Tryd.prog [.tmp 4]) := by kernel_rfl

theorem s_strings_explode_b0_eq (M : CombL) (C : CallF) (LP : LoopH) (v0 : Value) (v1 : Value) (v6 : Value) (v7 : Value) (H : AHeap) (k : K) : bodyL M Tryd.prog hints C LP F.strings_explode 0 [(0, v0), (1, v1), (6, v6), (7, v7)] H (afterK [0, 1, 6, 7] k) = s_strings_explode_b0 M.b.g M.c M.s Tryd.prog C (fun v0 v1 v6 v7 H k => loopL M Tryd.prog hints C LP F.strings_explode 0 [(0, v0), (1, v1), (6, v6), (7, v7)] H k) v0 v1 v6 v7 H k := by kernel_rfl

/-! strings.Count -/

noncomputable def s_strings_Count (mg : GT) (mc : CT) (ms : ST) (P : Program) (C : CallF) (L0 : Value → Value → Value → AHeap → K → Res) (a0 : Value) (a1 : Value) (H : AHeap) (K0 : K) : Res :=
bareK (lenT a1) H fun t8 h1 =>
bareK (xbin P .eql T.int (.tmp 8) (.const (.int .i64 0)) t8 (.int .i64 0)) h1 fun t9 h2 =>
mc t9 (fun k1 => enterK C F.unicode_utf8_RuneCountInString [a0] h2 fun t11 h3 =>
bareK (xbin P .add T.int (.tmp 11) (.const (.int .i64 1)) t11 (.int .i64 1)) h3 fun t12 h4 =>
k1 .ret [(4, t12)] h4) (fun k1 =>
k1 .normal [(0, a0), (1, a1)] h2) (seqK (fun tT h5 =>
bareK (lenT (get tT 1)) h5 fun t14 h6 =>
bareK (xbin P .eql T.int (.tmp 14) (.const (.int .i64 1)) t14 (.int .i64 1)) h6 fun t15 h7 =>
mc t15 (fun k2 => bareK (xindex P T.string (get tT 1) (.int .i64 0)) h7 fun t18 h8 =>
bareK (xext P Tryd.f69 [(get tT 0), t18] h8) h8 fun t19 h9 =>
k2 .ret [(4, t19)] h9) (fun k2 =>
k2 .normal [(0, (get tT 0)), (1, (get tT 1))] h7) (seqK (fun tT_1 h10 =>
ms (fun k3 =>
L0 (get tT_1 0) (get tT_1 1) (.int .i64 0) h10 (blkK [4] 0 k3)) K0) K0)) K0)

noncomputable def s_strings_Count_b0 (mg : GT) (mc : CT) (ms : ST) (P : Program) (C : CallF) (L0 : Value → Value → Value → AHeap → K → Res) (v0 : Value) (v1 : Value) (v5 : Value) (H : AHeap) (k : K) : Res :=
ms (fun k4 =>
enterK C F.strings_Index [v0, v1] H fun t22 h11 =>
bareK (xbin P .eql T.int (.tmp 23) (.const (.int .i64 (-1))) t22 (.int .i64 (-1))) h11 fun t24 h12 =>
mc t24 (fun k5 => k5 .ret [(4, v5)] h12) (fun k5 =>
k5 .normal [(0, v0), (1, v1), (5, v5), (6, t22)] h12) (seqK (fun tT h13 =>
bareK (xbin P .add T.int (.tmp 26) (.const (.int .i64 1)) (get tT 5) (.int .i64 1)) h13 fun t27 h14 =>
bareK (lenT (get tT 1)) h14 fun t31 h15 =>
bareK (xbin P .add T.int (.tmp 29) (.tmp 31) (get tT 6) t31) h15 fun t32 h16 =>
bareK (slT (get tT 0) (some t32) none) h16 fun t33 h17 =>
k4 .normal [(0, t33), (1, (get tT 1)), (5, t27)] h17) (blkK [0, 1, 5] 1 k4))) (afterK [0, 1, 5] k)

theorem s_strings_Count_eq (M : CombL) (C : CallF) (LP : LoopH) (a0 : Value) (a1 : Value) (H : AHeap) : dBodyL M Tryd.prog hints C LP F.strings_Count [a0, a1] H = s_strings_Count M.b.g M.c M.s Tryd.prog C (fun v0 v1 v5 H k => loopL M Tryd.prog hints C LP F.strings_Count 0 [(0, v0), (1, v1), (5, v5)] H k) a0 a1 H (endK Tryd.prog [.tmp 4]) := by kernel_rfl

theorem s_strings_Count_b0_eq (M : CombL) (C : CallF) (LP : LoopH) (v0 : Value) (v1 : Value) (v5 : Value) (H : AHeap) (k : K) : bodyL M Tryd.prog hints C LP F.strings_Count 0 [(0, v0), (1, v1), (5, v5)] H (afterK [0, 1, 5] k) = s_strings_Count_b0 M.b.g M.c M.s Tryd.prog C (fun v0 v1 v5 H k => loopL M Tryd.prog hints C LP F.strings_Count 0 [(0, v0), (1, v1), (5, v5)] H k) v0 v1 v5 H k := by kernel_rfl

/-! strings.Index -/

noncomputable def s_strings_Index (mg : GT) (mc : CT) (ms : ST) (P : Program) (C : CallF) (a0 : Value) (a1 : Value) (H : AHeap) (K0 : K) : Res :=
enterK C F.internal_stringslite_Index [a0, a1] H fun t7 h1 =>
K0 .ret [(4, t7)] h1

theorem s_strings_Index_eq (M : CombL) (C : CallF) (LP : LoopH) (a0 : Value) (a1 : Value) (H : AHeap) : dBodyL M Tryd.prog hints C LP F.strings_Index [a0, a1] H = s_strings_Index M.b.g M.c M.s Tryd.prog C a0 a1 H (endK Tryd.prog [.tmp 4]) := by kernel_rfl

/-! internal.strconv.ParseUint -/

noncomputable def s_internal_strconv_ParseUint (mg : GT) (mc : CT) (ms : ST) (P : Program) (C : CallF) (L0 : Value → Value → Value → Value → Value → Value → Value → Value → Value → Value → AHeap → K → Res) (a0 : Value) (a1 : Value) (a2 : Value) (H : AHeap) (K0 : K) : Res :=
bareK (xbin P .eql T.string (.tmp 18) (.const (.string (mk []))) a0 (.string (mk []))) H fun t19 h1 =>
mc t19 (fun k1 => k1 .ret [(6, (.int .u64 0)), (7, (.iface T.internal_strconv_Error (.int .i64 2)))] h1) (fun k1 =>
k1 .normal [(0, a0), (1, a1), (2, a2)] h1) (seqK (fun tT h2 =>
bareK (xbin P .eql T.int (.tmp 21) (.const (.int .i64 0)) (get tT 1) (.int .i64 0)) h2 fun t22 h3 =>
ms (fun k2 =>
bareK (xbin P .leq T.int (.const (.int .i64 2)) (.tmp 26) (.int .i64 2) (get tT 1)) h3 fun t27 h4 =>
mg t27 true (fun o3 => o3 (get tT 1) h4) h4 fun t29 h5 =>
mg t27 true (fun o4 => bareK (xbin P .leq T.int (.tmp 29) (.const (.int .i64 36)) t29 (.int .i64 36)) h5 o4) h5 fun t30 h6 =>
pickK t27 t30 (.bool false) fun t31 =>
mc t31 (fun k5 => k5 .normal [(0, (get tT 0)), (1, (get tT 1)), (2, (get tT 2)), (8, t22), (9, (get tT 0))] h6) (fun k5 =>
bareK (xbin P .eql T.int (.tmp 33) (.const (.int .i64 0)) (get tT 1) (.int .i64 0)) h6 fun t34 h7 =>
mc t34 (fun k6 => bareK (xindex P T.string (get tT 0) (.int .i64 0)) h7 fun t36 h8 =>
bareK (xbin P .eql T.uint8 (.tmp 36) (.const (.int .u8 48)) t36 (.int .u8 48)) h8 fun t37 h9 =>
mc t37 (fun k7 => ms (fun k8 =>
bareK (lenT (get tT 0)) h9 fun t42 h10 =>
bareK (xbin P .geq T.int (.tmp 42) (.const (.int .i64 3)) t42 (.int .i64 3)) h10 fun t43 h11 =>
mg t43 true (fun o9 => o9 (get tT 0) h11) h11 fun t45 h12 =>
mg t43 true (fun o10 => bareK (xindex P T.string t45 (.int .i64 1)) h12 o10) h12 fun t46 h13 =>
mg t43 true (fun o11 => enterK C F.internal_strconv_lower [t46] h13 o11) h13 fun t47 h14 =>
mg t43 true (fun o12 => bareK (xbin P .eql T.uint8 (.tmp 47) (.const (.int .u8 98)) t47 (.int .u8 98)) h14 o12) h14 fun t48 h15 =>
pickK t43 t48 (.bool false) fun t49 =>
mc t49 (fun k13 => bareK (slT (get tT 0) (some (.int .i64 2)) none) h15 fun t51 h16 =>
k13 .normal [(0, t51), (1, (.int .i64 2)), (2, (get tT 2)), (8, t22), (9, (get tT 0))] h16) (fun k13 =>
bareK (lenT (get tT 0)) h15 fun t54 h17 =>
bareK (xbin P .geq T.int (.tmp 54) (.const (.int .i64 3)) t54 (.int .i64 3)) h17 fun t55 h18 =>
mg t55 true (fun o14 => o14 (get tT 0) h18) h18 fun t57 h19 =>
mg t55 true (fun o15 => bareK (xindex P T.string t57 (.int .i64 1)) h19 o15) h19 fun t58 h20 =>
mg t55 true (fun o16 => enterK C F.internal_strconv_lower [t58] h20 o16) h20 fun t59 h21 =>
mg t55 true (fun o17 => bareK (xbin P .eql T.uint8 (.tmp 59) (.const (.int .u8 111)) t59 (.int .u8 111)) h21 o17) h21 fun t60 h22 =>
pickK t55 t60 (.bool false) fun t61 =>
mc t61 (fun k18 => bareK (slT (get tT 0) (some (.int .i64 2)) none) h22 fun t63 h23 =>
k18 .normal [(0, t63), (1, (.int .i64 8)), (2, (get tT 2)), (8, t22), (9, (get tT 0))] h23) (fun k18 =>
bareK (lenT (get tT 0)) h22 fun t66 h24 =>
bareK (xbin P .geq T.int (.tmp 66) (.const (.int .i64 3)) t66 (.int .i64 3)) h24 fun t67 h25 =>
mg t67 true (fun o19 => o19 (get tT 0) h25) h25 fun t69 h26 =>
mg t67 true (fun o20 => bareK (xindex P T.string t69 (.int .i64 1)) h26 o20) h26 fun t70 h27 =>
mg t67 true (fun o21 => enterK C F.internal_strconv_lower [t70] h27 o21) h27 fun t71 h28 =>
mg t67 true (fun o22 => bareK (xbin P .eql T.uint8 (.tmp 71) (.const (.int .u8 120)) t71 (.int .u8 120)) h28 o22) h28 fun t72 h29 =>
pickK t67 t72 (.bool false) fun t73 =>
mc t73 (fun k23 => bareK (slT (get tT 0) (some (.int .i64 2)) none) h29 fun t75 h30 =>
k23 .normal [(0, t75), (1, (.int .i64 16)), (2, (get tT 2)), (8, t22), (9, (get tT 0))] h30) (fun k23 =>
bareK (slT (get tT 0) (some (.int .i64 1)) none) h29 fun t39 h31 =>
k23 .normal [(0, t39), (1, (.int .i64 8)), (2, (get tT 2)), (8, t22), (9, (get tT 0))] h31) (afterK [0, 1, 2, 8, 9] k18)) (afterK [0, 1, 2, 8, 9] k13)) (blkK [0, 1, 2, 8, 9] 1 k8)) (afterK [0, 1, 2, 8, 9] k7)) (fun k7 =>
k7 .normal [(0, (get tT 0)), (1, (.int .i64 10)), (2, (get tT 2)), (8, t22), (9, (get tT 0))] h9) (afterK [0, 1, 2, 8, 9] k6)) (fun k6 =>
k6 .ret [(6, (.int .u64 0)), (7, (.iface T.internal_strconv_Error (.int .i64 3)))] h7) (afterK [0, 1, 2, 8, 9] k5)) (blkK [0, 1, 2, 8, 9] 0 k2)) (seqK (fun tT_1 h32 =>
bareK (xbin P .eql T.int (.tmp 76) (.const (.int .i64 0)) (get tT_1 2) (.int .i64 0)) h32 fun t77 h33 =>
mc t77 (fun k24 => k24 .normal [(0, (get tT_1 0)), (1, (get tT_1 1)), (2, (.int .i64 64)), (8, (get tT_1 8)), (9, (get tT_1 9))] h33) (fun k24 =>
bareK (xbin P .lss T.int (.tmp 78) (.const (.int .i64 0)) (get tT_1 2) (.int .i64 0)) h33 fun t79 h34 =>
mg t79 false (fun o25 => o25 (get tT_1 2) h34) h34 fun t81 h35 =>
mg t79 false (fun o26 => bareK (xbin P .gtr T.int (.tmp 81) (.const (.int .i64 64)) t81 (.int .i64 64)) h35 o26) h35 fun t82 h36 =>
pickK t79 (.bool true) t82 fun t83 =>
mc t83 (fun k27 => k27 .ret [(6, (.int .u64 0)), (7, (.iface T.internal_strconv_Error (.int .i64 4)))] h36) (fun k27 =>
k27 .normal [(0, (get tT_1 0)), (1, (get tT_1 1)), (2, (get tT_1 2)), (8, (get tT_1 8)), (9, (get tT_1 9))] h36) (afterK [0, 1, 2, 8, 9] k24)) (seqK (fun tT_2 h37 =>
ms (fun k28 =>
bareK (xbin P .eql T.int (.tmp 85) (.const (.int .i64 10)) (get tT_2 1) (.int .i64 10)) h37 fun t91 h38 =>
mc t91 (fun k29 => k29 .normal [(0, (get tT_2 0)), (1, (get tT_2 1)), (2, (get tT_2 2)), (8, (get tT_2 8)), (9, (get tT_2 9)), (10, (.int .u64 1844674407370955162))] h38) (fun k29 =>
bareK (xbin P .eql T.int (.tmp 85) (.const (.int .i64 16)) (get tT_2 1) (.int .i64 16)) h38 fun t93 h39 =>
mc t93 (fun k30 => k30 .normal [(0, (get tT_2 0)), (1, (get tT_2 1)), (2, (get tT_2 2)), (8, (get tT_2 8)), (9, (get tT_2 9)), (10, (.int .u64 1152921504606846976))] h39) (fun k30 =>
bothK (xconv P T.int T.uint64 (get tT_2 1) h39) fun t87 h40 =>
bareK (xbin P .quo T.uint64 (.const (.int .u64 18446744073709551615)) (.tmp 87) (.int .u64 18446744073709551615) t87) h40 fun t88 h41 =>
bareK (xbin P .add T.uint64 (.tmp 88) (.const (.int .u64 1)) t88 (.int .u64 1)) h41 fun t89 h42 =>
k30 .normal [(0, (get tT_2 0)), (1, (get tT_2 1)), (2, (get tT_2 2)), (8, (get tT_2 8)), (9, (get tT_2 9)), (10, t89)] h42) (afterK [0, 1, 2, 8, 9, 10] k29)) (blkK [0, 1, 2, 8, 9, 10] 2 k28)) (seqK (fun tT_3 h43 =>
bothK (xconv P T.int T.uint (get tT_3 2) h43) fun t95 h44 =>
bareK (xbin P .shl T.uint64 (.const (.int .u64 1)) (.tmp 95) (.int .u64 1) t95) h44 fun t96 h45 =>
bareK (xbin P .sub T.uint64 (.tmp 96) (.const (.int .u64 1)) t96 (.int .u64 1)) h45 fun t97 h46 =>
bothK (xconv P T.string T.sl_uint8 (get tT_3 0) h46) fun t99 h47 =>
bareK (lenS t99) h47 fun t100 h48 =>
ms (fun k31 =>
L0 (get tT_3 1) (get tT_3 8) (get tT_3 9) (get tT_3 10) t97 (.bool false) (.int .u64 0) t99 t100 (.int .i64 0) h48 (blkK [9, 12, 13] 3 k31)) (seqK (fun tT_4 h49 =>
mg (get tT_4 12) true (fun o32 => o32 (get tT_4 9) h49) h49 fun t166 h50 =>
mg (get tT_4 12) true (fun o33 => enterK C F.internal_strconv_underscoreOK [t166] h50 o33) h50 fun t167 h51 =>
mg (get tT_4 12) true (fun o34 => bareK (xun P .not t167) h51 o34) h51 fun t168 h52 =>
pickK (get tT_4 12) t168 (.bool false) fun t169 =>
mc t169 (fun k35 => k35 .ret [(6, (.int .u64 0)), (7, (.iface T.internal_strconv_Error (.int .i64 2)))] h52) (fun k35 =>
k35 .normal [(13, (get tT_4 13))] h52) (seqK (fun tT_5 h53 =>
K0 .ret [(6, (get tT_5 13)), (7, .nilIface)] h53) K0)) K0)) K0)) K0)) K0)) K0)

noncomputable def s_internal_strconv_ParseUint_b0 (mg : GT) (mc : CT) (ms : ST) (P : Program) (C : CallF) (L0 : Value → Value → Value → Value → Value → Value → Value → Value → Value → Value → AHeap → K → Res) (v1 : Value) (v8 : Value) (v9 : Value) (v10 : Value) (v11 : Value) (v12 : Value) (v13 : Value) (v99 : Value) (v100 : Value) (v101 : Value) (H : AHeap) (k : K) : Res :=
bareK (xbin P .lss T.int (.tmp 101) (.tmp 100) v101 v100) H fun t102 h49 =>
mc t102 (fun k32 => k32 .normal [(1, v1), (8, v8), (9, v9), (10, v10), (11, v11), (12, v12), (13, v13), (99, v99), (100, v100), (101, v101)] h49) (fun k32 =>
k32 (.exit 3) [(102, t102), (1, v1), (8, v8), (9, v9), (10, v10), (11, v11), (12, v12), (13, v13), (99, v99), (100, v100), (101, v101)] h49) (seqK (fun tT h50 =>
ms (fun k33 =>
bareK (ixS 1 (get tT 99) (get tT 101)) h50 fun t103 h51 =>
bareK (ld1 h51 t103) h51 fun t104 h52 =>
ms (fun k34 =>
bareK (xbin P .eql T.uint8 (.tmp 107) (.const (.int .u8 95)) t104 (.int .u8 95)) h52 fun t108 h53 =>
mg t108 true (fun o35 => o35 (get tT 8) h53) h53 fun t110 h54 =>
pickK t108 t110 (.bool false) fun t111 =>
mc t111 (fun k36 => k36 (.exit 4) ((12, (.bool true)) :: (106, t111) :: (111, t111) :: (110, t110) :: (109, t108) :: (108, t108) :: (107, t104) :: (16, (.int .u8 0)) :: (15, t104) :: (104, t104) :: (103, t103) :: tT) h54) (fun k36 =>
bareK (xbin P .leq T.uint8 (.const (.int .u8 48)) (.tmp 113) (.int .u8 48) t104) h54 fun t114 h55 =>
mg t114 true (fun o37 => o37 t104 h55) h55 fun t116 h56 =>
mg t114 true (fun o38 => bareK (xbin P .leq T.uint8 (.tmp 116) (.const (.int .u8 57)) t116 (.int .u8 57)) h56 o38) h56 fun t117 h57 =>
pickK t114 t117 (.bool false) fun t118 =>
mc t118 (fun k39 => bareK (xbin P .sub T.uint8 (.tmp 119) (.const (.int .u8 48)) t104 (.int .u8 48)) h57 fun t120 h58 =>
k39 .normal [(1, (get tT 1)), (8, (get tT 8)), (9, (get tT 9)), (10, (get tT 10)), (11, (get tT 11)), (12, (get tT 12)), (13, (get tT 13)), (16, t120), (99, (get tT 99)), (100, (get tT 100)), (101, (get tT 101))] h58) (fun k39 =>
enterK C F.internal_strconv_lower [t104] h57 fun t123 h59 =>
bareK (xbin P .leq T.uint8 (.const (.int .u8 97)) (.tmp 123) (.int .u8 97) t123) h59 fun t124 h60 =>
mg t124 true (fun o40 => o40 t104 h60) h60 fun t126 h61 =>
mg t124 true (fun o41 => enterK C F.internal_strconv_lower [t126] h61 o41) h61 fun t127 h62 =>
mg t124 true (fun o42 => bareK (xbin P .leq T.uint8 (.tmp 127) (.const (.int .u8 122)) t127 (.int .u8 122)) h62 o42) h62 fun t128 h63 =>
pickK t124 t128 (.bool false) fun t129 =>
mc t129 (fun k43 => enterK C F.internal_strconv_lower [t104] h63 fun t131 h64 =>
bareK (xbin P .sub T.uint8 (.tmp 131) (.const (.int .u8 97)) t131 (.int .u8 97)) h64 fun t132 h65 =>
bareK (xbin P .add T.uint8 (.tmp 132) (.const (.int .u8 10)) t132 (.int .u8 10)) h65 fun t133 h66 =>
k43 .normal [(1, (get tT 1)), (8, (get tT 8)), (9, (get tT 9)), (10, (get tT 10)), (11, (get tT 11)), (12, (get tT 12)), (13, (get tT 13)), (16, t133), (99, (get tT 99)), (100, (get tT 100)), (101, (get tT 101))] h66) (fun k43 =>
k43 .ret [(6, (.int .u64 0)), (7, (.iface T.internal_strconv_Error (.int .i64 2)))] h63) (afterK [1, 8, 9, 10, 11, 12, 13, 16, 99, 100, 101] k39)) (afterK [1, 8, 9, 10, 11, 12, 13, 16, 99, 100, 101] k36)) (blkK [1, 8, 9, 10, 11, 12, 13, 16, 99, 100, 101] 5 k34)) (seqK (fun tT_1 h67 =>
bothK (xconv P T.int T.uint8 (get tT_1 1) h67) fun t136 h68 =>
bareK (xbin P .geq T.uint8 (.tmp 134) (.tmp 136) (get tT_1 16) t136) h68 fun t137 h69 =>
mc t137 (fun k44 => k44 .ret [(6, (.int .u64 0)), (7, (.iface T.internal_strconv_Error (.int .i64 2)))] h69) (fun k44 =>
k44 .normal [(1, (get tT_1 1)), (8, (get tT_1 8)), (9, (get tT_1 9)), (10, (get tT_1 10)), (11, (get tT_1 11)), (12, (get tT_1 12)), (13, (get tT_1 13)), (16, (get tT_1 16)), (99, (get tT_1 99)), (100, (get tT_1 100)), (101, (get tT_1 101))] h69) (seqK (fun tT_2 h70 =>
bareK (xbin P .geq T.uint64 (.tmp 139) (.tmp 140) (get tT_2 13) (get tT_2 10)) h70 fun t141 h71 =>
mc t141 (fun k45 => k45 .ret [(6, (get tT_2 11)), (7, (.iface T.internal_strconv_Error (.int .i64 1)))] h71) (fun k45 =>
k45 .normal [(1, (get tT_2 1)), (8, (get tT_2 8)), (9, (get tT_2 9)), (10, (get tT_2 10)), (11, (get tT_2 11)), (12, (get tT_2 12)), (13, (get tT_2 13)), (16, (get tT_2 16)), (99, (get tT_2 99)), (100, (get tT_2 100)), (101, (get tT_2 101))] h71) (seqK (fun tT_3 h72 =>
bothK (xconv P T.int T.uint64 (get tT_3 1) h72) fun t146 h73 =>
bareK (xbin P .mul T.uint64 (.tmp 144) (.tmp 146) (get tT_3 13) t146) h73 fun t147 h74 =>
bothK (xconv P T.uint8 T.uint64 (get tT_3 16) h74) fun t150 h75 =>
bareK (xbin P .add T.uint64 (.tmp 148) (.tmp 150) t147 t150) h75 fun t151 h76 =>
bareK (xbin P .lss T.uint64 (.tmp 152) (.tmp 153) t151 t147) h76 fun t154 h77 =>
mg t154 false (fun o46 => o46 t151 h77) h77 fun t156 h78 =>
mg t154 false (fun o47 => o47 (get tT_3 11) h78) h78 fun t157 h79 =>
mg t154 false (fun o48 => bareK (xbin P .gtr T.uint64 (.tmp 156) (.tmp 157) t156 t157) h79 o48) h79 fun t158 h80 =>
pickK t154 (.bool true) t158 fun t159 =>
mc t159 (fun k49 => k49 .ret [(6, (get tT_3 11)), (7, (.iface T.internal_strconv_Error (.int .i64 1)))] h80) (fun k49 =>
k49 .normal [(1, (get tT_3 1)), (8, (get tT_3 8)), (9, (get tT_3 9)), (10, (get tT_3 10)), (11, (get tT_3 11)), (12, (get tT_3 12)), (17, t151), (99, (get tT_3 99)), (100, (get tT_3 100)), (101, (get tT_3 101))] h80) (seqK (fun tT_4 h81 =>
k33 .normal [(1, (get tT_4 1)), (8, (get tT_4 8)), (9, (get tT_4 9)), (10, (get tT_4 10)), (11, (get tT_4 11)), (12, (get tT_4 12)), (13, (get tT_4 17)), (99, (get tT_4 99)), (100, (get tT_4 100)), (101, (get tT_4 101))] h81) (blkK [1, 8, 9, 10, 11, 12, 13, 99, 100, 101] 4 k33))) (blkK [1, 8, 9, 10, 11, 12, 13, 99, 100, 101] 4 k33))) (blkK [1, 8, 9, 10, 11, 12, 13, 99, 100, 101] 4 k33))) (blkK [1, 8, 9, 10, 11, 12, 13, 99, 100, 101] 4 k33))) (seqK (fun tT_5 h82 =>
bareK (xbin P .add T.int (.tmp 101) (.const (.int .i64 1)) (get tT_5 101) (.int .i64 1)) h82 fun t163 h83 =>
k .normal [(1, (get tT_5 1)), (8, (get tT_5 8)), (9, (get tT_5 9)), (10, (get tT_5 10)), (11, (get tT_5 11)), (12, (get tT_5 12)), (13, (get tT_5 13)), (99, (get tT_5 99)), (100, (get tT_5 100)), (101, t163)] h83) (afterK [1, 8, 9, 10, 11, 12, 13, 99, 100, 101] k))) (afterK [1, 8, 9, 10, 11, 12, 13, 99, 100, 101] k))

theorem s_internal_strconv_ParseUint_eq (M : CombL) (C : CallF) (LP : LoopH) (a0 : Value) (a1 : Value) (a2 : Value) (H : AHeap) : dBodyL M Tryd.prog hints C LP F.internal_strconv_ParseUint [a0, a1, a2] H = s_internal_strconv_ParseUint M.b.g M.c M.s Tryd.prog C (fun v1 v8 v9 v10 v11 v12 v13 v99 v100 v101 H k => loopL M Tryd.prog hints C LP F.internal_strconv_ParseUint 0 [(1, v1), (8, v8), (9, v9), (10, v10), (11, v11), (12, v12), (13, v13), (99, v99), (100, v100), (101, v101)] H k) a0 a1 a2 H (endK Tryd.prog [.tmp 6, .tmp 7]) := by kernel_rfl

theorem s_internal_strconv_ParseUint_b0_eq (M : CombL) (C : CallF) (LP : LoopH) (v1 : Value) (v8 : Value) (v9 : Value) (v10 : Value) (v11 : Value) (v12 : Value) (v13 : Value) (v99 : Value) (v100 : Value) (v101 : Value) (H : AHeap) (k : K) : bodyL M Tryd.prog hints C LP F.internal_strconv_ParseUint 0 [(1, v1), (8, v8), (9, v9), (10, v10), (11, v11), (12, v12), (13, v13), (99, v99), (100, v100), (101, v101)] H (afterK [1, 8, 9, 10, 11, 12, 13, 99, 100, 101] k) = s_internal_strconv_ParseUint_b0 M.b.g M.c M.s Tryd.prog C (fun v1 v8 v9 v10 v11 v12 v13 v99 v100 v101 H k => loopL M Tryd.prog hints C LP F.internal_strconv_ParseUint 0 [(1, v1), (8, v8), (9, v9), (10, v10), (11, v11), (12, v12), (13, v13), (99, v99), (100, v100), (101, v101)] H k) v1 v8 v9 v10 v11 v12 v13 v99 v100 v101 H k := by kernel_rfl

/-! strconv.toError -/

noncomputable def s_strconv_toError (mg : GT) (mc : CT) (ms : ST) (P : Program) (C : CallF) (a0 : Value) (a1 : Value) (a2 : Value) (a3 : Value) (a4 : Value) (H : AHeap) (K0 : K) : Res :=
ms (fun k1 =>
bareK (xbin P .eql T.error (.tmp 11) (.tmp 13) a4 (.iface T.internal_strconv_Error (.int .i64 2))) H fun t14 h1 =>
mc t14 (fun k2 => enterK C F.strconv_syntaxError [a0, a1] h1 fun t17 h2 =>
k2 .ret [(10, (.iface T.p_strconv_NumError t17))] h2) (fun k2 =>
bareK (xbin P .eql T.error (.tmp 11) (.tmp 20) a4 (.iface T.internal_strconv_Error (.int .i64 1))) h1 fun t21 h3 =>
mc t21 (fun k3 => enterK C F.strconv_rangeError [a0, a1] h3 fun t24 h4 =>
k3 .ret [(10, (.iface T.p_strconv_NumError t24))] h4) (fun k3 =>
bareK (xbin P .eql T.error (.tmp 11) (.tmp 27) a4 (.iface T.internal_strconv_Error (.int .i64 3))) h3 fun t28 h5 =>
mc t28 (fun k4 => enterK C F.strconv_baseError [a0, a1, a2] h5 fun t32 h6 =>
k4 .ret [(10, (.iface T.p_strconv_NumError t32))] h6) (fun k4 =>
bareK (xbin P .eql T.error (.tmp 11) (.tmp 35) a4 (.iface T.internal_strconv_Error (.int .i64 4))) h5 fun t36 h7 =>
mc t36 (fun k5 => enterK C F.strconv_bitSizeError [a0, a1, a3] h7 fun t40 h8 =>
k5 .ret [(10, (.iface T.p_strconv_NumError t40))] h8) (fun k5 =>
k5 .normal [(4, a4)] h7) (afterK [4] k4)) (afterK [4] k3)) (afterK [4] k2)) (blkK [4] 0 k1)) (seqK (fun tT h9 =>
K0 .ret [(10, (get tT 4))] h9) K0)

theorem s_strconv_toError_eq (M : CombL) (C : CallF) (LP : LoopH) (a0 : Value) (a1 : Value) (a2 : Value) (a3 : Value) (a4 : Value) (H : AHeap) : dBodyL M Tryd.prog hints C LP F.strconv_toError [a0, a1, a2, a3, a4] H = s_strconv_toError M.b.g M.c M.s Tryd.prog C a0 a1 a2 a3 a4 H (endK Tryd.prog [.tmp 10]) := by kernel_rfl

/-! (*strings.Builder).WriteByte -/

noncomputable def s_strings_Builder_WriteByte (mg : GT) (mc : CT) (ms : ST) (P : Program) (C : CallF) (a0 : Value) (a1 : Value) (H : AHeap) (K0 : K) : Res :=
enterK C F.strings_Builder_copyCheck [a0] H fun t6 h1 =>
bareK (xnilCheck a0) h1 fun t9 h2 =>
bareK (fad 1 t9) h2 fun t10 h3 =>
bareK (ld1 h3 t10) h3 fun t11 h4 =>
bothK (bldL T.uint8 [(.int .u8 0)] 1 [(0, a1)] h4) fun t13 h5 =>
bothK (app T.uint8 1 1 t11 (srcS 1 t13 h5) h5) fun t14 h6 =>
bareK (xnilCheck a0) h6 fun t15 h7 =>
bareK (fad 1 t15) h7 fun t16 h8 =>
quietK (st1 h8 t16 t14) fun _ h9 =>
K0 .ret [(4, .nilIface)] h9

theorem s_strings_Builder_WriteByte_eq (M : CombL) (C : CallF) (LP : LoopH) (a0 : Value) (a1 : Value) (H : AHeap) : dBodyL M Tryd.prog hints C LP F.strings_Builder_WriteByte [a0, a1] H = s_strings_Builder_WriteByte M.b.g M.c M.s Tryd.prog C a0 a1 H (endK Tryd.prog [.tmp 4]) := by kernel_rfl

/-! (*strings.Builder).String -/

noncomputable def s_strings_Builder_String (mg : GT) (mc : CT) (ms : ST) (P : Program) (C : CallF) (a0 : Value) (H : AHeap) (K0 : K) : Res :=
bareK (xnilCheck a0) H fun t4 h1 =>
bareK (fad 1 t4) h1 fun t5 h2 =>
bareK (ld1 h2 t5) h2 fun t6 h3 =>
nextK C h3 (xbuiltin P .unsafeSliceData [T.sl_uint8] [t6] h3) fun t7 h4 =>
bareK (xnilCheck a0) h4 fun t9 h5 =>
bareK (fad 1 t9) h5 fun t10 h6 =>
bareK (ld1 h6 t10) h6 fun t11 h7 =>
bareK (lenS t11) h7 fun t12 h8 =>
nextK C h8 (xbuiltin P .unsafeString [T.p_uint8, T.int] [t7, t12] h8) fun t13 h9 =>
checkK (okV (some true) none h3 h4 h4 h4 && (okV (some true) none h3 h4 h4 h5 && (okV (some true) none h3 h4 h5 h6 && (okV (some true) (blockOf t10) h3 h4 h6 h7 && (okV (some true) none h3 h4 h7 h8 && true))))) <|
K0 .ret [(2, t13)] h9

theorem s_strings_Builder_String_eq (M : CombL) (C : CallF) (LP : LoopH) (a0 : Value) (H : AHeap) : dBodyL M Tryd.prog hints C LP F.strings_Builder_String [a0] H = s_strings_Builder_String M.b.g M.c M.s Tryd.prog C a0 H (endK Tryd.prog [.tmp 2]) := by kernel_rfl

/-! slices.rotateLeft[ticketline.api.Pair] -/

noncomputable def s_slices_rotateLeft_Pair (mg : GT) (mc : CT) (ms : ST) (P : Program) (C : CallF) (a0 : Value) (a1 : Value) (H : AHeap) (K0 : K) : Res :=
bareK (slS T.api_Pair 2 a0 none (some a1) none H) H fun t6 h1 =>
enterK C F.slices_Reverse_Pair [t6] h1 fun t7 h2 =>
bareK (slS T.api_Pair 2 a0 (some a1) none none h2) h2 fun t10 h3 =>
enterK C F.slices_Reverse_Pair [t10] h3 fun t11 h4 =>
enterK C F.slices_Reverse_Pair [a0] h4 fun t13 h5 =>
K0 .normal [(13, t13), (12, a0), (11, t11), (10, t10), (9, a1), (8, a0), (7, t7), (6, t6), (5, a1), (4, a0), (0, a0), (1, a1)] h5

theorem s_slices_rotateLeft_Pair_eq (M : CombL) (C : CallF) (LP : LoopH) (a0 : Value) (a1 : Value) (H : AHeap) : dBodyL M Tryd.prog hints C LP F.slices_rotateLeft_Pair [a0, a1] H = s_slices_rotateLeft_Pair M.b.g M.c M.s Tryd.prog C a0 a1 H (endK Tryd.prog []) := by kernel_rfl

/-! unicode.utf8.RuneCountInString -/

noncomputable def s_unicode_utf8_RuneCountInString (mg : GT) (mc : CT) (ms : ST) (P : Program) (C : CallF) (L0 : Value → Value → AHeap → K → Res) (a0 : Value) (H : AHeap) (K0 : K) : Res :=
bareK (none) H fun t4 h1 =>
ms (fun k1 =>
L0 (.int .i64 0) t4 h1 (blkK [2] 0 k1)) (seqK (fun tT h2 =>
K0 .ret [(2, (get tT 2))] h2) K0)

noncomputable def s_unicode_utf8_RuneCountInString_b0 (mg : GT) (mc : CT) (ms : ST) (P : Program) (C : CallF) (L0 : Value → Value → AHeap → K → Res) (v2 : Value) (v4 : Value) (H : AHeap) (k : K) : Res :=
bareK (none) H fun t5 h2 =>
bareK (xextract t5 0) h2 fun t6 h3 =>
mc t6 (fun k2 => k2 .normal [(2, v2), (4, v4)] h3) (fun k2 =>
k2 (.exit 0) [(6, t6), (5, t5), (2, v2), (4, v4)] h3) (seqK (fun tT h4 =>
ms (fun k3 =>
bareK (xbin P .add T.int (.tmp 7) (.const (.int .i64 1)) (get tT 2) (.int .i64 1)) h4 fun t8 h5 =>
k3 .normal [(2, t8), (4, (get tT 4))] h5) (afterK [2, 4] k)) (afterK [2, 4] k))

theorem s_unicode_utf8_RuneCountInString_eq (M : CombL) (C : CallF) (LP : LoopH) (a0 : Value) (H : AHeap) : dBodyL M Tryd.prog hints C LP F.unicode_utf8_RuneCountInString [a0] H = s_unicode_utf8_RuneCountInString M.b.g M.c M.s Tryd.prog C (fun v2 v4 H k => loopL M Tryd.prog hints C LP F.unicode_utf8_RuneCountInString 0 [(2, v2), (4, v4)] H k) a0 H (endK Tryd.prog [.tmp 2]) := by kernel_rfl

theorem s_unicode_utf8_RuneCountInString_b0_eq (M : CombL) (C : CallF) (LP : LoopH) (v2 : Value) (v4 : Value) (H : AHeap) (k : K) : bodyL M Tryd.prog hints C LP F.unicode_utf8_RuneCountInString 0 [(2, v2), (4, v4)] H (afterK [2, 4] k) = s_unicode_utf8_RuneCountInString_b0 M.b.g M.c M.s Tryd.prog C (fun v2 v4 H k => loopL M Tryd.prog hints C LP F.unicode_utf8_RuneCountInString 0 [(2, v2), (4, v4)] H k) v2 v4 H k := by kernel_rfl

/-! unicode.utf8.DecodeRuneInString -/

noncomputable def s_unicode_utf8_DecodeRuneInString (mg : GT) (mc : CT) (ms : ST) (P : Program) (C : CallF) (a0 : Value) (H : AHeap) (K0 : K) : Res :=
bareK (xbin P .neq T.string (.tmp 4) (.const (.string (mk []))) a0 (.string (mk []))) H fun t5 h1 =>
mg t5 true (fun o1 => o1 a0 h1) h1 fun t7 h2 =>
mg t5 true (fun o2 => bareK (xindex P T.string t7 (.int .i64 0)) h2 o2) h2 fun t8 h3 =>
mg t5 true (fun o3 => bareK (xbin P .lss T.uint8 (.tmp 8) (.const (.int .u8 128)) t8 (.int .u8 128)) h3 o3) h3 fun t9 h4 =>
pickK t5 t9 (.bool false) fun t10 =>
mc t10 (fun k4 => bareK (xindex P T.string a0 (.int .i64 0)) h4 fun t12 h5 =>
bothK (xconv P T.uint8 T.int32 t12 h5) fun t13 h6 =>
k4 .ret [(2, t13), (3, (.int .i64 1))] h6) (fun k4 =>
enterK C F.unicode_utf8_decodeRuneInStringSlow [a0] h4 fun t16 h7 =>
bareK (xextract t16 0) h7 fun t17 h8 =>
bareK (xextract t16 1) h8 fun t18 h9 =>
k4 .normal [(2, t17), (3, t18)] h9) (seqK (fun tT h10 =>
K0 .ret [(2, (get tT 2)), (3, (get tT 3))] h10) K0)

theorem s_unicode_utf8_DecodeRuneInString_eq (M : CombL) (C : CallF) (LP : LoopH) (a0 : Value) (H : AHeap) : dBodyL M Tryd.prog hints C LP F.unicode_utf8_DecodeRuneInString [a0] H = s_unicode_utf8_DecodeRuneInString M.b.g M.c M.s Tryd.prog C a0 H (endK Tryd.prog [.tmp 2, .tmp 3]) := by kernel_rfl

/-! internal.stringslite.Index -/

noncomputable def s_internal_stringslite_Index (mg : GT) (mc : CT) (ms : ST) (P : Program) (C : CallF) (L0 : Value → Value → Value → Value → Value → Value → Value → Value → AHeap → K → Res) (a0 : Value) (a1 : Value) (H : AHeap) (K0 : K) : Res :=
bareK (lenT a1) H fun t15 h1 =>
ms (fun k1 =>
bareK (xbin P .eql T.int (.tmp 17) (.const (.int .i64 0)) t15 (.int .i64 0)) h1 fun t18 h2 =>
mg t18 false (fun o2 => o2 a1 h2) h2 fun t20 h3 =>
mg t18 false (fun o3 => o3 a0 h3) h3 fun t21 h4 =>
mg t18 false (fun o4 => bareK (xbin P .eql T.string (.tmp 20) (.tmp 21) t20 t21) h4 o4) h4 fun t22 h5 =>
pickK t18 (.bool true) t22 fun t23 =>
mc t23 (fun k5 => k5 .ret [(4, (.int .i64 0))] h5) (fun k5 =>
bareK (xbin P .eql T.int (.tmp 25) (.const (.int .i64 1)) t15 (.int .i64 1)) h5 fun t26 h6 =>
mc t26 (fun k6 => bareK (xindex P T.string a1 (.int .i64 0)) h6 fun t29 h7 =>
enterK C F.internal_stringslite_IndexByte [a0, t29] h7 fun t30 h8 =>
k6 .ret [(4, t30)] h8) (fun k6 =>
bareK (lenT a0) h6 fun t34 h9 =>
bareK (xbin P .geq T.int (.tmp 32) (.tmp 34) t15 t34) h9 fun t35 h10 =>
mc t35 (fun k7 => k7 .ret [(4, (.int .i64 (-1)))] h10) (fun k7 =>
bareK (ld1 h10 top) h10 fun t38 h11 =>
bareK (xbin P .leq T.int (.tmp 37) (.tmp 38) t15 t38) h11 fun t39 h12 =>
mg t39 true (fun o8 => o8 a0 h12) h12 fun t41 h13 =>
mg t39 true (fun o9 => bareK (lenT t41) h13 o9) h13 fun t42 h14 =>
mg t39 true (fun o10 => bareK (xbin P .leq T.int (.tmp 42) (.const (.int .i64 64)) t42 (.int .i64 64)) h14 o10) h14 fun t43 h15 =>
pickK t39 t43 (.bool false) fun t44 =>
mc t44 (fun k11 => bareK (xext P Tryd.f81 [a0, a1] h15) h15 fun t47 h16 =>
k11 .ret [(4, t47)] h16) (fun k11 =>
k11 .normal [(0, a0), (1, a1), (5, t15)] h15) (afterK [0, 1, 5] k7)) (afterK [0, 1, 5] k6)) (afterK [0, 1, 5] k5)) (blkK [0, 1, 5] 0 k1)) (seqK (fun tT h17 =>
bareK (xindex P T.string (get tT 1) (.int .i64 0)) h17 fun t49 h18 =>
bareK (xindex P T.string (get tT 1) (.int .i64 1)) h18 fun t51 h19 =>
bareK (lenT (get tT 0)) h19 fun t53 h20 =>
bareK (xbin P .sub T.int (.tmp 53) (.tmp 54) t53 (get tT 5)) h20 fun t55 h21 =>
bareK (xbin P .add T.int (.tmp 55) (.const (.int .i64 1)) t55 (.int .i64 1)) h21 fun t56 h22 =>
ms (fun k12 =>
L0 (get tT 0) (get tT 1) (get tT 5) t49 t51 (.int .i64 0) t56 (.int .i64 0) h22 (blkK [] 1 k12)) (seqK (fun tT_1 h23 =>
K0 .ret [(4, (.int .i64 (-1)))] h23) K0)) K0)

noncomputable def s_internal_stringslite_Index_b0 (mg : GT) (mc : CT) (ms : ST) (P : Program) (C : CallF) (L0 : Value → Value → Value → Value → Value → Value → Value → Value → AHeap → K → Res) (v0 : Value) (v1 : Value) (v5 : Value) (v6 : Value) (v7 : Value) (v8 : Value) (v9 : Value) (v10 : Value) (H : AHeap) (k : K) : Res :=
bareK (xbin P .lss T.int (.tmp 57) (.tmp 58) v8 v9) H fun t59 h23 =>
mc t59 (fun k13 => k13 .normal [(0, v0), (1, v1), (5, v5), (6, v6), (7, v7), (8, v8), (9, v9), (10, v10)] h23) (fun k13 =>
k13 (.exit 1) [(59, t59), (58, v9), (57, v8), (0, v0), (1, v1), (5, v5), (6, v6), (7, v7), (8, v8), (9, v9), (10, v10)] h23) (seqK (fun tT h24 =>
ms (fun k14 =>
bareK (xindex P T.string (get tT 0) (get tT 8)) h24 fun t62 h25 =>
bareK (xbin P .neq T.uint8 (.tmp 62) (.tmp 63) t62 (get tT 6)) h25 fun t64 h26 =>
mc t64 (fun k15 => bareK (xbin P .add T.int (.tmp 66) (.const (.int .i64 1)) (get tT 8) (.int .i64 1)) h26 fun t67 h27 =>
bareK (slT (get tT 0) (some t67) (some (get tT 9))) h27 fun t69 h28 =>
enterK C F.internal_stringslite_IndexByte [t69, (get tT 6)] h28 fun t71 h29 =>
bareK (xbin P .lss T.int (.tmp 72) (.const (.int .i64 0)) t71 (.int .i64 0)) h29 fun t73 h30 =>
mc t73 (fun k16 => k16 .ret [(4, (.int .i64 (-1)))] h30) (fun k16 =>
k16 .normal [(0, (get tT 0)), (1, (get tT 1)), (5, (get tT 5)), (6, (get tT 6)), (7, (get tT 7)), (8, (get tT 8)), (9, (get tT 9)), (10, (get tT 10)), (11, t71)] h30) (seqK (fun tT_1 h31 =>
bareK (xbin P .add T.int (.tmp 75) (.const (.int .i64 1)) (get tT_1 11) (.int .i64 1)) h31 fun t76 h32 =>
bareK (xbin P .add T.int (.tmp 74) (.tmp 76) (get tT_1 8) t76) h32 fun t77 h33 =>
k15 .normal [(0, (get tT_1 0)), (1, (get tT_1 1)), (5, (get tT_1 5)), (6, (get tT_1 6)), (7, (get tT_1 7)), (8, t77), (9, (get tT_1 9)), (10, (get tT_1 10))] h33) (afterK [0, 1, 5, 6, 7, 8, 9, 10] k15))) (fun k15 =>
k15 .normal [(0, (get tT 0)), (1, (get tT 1)), (5, (get tT 5)), (6, (get tT 6)), (7, (get tT 7)), (8, (get tT 8)), (9, (get tT 9)), (10, (get tT 10))] h26) (seqK (fun tT_2 h34 =>
bareK (xbin P .add T.int (.tmp 79) (.const (.int .i64 1)) (get tT_2 8) (.int .i64 1)) h34 fun t80 h35 =>
bareK (xindex P T.string (get tT_2 0) t80) h35 fun t81 h36 =>
bareK (xbin P .eql T.uint8 (.tmp 81) (.tmp 82) t81 (get tT_2 7)) h36 fun t83 h37 =>
mg t83 true (fun o17 => o17 (get tT_2 0) h37) h37 fun t85 h38 =>
mg t83 true (fun o18 => o18 (get tT_2 8) h38) h38 fun t86 h39 =>
mg t83 true (fun o19 => o19 (get tT_2 8) h39) h39 fun t87 h40 =>
mg t83 true (fun o20 => o20 (get tT_2 5) h40) h40 fun t88 h41 =>
mg t83 true (fun o21 => bareK (xbin P .add T.int (.tmp 87) (.tmp 88) t87 t88) h41 o21) h41 fun t89 h42 =>
mg t83 true (fun o22 => bareK (slT t85 (some t86) (some t89)) h42 o22) h42 fun t90 h43 =>
mg t83 true (fun o23 => o23 (get tT_2 1) h43) h43 fun t91 h44 =>
mg t83 true (fun o24 => bareK (xbin P .eql T.string (.tmp 90) (.tmp 91) t90 t91) h44 o24) h44 fun t92 h45 =>
pickK t83 t92 (.bool false) fun t93 =>
mc t93 (fun k25 => k25 .ret [(4, (get tT_2 8))] h45) (fun k25 =>
k25 .normal [(0, (get tT_2 0)), (1, (get tT_2 1)), (5, (get tT_2 5)), (6, (get tT_2 6)), (7, (get tT_2 7)), (8, (get tT_2 8)), (9, (get tT_2 9)), (10, (get tT_2 10))] h45) (seqK (fun tT_3 h46 =>
bareK (xbin P .add T.int (.tmp 95) (.const (.int .i64 1)) (get tT_3 8) (.int .i64 1)) h46 fun t96 h47 =>
bareK (xbin P .add T.int (.tmp 97) (.const (.int .i64 1)) (get tT_3 10) (.int .i64 1)) h47 fun t98 h48 =>
bareK (ld1 h48 top) h48 fun t100 h49 =>
bareK (xbin P .leq T.int (.tmp 99) (.tmp 100) (get tT_3 5) t100) h49 fun t101 h50 =>
mg t101 true (fun o26 => o26 t98 h50) h50 fun t103 h51 =>
mg t101 true (fun o27 => o27 t96 h51) h51 fun t104 h52 =>
mg t101 true (fun o28 => enterK C F.internal_bytealg_Cutover [t104] h52 o28) h52 fun t105 h53 =>
mg t101 true (fun o29 => bareK (xbin P .gtr T.int (.tmp 103) (.tmp 105) t103 t105) h53 o29) h53 fun t106 h54 =>
pickK t101 t106 (.bool false) fun t107 =>
mc t107 (fun k30 => bareK (slT (get tT_3 0) (some t96) none) h54 fun t110 h55 =>
bareK (xext P Tryd.f81 [t110, (get tT_3 1)] h55) h55 fun t112 h56 =>
bareK (xbin P .geq T.int (.tmp 113) (.const (.int .i64 0)) t112 (.int .i64 0)) h56 fun t114 h57 =>
mc t114 (fun k31 => bareK (xbin P .add T.int (.tmp 115) (.tmp 116) t112 t96) h57 fun t117 h58 =>
k31 .ret [(4, t117)] h58) (fun k31 =>
k31 .normal [] h57) (seqK (fun tT_4 h59 =>
k30 .ret [(4, (.int .i64 (-1)))] h59) (afterK [0, 1, 5, 6, 7, 8, 9, 10] k30))) (fun k30 =>
bareK (ld1 h54 top) h54 fun t119 h60 =>
bareK (xbin P .gtr T.int (.tmp 118) (.tmp 119) (get tT_3 5) t119) h60 fun t120 h61 =>
mg t120 true (fun o32 => o32 t98 h61) h61 fun t122 h62 =>
mg t120 true (fun o33 => o33 t96 h62) h62 fun t123 h63 =>
mg t120 true (fun o34 => bareK (xbin P .shr T.int (.tmp 123) (.const (.int .u64 4)) t123 (.int .u64 4)) h63 o34) h63 fun t124 h64 =>
mg t120 true (fun o35 => bareK (xbin P .add T.int (.const (.int .i64 4)) (.tmp 124) (.int .i64 4) t124) h64 o35) h64 fun t125 h65 =>
mg t120 true (fun o36 => bareK (xbin P .geq T.int (.tmp 122) (.tmp 125) t122 t125) h65 o36) h65 fun t126 h66 =>
pickK t120 t126 (.bool false) fun t127 =>
mg t127 true (fun o37 => o37 t96 h66) h66 fun t129 h67 =>
mg t127 true (fun o38 => o38 (get tT_3 9) h67) h67 fun t130 h68 =>
mg t127 true (fun o39 => bareK (xbin P .lss T.int (.tmp 129) (.tmp 130) t129 t130) h68 o39) h68 fun t131 h69 =>
pickK t127 t131 (.bool false) fun t132 =>
mc t132 (fun k40 => bareK (slT (get tT_3 0) (some t96) none) h69 fun t135 h70 =>
enterK C F.internal_bytealg_IndexRabinKarp_string [t135, (get tT_3 1)] h70 fun t137 h71 =>
bareK (xbin P .lss T.int (.tmp 138) (.const (.int .i64 0)) t137 (.int .i64 0)) h71 fun t139 h72 =>
mc t139 (fun k41 => k41 .ret [(4, (.int .i64 (-1)))] h72) (fun k41 =>
k41 .normal [(8, t96), (13, t137)] h72) (seqK (fun tT_5 h73 =>
bareK (xbin P .add T.int (.tmp 140) (.tmp 141) (get tT_5 8) (get tT_5 13)) h73 fun t142 h74 =>
k40 .ret [(4, t142)] h74) (afterK [0, 1, 5, 6, 7, 8, 9, 10] k40))) (fun k40 =>
k40 .normal [(0, (get tT_3 0)), (1, (get tT_3 1)), (5, (get tT_3 5)), (6, (get tT_3 6)), (7, (get tT_3 7)), (8, t96), (9, (get tT_3 9)), (10, t98)] h69) (afterK [0, 1, 5, 6, 7, 8, 9, 10] k30)) (blkK [0, 1, 5, 6, 7, 8, 9, 10] 2 k14)) (blkK [0, 1, 5, 6, 7, 8, 9, 10] 2 k14))) (blkK [0, 1, 5, 6, 7, 8, 9, 10] 2 k14))) (afterK [0, 1, 5, 6, 7, 8, 9, 10] k)) (afterK [0, 1, 5, 6, 7, 8, 9, 10] k))

theorem s_internal_stringslite_Index_eq (M : CombL) (C : CallF) (LP : LoopH) (a0 : Value) (a1 : Value) (H : AHeap) : dBodyL M Tryd.prog hints C LP F.internal_stringslite_Index [a0, a1] H = s_internal_stringslite_Index M.b.g M.c M.s Tryd.prog C (fun v0 v1 v5 v6 v7 v8 v9 v10 H k => loopL M Tryd.prog hints C LP F.internal_stringslite_Index 0 [(0, v0), (1, v1), (5, v5), (6, v6), (7, v7), (8, v8), (9, v9), (10, v10)] H k) a0 a1 H (endK Tryd.prog [.tmp 4]) := by kernel_rfl

theorem s_internal_stringslite_Index_b0_eq (M : CombL) (C : CallF) (LP : LoopH) (v0 : Value) (v1 : Value) (v5 : Value) (v6 : Value) (v7 : Value) (v8 : Value) (v9 : Value) (v10 : Value) (H : AHeap) (k : K) : bodyL M Tryd.prog hints C LP F.internal_stringslite_Index 0 [(0, v0), (1, v1), (5, v5), (6, v6), (7, v7), (8, v8), (9, v9), (10, v10)] H (afterK [0, 1, 5, 6, 7, 8, 9, 10] k) = s_internal_stringslite_Index_b0 M.b.g M.c M.s Tryd.prog C (fun v0 v1 v5 v6 v7 v8 v9 v10 H k => loopL M Tryd.prog hints C LP F.internal_stringslite_Index 0 [(0, v0), (1, v1), (5, v5), (6, v6), (7, v7), (8, v8), (9, v9), (10, v10)] H k) v0 v1 v5 v6 v7 v8 v9 v10 H k := by kernel_rfl

/-! internal.strconv.lower -/

noncomputable def s_internal_strconv_lower (mg : GT) (mc : CT) (ms : ST) (P : Program) (C : CallF) (a0 : Value) (H : AHeap) (K0 : K) : Res :=
bareK (xbin P .or T.uint8 (.tmp 3) (.const (.int .u8 32)) a0 (.int .u8 32)) H fun t4 h1 =>
K0 .ret [(2, t4)] h1

theorem s_internal_strconv_lower_eq (M : CombL) (C : CallF) (LP : LoopH) (a0 : Value) (H : AHeap) : dBodyL M Tryd.prog hints C LP F.internal_strconv_lower [a0] H = s_internal_strconv_lower M.b.g M.c M.s Tryd.prog C a0 H (endK Tryd.prog [.tmp 2]) := by kernel_rfl

/-! internal.strconv.underscoreOK -/

noncomputable def s_internal_strconv_underscoreOK (mg : GT) (mc : CT) (ms : ST) (P : Program) (C : CallF) (L0 : Value → Value → Value → Value → AHeap → K → Res) (a0 : Value) (H : AHeap) (K0 : K) : Res :=
bareK (lenT a0) H fun t7 h1 =>
bareK (xbin P .geq T.int (.tmp 7) (.const (.int .i64 1)) t7 (.int .i64 1)) h1 fun t8 h2 =>
mg t8 true (fun o1 => o1 a0 h2) h2 fun t10 h3 =>
mg t8 true (fun o2 => bareK (xindex P T.string t10 (.int .i64 0)) h3 o2) h3 fun t11 h4 =>
mg t8 true (fun o3 => bareK (xbin P .eql T.uint8 (.tmp 11) (.const (.int .u8 45)) t11 (.int .u8 45)) h4 o3) h4 fun t12 h5 =>
mg t8 true (fun o4 => o4 t12 h5) h5 fun t13 h6 =>
mg t13 false (fun o5 => o5 a0 h6) h6 fun t14 h7 =>
mg t13 false (fun o6 => bareK (xindex P T.string t14 (.int .i64 0)) h7 o6) h7 fun t15 h8 =>
mg t13 false (fun o7 => bareK (xbin P .eql T.uint8 (.tmp 15) (.const (.int .u8 43)) t15 (.int .u8 43)) h8 o7) h8 fun t16 h9 =>
mg t8 true (fun o8 => pickK t13 (.bool true) t16 fun v => o8 v h9) h9 fun t17 h10 =>
pickK t8 t17 (.bool false) fun t18 =>
mc t18 (fun k9 => bareK (slT a0 (some (.int .i64 1)) none) h10 fun t20 h11 =>
k9 .normal [(0, t20), (3, (.int .i32 94)), (4, (.int .i64 0))] h11) (fun k9 =>
k9 .normal [(0, a0), (3, (.int .i32 94)), (4, (.int .i64 0))] h10) (seqK (fun tT h12 =>
bareK (lenT (get tT 0)) h12 fun t22 h13 =>
bareK (xbin P .geq T.int (.tmp 22) (.const (.int .i64 2)) t22 (.int .i64 2)) h13 fun t23 h14 =>
mg t23 true (fun o10 => o10 (get tT 0) h14) h14 fun t25 h15 =>
mg t23 true (fun o11 => bareK (xindex P T.string t25 (.int .i64 0)) h15 o11) h15 fun t26 h16 =>
mg t23 true (fun o12 => bareK (xbin P .eql T.uint8 (.tmp 26) (.const (.int .u8 48)) t26 (.int .u8 48)) h16 o12) h16 fun t27 h17 =>
pickK t23 t27 (.bool false) fun t28 =>
mg t28 true (fun o13 => o13 (get tT 0) h17) h17 fun t30 h18 =>
mg t28 true (fun o14 => bareK (xindex P T.string t30 (.int .i64 1)) h18 o14) h18 fun t31 h19 =>
mg t28 true (fun o15 => enterK C F.internal_strconv_lower [t31] h19 o15) h19 fun t32 h20 =>
mg t28 true (fun o16 => bareK (xbin P .eql T.uint8 (.tmp 32) (.const (.int .u8 98)) t32 (.int .u8 98)) h20 o16) h20 fun t33 h21 =>
mg t28 true (fun o17 => o17 t33 h21) h21 fun t34 h22 =>
mg t34 false (fun o18 => o18 (get tT 0) h22) h22 fun t35 h23 =>
mg t34 false (fun o19 => bareK (xindex P T.string t35 (.int .i64 1)) h23 o19) h23 fun t36 h24 =>
mg t34 false (fun o20 => enterK C F.internal_strconv_lower [t36] h24 o20) h24 fun t37 h25 =>
mg t34 false (fun o21 => bareK (xbin P .eql T.uint8 (.tmp 37) (.const (.int .u8 111)) t37 (.int .u8 111)) h25 o21) h25 fun t38 h26 =>
mg t28 true (fun o22 => pickK t34 (.bool true) t38 fun v => o22 v h26) h26 fun t39 h27 =>
mg t28 true (fun o23 => o23 t39 h27) h27 fun t40 h28 =>
mg t40 false (fun o24 => o24 (get tT 0) h28) h28 fun t41 h29 =>
mg t40 false (fun o25 => bareK (xindex P T.string t41 (.int .i64 1)) h29 o25) h29 fun t42 h30 =>
mg t40 false (fun o26 => enterK C F.internal_strconv_lower [t42] h30 o26) h30 fun t43 h31 =>
mg t40 false (fun o27 => bareK (xbin P .eql T.uint8 (.tmp 43) (.const (.int .u8 120)) t43 (.int .u8 120)) h31 o27) h31 fun t44 h32 =>
mg t28 true (fun o28 => pickK t40 (.bool true) t44 fun v => o28 v h32) h32 fun t45 h33 =>
pickK t28 t45 (.bool false) fun t46 =>
mc t46 (fun k29 => bareK (xindex P T.string (get tT 0) (.int .i64 1)) h33 fun t48 h34 =>
enterK C F.internal_strconv_lower [t48] h34 fun t49 h35 =>
bareK (xbin P .eql T.uint8 (.tmp 49) (.const (.int .u8 120)) t49 (.int .u8 120)) h35 fun t50 h36 =>
k29 .normal [(0, (get tT 0)), (3, (.int .i32 48)), (4, (.int .i64 2)), (5, t50)] h36) (fun k29 =>
k29 .normal [(0, (get tT 0)), (3, (get tT 3)), (4, (get tT 4)), (5, (.bool false))] h33) (seqK (fun tT_1 h37 =>
ms (fun k30 =>
L0 (get tT_1 0) (get tT_1 3) (get tT_1 4) (get tT_1 5) h37 (blkK [3] 0 k30)) (seqK (fun tT_2 h38 =>
bareK (xbin P .neq T.int32 (.tmp 92) (.const (.int .i32 95)) (get tT_2 3) (.int .i32 95)) h38 fun t93 h39 =>
K0 .ret [(2, t93)] h39) K0)) K0)) K0)

noncomputable def s_internal_strconv_underscoreOK_b0 (mg : GT) (mc : CT) (ms : ST) (P : Program) (C : CallF) (L0 : Value → Value → Value → Value → AHeap → K → Res) (v0 : Value) (v3 : Value) (v4 : Value) (v5 : Value) (H : AHeap) (k : K) : Res :=
bareK (lenT v0) H fun t53 h38 =>
bareK (xbin P .lss T.int (.tmp 51) (.tmp 53) v4 t53) h38 fun t54 h39 =>
mc t54 (fun k31 => k31 .normal [(0, v0), (3, v3), (4, v4), (5, v5)] h39) (fun k31 =>
k31 (.exit 0) [(54, t54), (53, t53), (52, v0), (51, v4), (0, v0), (3, v3), (4, v4), (5, v5)] h39) (seqK (fun tT h40 =>
ms (fun k32 =>
bareK (xindex P T.string (get tT 0) (get tT 4)) h40 fun t59 h41 =>
bareK (xbin P .leq T.uint8 (.const (.int .u8 48)) (.tmp 59) (.int .u8 48) t59) h41 fun t60 h42 =>
mg t60 true (fun o33 => o33 (get tT 0) h42) h42 fun t62 h43 =>
mg t60 true (fun o34 => o34 (get tT 4) h43) h43 fun t63 h44 =>
mg t60 true (fun o35 => bareK (xindex P T.string t62 t63) h44 o35) h44 fun t64 h45 =>
mg t60 true (fun o36 => bareK (xbin P .leq T.uint8 (.tmp 64) (.const (.int .u8 57)) t64 (.int .u8 57)) h45 o36) h45 fun t65 h46 =>
pickK t60 t65 (.bool false) fun t66 =>
mg t66 false (fun o37 => o37 (get tT 5) h46) h46 fun t68 h47 =>
mg t66 false (fun o38 => o38 t68 h47) h47 fun t69 h48 =>
mg t69 true (fun o39 => o39 (get tT 0) h48) h48 fun t70 h49 =>
mg t69 true (fun o40 => o40 (get tT 4) h49) h49 fun t71 h50 =>
mg t69 true (fun o41 => bareK (xindex P T.string t70 t71) h50 o41) h50 fun t72 h51 =>
mg t69 true (fun o42 => enterK C F.internal_strconv_lower [t72] h51 o42) h51 fun t73 h52 =>
mg t69 true (fun o43 => bareK (xbin P .leq T.uint8 (.const (.int .u8 97)) (.tmp 73) (.int .u8 97) t73) h52 o43) h52 fun t74 h53 =>
mg t66 false (fun o44 => pickK t69 t74 (.bool false) fun v => o44 v h53) h53 fun t75 h54 =>
mg t66 false (fun o45 => o45 t75 h54) h54 fun t76 h55 =>
mg t76 true (fun o46 => o46 (get tT 0) h55) h55 fun t77 h56 =>
mg t76 true (fun o47 => o47 (get tT 4) h56) h56 fun t78 h57 =>
mg t76 true (fun o48 => bareK (xindex P T.string t77 t78) h57 o48) h57 fun t79 h58 =>
mg t76 true (fun o49 => enterK C F.internal_strconv_lower [t79] h58 o49) h58 fun t80 h59 =>
mg t76 true (fun o50 => bareK (xbin P .leq T.uint8 (.tmp 80) (.const (.int .u8 102)) t80 (.int .u8 102)) h59 o50) h59 fun t81 h60 =>
mg t66 false (fun o51 => pickK t76 t81 (.bool false) fun v => o51 v h60) h60 fun t82 h61 =>
pickK t66 (.bool true) t82 fun t83 =>
mc t83 (fun k52 => k52 (.exit 1) ((3, (.int .i32 48)) :: (83, t83) :: (82, t82) :: (81, t81) :: (80, t80) :: (79, t79) :: (78, t78) :: (77, t77) :: (76, t76) :: (75, t75) :: (74, t74) :: (73, t73) :: (72, t72) :: (71, t71) :: (70, t70) :: (69, t69) :: (68, t68) :: (67, t66) :: (66, t66) :: (65, t65) :: (64, t64) :: (63, t63) :: (62, t62) :: (61, t60) :: (60, t60) :: (59, t59) :: (58, (get tT 4)) :: (57, (get tT 0)) :: tT) h61) (fun k52 =>
k52 .normal [(0, (get tT 0)), (3, (get tT 3)), (4, (get tT 4)), (5, (get tT 5))] h61) (seqK (fun tT_1 h62 =>
bareK (xindex P T.string (get tT_1 0) (get tT_1 4)) h62 fun t86 h63 =>
bareK (xbin P .eql T.uint8 (.tmp 86) (.const (.int .u8 95)) t86 (.int .u8 95)) h63 fun t87 h64 =>
mc t87 (fun k53 => bareK (xbin P .neq T.int32 (.tmp 88) (.const (.int .i32 48)) (get tT_1 3) (.int .i32 48)) h64 fun t89 h65 =>
mc t89 (fun k54 => k54 .ret [(2, (.bool false))] h65) (fun k54 =>
k54 .normal [(0, (get tT_1 0)), (4, (get tT_1 4)), (5, (get tT_1 5))] h65) (seqK (fun tT_2 h66 =>
k53 (.exit 1) ((3, (.int .i32 95)) :: tT_2) h66) (afterK [0, 3, 4, 5] k53))) (fun k53 =>
k53 .normal [(0, (get tT_1 0)), (3, (get tT_1 3)), (4, (get tT_1 4)), (5, (get tT_1 5))] h64) (seqK (fun tT_3 h67 =>
bareK (xbin P .eql T.int32 (.tmp 90) (.const (.int .i32 95)) (get tT_3 3) (.int .i32 95)) h67 fun t91 h68 =>
mc t91 (fun k55 => k55 .ret [(2, (.bool false))] h68) (fun k55 =>
k55 .normal [(0, (get tT_3 0)), (4, (get tT_3 4)), (5, (get tT_3 5))] h68) (seqK (fun tT_4 h69 =>
k32 .normal [(0, (get tT_4 0)), (3, (.int .i32 33)), (4, (get tT_4 4)), (5, (get tT_4 5))] h69) (blkK [0, 3, 4, 5] 1 k32))) (blkK [0, 3, 4, 5] 1 k32))) (blkK [0, 3, 4, 5] 1 k32))) (seqK (fun tT_5 h70 =>
bareK (xbin P .add T.int (.tmp 55) (.const (.int .i64 1)) (get tT_5 4) (.int .i64 1)) h70 fun t56 h71 =>
k .normal [(0, (get tT_5 0)), (3, (get tT_5 3)), (4, t56), (5, (get tT_5 5))] h71) (afterK [0, 3, 4, 5] k))) (afterK [0, 3, 4, 5] k))

theorem s_internal_strconv_underscoreOK_eq (M : CombL) (C : CallF) (LP : LoopH) (a0 : Value) (H : AHeap) : dBodyL M Tryd.prog hints C LP F.internal_strconv_underscoreOK [a0] H = s_internal_strconv_underscoreOK M.b.g M.c M.s Tryd.prog C (fun v0 v3 v4 v5 H k => loopL M Tryd.prog hints C LP F.internal_strconv_underscoreOK 0 [(0, v0), (3, v3), (4, v4), (5, v5)] H k) a0 H (endK Tryd.prog [.tmp 2]) := by kernel_rfl

theorem s_internal_strconv_underscoreOK_b0_eq (M : CombL) (C : CallF) (LP : LoopH) (v0 : Value) (v3 : Value) (v4 : Value) (v5 : Value) (H : AHeap) (k : K) : bodyL M Tryd.prog hints C LP F.internal_strconv_underscoreOK 0 [(0, v0), (3, v3), (4, v4), (5, v5)] H (afterK [0, 3, 4, 5] k) = s_internal_strconv_underscoreOK_b0 M.b.g M.c M.s Tryd.prog C (fun v0 v3 v4 v5 H k => loopL M Tryd.prog hints C LP F.internal_strconv_underscoreOK 0 [(0, v0), (3, v3), (4, v4), (5, v5)] H k) v0 v3 v4 v5 H k := by kernel_rfl

/-! strconv.syntaxError -/

noncomputable def s_strconv_syntaxError (mg : GT) (mc : CT) (ms : ST) (P : Program) (C : CallF) (a0 : Value) (a1 : Value) (H : AHeap) (K0 : K) : Res :=
enterK C F.internal_stringslite_Clone [a1] H fun t7 h1 =>
bareK (ld1 h1 top) h1 fun t8 h2 =>
bareK (bldS #[(.string (mk [])), (.string (mk [])), .nilIface] [(0, 1), (1, 1), (2, 1)] [(0, a0), (1, t7), (2, t8)]) h2 fun t9 h3 =>
bothK (newv T.strconv_NumError t9 h3) fun t10 h4 =>
checkK (okV (some true) none H h1 H H && (okV (some true) (blockOf top) H h1 h1 h2 && true)) <|
K0 .ret [(4, t10)] h4

theorem s_strconv_syntaxError_eq (M : CombL) (C : CallF) (LP : LoopH) (a0 : Value) (a1 : Value) (H : AHeap) : dBodyL M Tryd.prog hints C LP F.strconv_syntaxError [a0, a1] H = s_strconv_syntaxError M.b.g M.c M.s Tryd.prog C a0 a1 H (endK Tryd.prog [.tmp 4]) := by kernel_rfl

/-! strconv.rangeError -/

noncomputable def s_strconv_rangeError (mg : GT) (mc : CT) (ms : ST) (P : Program) (C : CallF) (a0 : Value) (a1 : Value) (H : AHeap) (K0 : K) : Res :=
enterK C F.internal_stringslite_Clone [a1] H fun t7 h1 =>
bareK (ld1 h1 top) h1 fun t8 h2 =>
bareK (bldS #[(.string (mk [])), (.string (mk [])), .nilIface] [(0, 1), (1, 1), (2, 1)] [(0, a0), (1, t7), (2, t8)]) h2 fun t9 h3 =>
bothK (newv T.strconv_NumError t9 h3) fun t10 h4 =>
checkK (okV (some true) none H h1 H H && (okV (some true) (blockOf top) H h1 h1 h2 && true)) <|
K0 .ret [(4, t10)] h4

theorem s_strconv_rangeError_eq (M : CombL) (C : CallF) (LP : LoopH) (a0 : Value) (a1 : Value) (H : AHeap) : dBodyL M Tryd.prog hints C LP F.strconv_rangeError [a0, a1] H = s_strconv_rangeError M.b.g M.c M.s Tryd.prog C a0 a1 H (endK Tryd.prog [.tmp 4]) := by kernel_rfl

/-! strconv.baseError -/

noncomputable def s_strconv_baseError (mg : GT) (mc : CT) (ms : ST) (P : Program) (C : CallF) (a0 : Value) (a1 : Value) (a2 : Value) (H : AHeap) (K0 : K) : Res :=
enterK C F.internal_stringslite_Clone [a1] H fun t9 h1 =>
enterK C F.strconv_Itoa [a2] h1 fun t11 h2 =>
bareK (xbin P .add T.string (.const (.string (mk [105, 110, 118, 97, 108, 105, 100, 32, 98, 97, 115, 101, 32]))) (.tmp 11) (.string (mk [105, 110, 118, 97, 108, 105, 100, 32, 98, 97, 115, 101, 32])) t11) h2 fun t12 h3 =>
enterK C F.errors_New [t12] h3 fun t13 h4 =>
bareK (bldS #[(.string (mk [])), (.string (mk [])), .nilIface] [(0, 1), (1, 1), (2, 1)] [(0, a0), (1, t9), (2, t13)]) h4 fun t14 h5 =>
bothK (newv T.strconv_NumError t14 h5) fun t15 h6 =>
K0 .ret [(6, t15)] h6

theorem s_strconv_baseError_eq (M : CombL) (C : CallF) (LP : LoopH) (a0 : Value) (a1 : Value) (a2 : Value) (H : AHeap) : dBodyL M Tryd.prog hints C LP F.strconv_baseError [a0, a1, a2] H = s_strconv_baseError M.b.g M.c M.s Tryd.prog C a0 a1 a2 H (endK Tryd.prog [.tmp 6]) := by kernel_rfl

/-! strconv.bitSizeError -/

noncomputable def s_strconv_bitSizeError (mg : GT) (mc : CT) (ms : ST) (P : Program) (C : CallF) (a0 : Value) (a1 : Value) (a2 : Value) (H : AHeap) (K0 : K) : Res :=
enterK C F.internal_stringslite_Clone [a1] H fun t9 h1 =>
enterK C F.strconv_Itoa [a2] h1 fun t11 h2 =>
bareK (xbin P .add T.string (.const (.string (mk [105, 110, 118, 97, 108, 105, 100, 32, 98, 105, 116, 32, 115, 105, 122, 101, 32]))) (.tmp 11) (.string (mk [105, 110, 118, 97, 108, 105, 100, 32, 98, 105, 116, 32, 115, 105, 122, 101, 32])) t11) h2 fun t12 h3 =>
enterK C F.errors_New [t12] h3 fun t13 h4 =>
bareK (bldS #[(.string (mk [])), (.string (mk [])), .nilIface] [(0, 1), (1, 1), (2, 1)] [(0, a0), (1, t9), (2, t13)]) h4 fun t14 h5 =>
bothK (newv T.strconv_NumError t14 h5) fun t15 h6 =>
K0 .ret [(6, t15)] h6

theorem s_strconv_bitSizeError_eq (M : CombL) (C : CallF) (LP : LoopH) (a0 : Value) (a1 : Value) (a2 : Value) (H : AHeap) : dBodyL M Tryd.prog hints C LP F.strconv_bitSizeError [a0, a1, a2] H = s_strconv_bitSizeError M.b.g M.c M.s Tryd.prog C a0 a1 a2 H (endK Tryd.prog [.tmp 6]) := by kernel_rfl

/-! slices.Reverse[[]ticketline.api.Pair,ticketline.api.Pair] -/

noncomputable def s_slices_Reverse_Pair (mg : GT) (mc : CT) (ms : ST) (P : Program) (C : CallF) (L0 : Value → Value → Value → AHeap → K → Res) (a0 : Value) (H : AHeap) (K0 : K) : Res :=
bareK (lenS a0) H fun t5 h1 =>
bareK (xbin P .sub T.int (.tmp 5) (.const (.int .i64 1)) t5 (.int .i64 1)) h1 fun t6 h2 =>
ms (fun k1 =>
L0 a0 (.int .i64 0) t6 h2 (blkK [] 0 k1)) K0

noncomputable def s_slices_Reverse_Pair_b0 (mg : GT) (mc : CT) (ms : ST) (P : Program) (C : CallF) (L0 : Value → Value → Value → AHeap → K → Res) (v0 : Value) (v2 : Value) (v3 : Value) (H : AHeap) (k : K) : Res :=
bareK (xbin P .lss T.int (.tmp 7) (.tmp 8) v2 v3) H fun t9 h3 =>
mc t9 (fun k2 => k2 .normal [(0, v0), (2, v2), (3, v3)] h3) (fun k2 =>
k2 (.exit 0) [(9, t9), (8, v3), (7, v2), (0, v0), (2, v2), (3, v3)] h3) (seqK (fun tT h4 =>
ms (fun k3 =>
bareK (ixS 2 (get tT 0) (get tT 3)) h4 fun t20 h5 =>
bareK (ldN 2 h5 t20) h5 fun t21 h6 =>
bareK (ixS 2 (get tT 0) (get tT 2)) h6 fun t24 h7 =>
bareK (ldN 2 h7 t24) h7 fun t25 h8 =>
bareK (ixS 2 (get tT 0) (get tT 2)) h8 fun t26 h9 =>
quietK (stN 2 h9 t26 t21) fun _ h10 =>
bareK (ixS 2 (get tT 0) (get tT 3)) h10 fun t27 h11 =>
quietK (stN 2 h11 t27 t25) fun _ h12 =>
checkK (okV (some true) none h9 h10 h4 h4 && (okV (some true) none h9 h10 h4 h4 && true)) <|
k3 .normal [(0, (get tT 0)), (2, (get tT 2)), (3, (get tT 3))] h12) (seqK (fun tT_1 h13 =>
bareK (xbin P .add T.int (.tmp 10) (.const (.int .i64 1)) (get tT_1 2) (.int .i64 1)) h13 fun t11 h14 =>
bareK (xbin P .sub T.int (.tmp 12) (.const (.int .i64 1)) (get tT_1 3) (.int .i64 1)) h14 fun t13 h15 =>
k .normal [(0, (get tT_1 0)), (2, t11), (3, t13)] h15) (afterK [0, 2, 3] k))) (afterK [0, 2, 3] k))

theorem s_slices_Reverse_Pair_eq (M : CombL) (C : CallF) (LP : LoopH) (a0 : Value) (H : AHeap) : dBodyL M Tryd.prog hints C LP F.slices_Reverse_Pair [a0] H = s_slices_Reverse_Pair M.b.g M.c M.s Tryd.prog C (fun v0 v2 v3 H k => loopL M Tryd.prog hints C LP F.slices_Reverse_Pair 0 [(0, v0), (2, v2), (3, v3)] H k) a0 H (endK Tryd.prog []) := by kernel_rfl

theorem s_slices_Reverse_Pair_b0_eq (M : CombL) (C : CallF) (LP : LoopH) (v0 : Value) (v2 : Value) (v3 : Value) (H : AHeap) (k : K) : bodyL M Tryd.prog hints C LP F.slices_Reverse_Pair 0 [(0, v0), (2, v2), (3, v3)] H (afterK [0, 2, 3] k) = s_slices_Reverse_Pair_b0 M.b.g M.c M.s Tryd.prog C (fun v0 v2 v3 H k => loopL M Tryd.prog hints C LP F.slices_Reverse_Pair 0 [(0, v0), (2, v2), (3, v3)] H k) v0 v2 v3 H k := by kernel_rfl

/-! unicode.utf8.decodeRuneInStringSlow -/

noncomputable def s_unicode_utf8_decodeRuneInStringSlow (mg : GT) (mc : CT) (ms : ST) (P : Program) (C : CallF) (a0 : Value) (H : AHeap) (K0 : K) : Res :=
bareK (lenT a0) H fun t14 h1 =>
bareK (xbin P .lss T.int (.tmp 15) (.const (.int .i64 1)) t14 (.int .i64 1)) h1 fun t16 h2 =>
mc t16 (fun k1 => k1 .ret [(2, (.int .i32 65533)), (3, (.int .i64 0))] h2) (fun k1 =>
k1 .normal [(0, a0), (4, t14)] h2) (seqK (fun tT h3 =>
bareK (xindex P T.string (get tT 0) (.int .i64 0)) h3 fun t18 h4 =>
bareK (ixA 256 1 top t18) h4 fun t20 h5 =>
bareK (ld1 h5 t20) h5 fun t21 h6 =>
bareK (xbin P .geq T.uint8 (.tmp 22) (.const (.int .u8 240)) t21 (.int .u8 240)) h6 fun t23 h7 =>
mc t23 (fun k2 => bothK (xconv P T.uint8 T.int32 t21 h7) fun t25 h8 =>
bareK (xbin P .shl T.int32 (.tmp 25) (.const (.int .u64 31)) t25 (.int .u64 31)) h8 fun t26 h9 =>
bareK (xbin P .shr T.int32 (.tmp 26) (.const (.int .u64 31)) t26 (.int .u64 31)) h9 fun t27 h10 =>
bareK (xindex P T.string (get tT 0) (.int .i64 0)) h10 fun t29 h11 =>
bothK (xconv P T.uint8 T.int32 t29 h11) fun t30 h12 =>
bareK (xbin P .andNot T.int32 (.tmp 30) (.tmp 31) t30 t27) h12 fun t32 h13 =>
bareK (xbin P .and T.int32 (.const (.int .i32 65533)) (.tmp 33) (.int .i32 65533) t27) h13 fun t34 h14 =>
bareK (xbin P .or T.int32 (.tmp 32) (.tmp 34) t32 t34) h14 fun t35 h15 =>
k2 .ret [(2, t35), (3, (.int .i64 1))] h15) (fun k2 =>
k2 .normal [(0, (get tT 0)), (4, (get tT 4)), (5, t18), (6, t21)] h7) (seqK (fun tT_1 h16 =>
bareK (xbin P .and T.uint8 (.tmp 36) (.const (.int .u8 7)) (get tT_1 6) (.int .u8 7)) h16 fun t37 h17 =>
bothK (xconv P T.uint8 T.int t37 h17) fun t38 h18 =>
bareK (xbin P .shr T.uint8 (.tmp 39) (.const (.int .u64 4)) (get tT_1 6) (.int .u64 4)) h18 fun t40 h19 =>
bareK (ixA 16 2 top t40) h19 fun t41 h20 =>
bareK (ldN 2 h20 t41) h20 fun t42 h21 =>
bothK (newv T.unicode_utf8_acceptRange (.agg #[(.int .u8 0), (.int .u8 0)]) h21) fun t9 h22 =>
quietK (stN 2 h22 t9 t42) fun _ h23 =>
bareK (xbin P .lss T.int (.tmp 43) (.tmp 44) (get tT_1 4) t38) h23 fun t45 h24 =>
mc t45 (fun k3 => k3 .ret [(2, (.int .i32 65533)), (3, (.int .i64 1))] h24) (fun k3 =>
k3 .normal [(0, (get tT_1 0)), (5, (get tT_1 5)), (8, t38), (9, t9)] h24) (seqK (fun tT_2 h25 =>
bareK (xindex P T.string (get tT_2 0) (.int .i64 1)) h25 fun t47 h26 =>
bareK (fad 0 (get tT_2 9)) h26 fun t49 h27 =>
bareK (ld1 h27 t49) h27 fun t50 h28 =>
bareK (xbin P .lss T.uint8 (.tmp 48) (.tmp 50) t47 t50) h28 fun t51 h29 =>
mg t51 false (fun o4 => bareK (fad 1 (get tT_2 9)) h29 o4) h29 fun t53 h30 =>
mg t51 false (fun o5 => bareK (ld1 h30 t53) h30 o5) h30 fun t54 h31 =>
mg t51 false (fun o6 => o6 t47 h31) h31 fun t55 h32 =>
mg t51 false (fun o7 => bareK (xbin P .lss T.uint8 (.tmp 54) (.tmp 55) t54 t55) h32 o7) h32 fun t56 h33 =>
pickK t51 (.bool true) t56 fun t57 =>
mc t57 (fun k8 => k8 .ret [(2, (.int .i32 65533)), (3, (.int .i64 1))] h33) (fun k8 =>
k8 .normal [(0, (get tT_2 0)), (5, (get tT_2 5)), (8, (get tT_2 8)), (10, t47)] h33) (seqK (fun tT_3 h34 =>
bareK (xbin P .leq T.int (.tmp 58) (.const (.int .i64 2)) (get tT_3 8) (.int .i64 2)) h34 fun t59 h35 =>
mc t59 (fun k9 => bareK (xbin P .and T.uint8 (.tmp 60) (.const (.int .u8 31)) (get tT_3 5) (.int .u8 31)) h35 fun t61 h36 =>
bothK (xconv P T.uint8 T.int32 t61 h36) fun t62 h37 =>
bareK (xbin P .shl T.int32 (.tmp 62) (.const (.int .u64 6)) t62 (.int .u64 6)) h37 fun t63 h38 =>
bareK (xbin P .and T.uint8 (.tmp 64) (.const (.int .u8 63)) (get tT_3 10) (.int .u8 63)) h38 fun t65 h39 =>
bothK (xconv P T.uint8 T.int32 t65 h39) fun t66 h40 =>
bareK (xbin P .or T.int32 (.tmp 63) (.tmp 66) t63 t66) h40 fun t67 h41 =>
k9 .ret [(2, t67), (3, (.int .i64 2))] h41) (fun k9 =>
k9 .normal [(0, (get tT_3 0)), (5, (get tT_3 5)), (8, (get tT_3 8)), (10, (get tT_3 10))] h35) (seqK (fun tT_4 h42 =>
bareK (xindex P T.string (get tT_4 0) (.int .i64 2)) h42 fun t69 h43 =>
bareK (xbin P .lss T.uint8 (.tmp 70) (.const (.int .u8 128)) t69 (.int .u8 128)) h43 fun t71 h44 =>
mg t71 false (fun o10 => o10 t69 h44) h44 fun t73 h45 =>
mg t71 false (fun o11 => bareK (xbin P .lss T.uint8 (.const (.int .u8 191)) (.tmp 73) (.int .u8 191) t73) h45 o11) h45 fun t74 h46 =>
pickK t71 (.bool true) t74 fun t75 =>
mc t75 (fun k12 => k12 .ret [(2, (.int .i32 65533)), (3, (.int .i64 1))] h46) (fun k12 =>
k12 .normal [(0, (get tT_4 0)), (5, (get tT_4 5)), (8, (get tT_4 8)), (10, (get tT_4 10)), (11, t69)] h46) (seqK (fun tT_5 h47 =>
bareK (xbin P .leq T.int (.tmp 76) (.const (.int .i64 3)) (get tT_5 8) (.int .i64 3)) h47 fun t77 h48 =>
mc t77 (fun k13 => bareK (xbin P .and T.uint8 (.tmp 78) (.const (.int .u8 15)) (get tT_5 5) (.int .u8 15)) h48 fun t79 h49 =>
bothK (xconv P T.uint8 T.int32 t79 h49) fun t80 h50 =>
bareK (xbin P .shl T.int32 (.tmp 80) (.const (.int .u64 12)) t80 (.int .u64 12)) h50 fun t81 h51 =>
bareK (xbin P .and T.uint8 (.tmp 82) (.const (.int .u8 63)) (get tT_5 10) (.int .u8 63)) h51 fun t83 h52 =>
bothK (xconv P T.uint8 T.int32 t83 h52) fun t84 h53 =>
bareK (xbin P .shl T.int32 (.tmp 84) (.const (.int .u64 6)) t84 (.int .u64 6)) h53 fun t85 h54 =>
bareK (xbin P .or T.int32 (.tmp 81) (.tmp 85) t81 t85) h54 fun t86 h55 =>
bareK (xbin P .and T.uint8 (.tmp 87) (.const (.int .u8 63)) (get tT_5 11) (.int .u8 63)) h55 fun t88 h56 =>
bothK (xconv P T.uint8 T.int32 t88 h56) fun t89 h57 =>
bareK (xbin P .or T.int32 (.tmp 86) (.tmp 89) t86 t89) h57 fun t90 h58 =>
k13 .ret [(2, t90), (3, (.int .i64 3))] h58) (fun k13 =>
k13 .normal [(0, (get tT_5 0)), (5, (get tT_5 5)), (10, (get tT_5 10)), (11, (get tT_5 11))] h48) (seqK (fun tT_6 h59 =>
bareK (xindex P T.string (get tT_6 0) (.int .i64 3)) h59 fun t92 h60 =>
bareK (xbin P .lss T.uint8 (.tmp 93) (.const (.int .u8 128)) t92 (.int .u8 128)) h60 fun t94 h61 =>
mg t94 false (fun o14 => o14 t92 h61) h61 fun t96 h62 =>
mg t94 false (fun o15 => bareK (xbin P .lss T.uint8 (.const (.int .u8 191)) (.tmp 96) (.int .u8 191) t96) h62 o15) h62 fun t97 h63 =>
pickK t94 (.bool true) t97 fun t98 =>
mc t98 (fun k16 => k16 .ret [(2, (.int .i32 65533)), (3, (.int .i64 1))] h63) (fun k16 =>
k16 .normal [(5, (get tT_6 5)), (10, (get tT_6 10)), (11, (get tT_6 11)), (12, t92)] h63) (seqK (fun tT_7 h64 =>
bareK (xbin P .and T.uint8 (.tmp 99) (.const (.int .u8 7)) (get tT_7 5) (.int .u8 7)) h64 fun t100 h65 =>
bothK (xconv P T.uint8 T.int32 t100 h65) fun t101 h66 =>
bareK (xbin P .shl T.int32 (.tmp 101) (.const (.int .u64 18)) t101 (.int .u64 18)) h66 fun t102 h67 =>
bareK (xbin P .and T.uint8 (.tmp 103) (.const (.int .u8 63)) (get tT_7 10) (.int .u8 63)) h67 fun t104 h68 =>
bothK (xconv P T.uint8 T.int32 t104 h68) fun t105 h69 =>
bareK (xbin P .shl T.int32 (.tmp 105) (.const (.int .u64 12)) t105 (.int .u64 12)) h69 fun t106 h70 =>
bareK (xbin P .or T.int32 (.tmp 102) (.tmp 106) t102 t106) h70 fun t107 h71 =>
bareK (xbin P .and T.uint8 (.tmp 108) (.const (.int .u8 63)) (get tT_7 11) (.int .u8 63)) h71 fun t109 h72 =>
bothK (xconv P T.uint8 T.int32 t109 h72) fun t110 h73 =>
bareK (xbin P .shl T.int32 (.tmp 110) (.const (.int .u64 6)) t110 (.int .u64 6)) h73 fun t111 h74 =>
bareK (xbin P .or T.int32 (.tmp 107) (.tmp 111) t107 t111) h74 fun t112 h75 =>
bareK (xbin P .and T.uint8 (.tmp 113) (.const (.int .u8 63)) (get tT_7 12) (.int .u8 63)) h75 fun t114 h76 =>
bothK (xconv P T.uint8 T.int32 t114 h76) fun t115 h77 =>
bareK (xbin P .or T.int32 (.tmp 112) (.tmp 115) t112 t115) h77 fun t116 h78 =>
K0 .ret [(2, t116), (3, (.int .i64 4))] h78) K0)) K0)) K0)) K0)) K0)) K0)) K0)) K0)

theorem s_unicode_utf8_decodeRuneInStringSlow_eq (M : CombL) (C : CallF) (LP : LoopH) (a0 : Value) (H : AHeap) : dBodyL M Tryd.prog hints C LP F.unicode_utf8_decodeRuneInStringSlow [a0] H = s_unicode_utf8_decodeRuneInStringSlow M.b.g M.c M.s Tryd.prog C a0 H (endK Tryd.prog [.tmp 2, .tmp 3]) := by kernel_rfl

/-! internal.stringslite.IndexByte -/

noncomputable def s_internal_stringslite_IndexByte (mg : GT) (mc : CT) (ms : ST) (P : Program) (C : CallF) (a0 : Value) (a1 : Value) (H : AHeap) (K0 : K) : Res :=
bareK (xext P Tryd.f88 [a0, a1] H) H fun t7 h1 =>
K0 .ret [(4, t7)] h1

theorem s_internal_stringslite_IndexByte_eq (M : CombL) (C : CallF) (LP : LoopH) (a0 : Value) (a1 : Value) (H : AHeap) : dBodyL M Tryd.prog hints C LP F.internal_stringslite_IndexByte [a0, a1] H = s_internal_stringslite_IndexByte M.b.g M.c M.s Tryd.prog C a0 a1 H (endK Tryd.prog [.tmp 4]) := by kernel_rfl

/-! internal.bytealg.Cutover -/

noncomputable def s_internal_bytealg_Cutover (mg : GT) (mc : CT) (ms : ST) (P : Program) (C : CallF) (a0 : Value) (H : AHeap) (K0 : K) : Res :=
bareK (xbin P .add T.int (.tmp 3) (.const (.int .i64 16)) a0 (.int .i64 16)) H fun t4 h1 =>
bareK (xbin P .quo T.int (.tmp 4) (.const (.int .i64 8)) t4 (.int .i64 8)) h1 fun t5 h2 =>
K0 .ret [(2, t5)] h2

theorem s_internal_bytealg_Cutover_eq (M : CombL) (C : CallF) (LP : LoopH) (a0 : Value) (H : AHeap) : dBodyL M Tryd.prog hints C LP F.internal_bytealg_Cutover [a0] H = s_internal_bytealg_Cutover M.b.g M.c M.s Tryd.prog C a0 H (endK Tryd.prog [.tmp 2]) := by kernel_rfl

/-! internal.bytealg.IndexRabinKarp[string] -/

noncomputable def s_internal_bytealg_IndexRabinKarp_string (mg : GT) (mc : CT) (ms : ST) (P : Program) (C : CallF) (L0 : Value → Value → Value → Value → Value → Value → Value → AHeap → K → Res) (L1 : Value → Value → Value → Value → Value → Value → Value → AHeap → K → Res) (a0 : Value) (a1 : Value) (H : AHeap) (K0 : K) : Res :=
enterK C F.internal_bytealg_hashStr_string [a1] H fun t13 h1 =>
bareK (xextract t13 0) h1 fun t14 h2 =>
bareK (xextract t13 1) h2 fun t15 h3 =>
bareK (lenT a1) h3 fun t17 h4 =>
ms (fun k1 =>
L0 a0 a1 t14 t15 t17 (.int .u32 0) (.int .i64 0) h4 (blkK [0, 1, 5, 6, 7, 8] 0 k1)) (seqK (fun tT h5 =>
bareK (xbin P .eql T.uint32 (.tmp 30) (.tmp 31) (get tT 8) (get tT 5)) h5 fun t32 h6 =>
mg t32 true (fun o2 => o2 (get tT 0) h6) h6 fun t34 h7 =>
mg t32 true (fun o3 => o3 (get tT 7) h7) h7 fun t35 h8 =>
mg t32 true (fun o4 => bareK (slT t34 none (some t35)) h8 o4) h8 fun t36 h9 =>
mg t32 true (fun o5 => o5 (get tT 1) h9) h9 fun t37 h10 =>
mg t32 true (fun o6 => bareK (xbin P .eql T.string (.tmp 36) (.tmp 37) t36 t37) h10 o6) h10 fun t38 h11 =>
pickK t32 t38 (.bool false) fun t39 =>
mc t39 (fun k7 => k7 .ret [(4, (.int .i64 0))] h11) (fun k7 =>
k7 .normal [(0, (get tT 0)), (1, (get tT 1)), (5, (get tT 5)), (6, (get tT 6)), (7, (get tT 7)), (8, (get tT 8))] h11) (seqK (fun tT_1 h12 =>
ms (fun k8 =>
L1 (get tT_1 0) (get tT_1 1) (get tT_1 5) (get tT_1 6) (get tT_1 7) (get tT_1 8) (get tT_1 7) h12 (blkK [] 2 k8)) (seqK (fun tT_2 h13 =>
K0 .ret [(4, (.int .i64 (-1)))] h13) K0)) K0)) K0)

noncomputable def s_internal_bytealg_IndexRabinKarp_string_b0 (mg : GT) (mc : CT) (ms : ST) (P : Program) (C : CallF) (L0 : Value → Value → Value → Value → Value → Value → Value → AHeap → K → Res) (L1 : Value → Value → Value → Value → Value → Value → Value → AHeap → K → Res) (v0 : Value) (v1 : Value) (v5 : Value) (v6 : Value) (v7 : Value) (v8 : Value) (v9 : Value) (H : AHeap) (k : K) : Res :=
bareK (xbin P .lss T.int (.tmp 18) (.tmp 19) v9 v7) H fun t20 h5 =>
mc t20 (fun k2 => k2 .normal [(0, v0), (1, v1), (5, v5), (6, v6), (7, v7), (8, v8), (9, v9)] h5) (fun k2 =>
k2 (.exit 0) [(20, t20), (19, v7), (18, v9), (0, v0), (1, v1), (5, v5), (6, v6), (7, v7), (8, v8), (9, v9)] h5) (seqK (fun tT h6 =>
ms (fun k3 =>
bareK (xbin P .mul T.uint32 (.tmp 23) (.const (.int .u32 16777619)) (get tT 8) (.int .u32 16777619)) h6 fun t24 h7 =>
bareK (xindex P T.string (get tT 0) (get tT 9)) h7 fun t27 h8 =>
bothK (xconv P T.uint8 T.uint32 t27 h8) fun t28 h9 =>
bareK (xbin P .add T.uint32 (.tmp 24) (.tmp 28) t24 t28) h9 fun t29 h10 =>
k3 .normal [(0, (get tT 0)), (1, (get tT 1)), (5, (get tT 5)), (6, (get tT 6)), (7, (get tT 7)), (8, t29), (9, (get tT 9))] h10) (seqK (fun tT_1 h11 =>
bareK (xbin P .add T.int (.tmp 21) (.const (.int .i64 1)) (get tT_1 9) (.int .i64 1)) h11 fun t22 h12 =>
k .normal [(0, (get tT_1 0)), (1, (get tT_1 1)), (5, (get tT_1 5)), (6, (get tT_1 6)), (7, (get tT_1 7)), (8, (get tT_1 8)), (9, t22)] h12) (afterK [0, 1, 5, 6, 7, 8, 9] k))) (afterK [0, 1, 5, 6, 7, 8, 9] k))

noncomputable def s_internal_bytealg_IndexRabinKarp_string_b1 (mg : GT) (mc : CT) (ms : ST) (P : Program) (C : CallF) (L0 : Value → Value → Value → Value → Value → Value → Value → AHeap → K → Res) (L1 : Value → Value → Value → Value → Value → Value → Value → AHeap → K → Res) (v0 : Value) (v1 : Value) (v5 : Value) (v6 : Value) (v7 : Value) (v8 : Value) (v10 : Value) (H : AHeap) (k : K) : Res :=
bareK (lenT v0) H fun t43 h13 =>
bareK (xbin P .lss T.int (.tmp 41) (.tmp 43) v10 t43) h13 fun t44 h14 =>
mc t44 (fun k9 => k9 .normal [(0, v0), (1, v1), (5, v5), (6, v6), (7, v7), (8, v8), (10, v10)] h14) (fun k9 =>
k9 (.exit 2) [(44, t44), (43, t43), (42, v0), (41, v10), (0, v0), (1, v1), (5, v5), (6, v6), (7, v7), (8, v8), (10, v10)] h14) (seqK (fun tT h15 =>
ms (fun k10 =>
bareK (xbin P .mul T.uint32 (.tmp 45) (.const (.int .u32 16777619)) (get tT 8) (.int .u32 16777619)) h15 fun t46 h16 =>
bareK (xindex P T.string (get tT 0) (get tT 10)) h16 fun t50 h17 =>
bothK (xconv P T.uint8 T.uint32 t50 h17) fun t51 h18 =>
bareK (xbin P .add T.uint32 (.tmp 47) (.tmp 51) t46 t51) h18 fun t52 h19 =>
bareK (xbin P .sub T.int (.tmp 56) (.tmp 57) (get tT 10) (get tT 7)) h19 fun t58 h20 =>
bareK (xindex P T.string (get tT 0) t58) h20 fun t59 h21 =>
bothK (xconv P T.uint8 T.uint32 t59 h21) fun t60 h22 =>
bareK (xbin P .mul T.uint32 (.tmp 54) (.tmp 60) (get tT 6) t60) h22 fun t61 h23 =>
bareK (xbin P .sub T.uint32 (.tmp 53) (.tmp 61) t52 t61) h23 fun t62 h24 =>
bareK (xbin P .add T.int (.tmp 63) (.const (.int .i64 1)) (get tT 10) (.int .i64 1)) h24 fun t64 h25 =>
bareK (xbin P .eql T.uint32 (.tmp 65) (.tmp 66) t62 (get tT 5)) h25 fun t67 h26 =>
mg t67 true (fun o11 => o11 (get tT 0) h26) h26 fun t69 h27 =>
mg t67 true (fun o12 => o12 t64 h27) h27 fun t70 h28 =>
mg t67 true (fun o13 => o13 (get tT 7) h28) h28 fun t71 h29 =>
mg t67 true (fun o14 => bareK (xbin P .sub T.int (.tmp 70) (.tmp 71) t70 t71) h29 o14) h29 fun t72 h30 =>
mg t67 true (fun o15 => o15 t64 h30) h30 fun t73 h31 =>
mg t67 true (fun o16 => bareK (slT t69 (some t72) (some t73)) h31 o16) h31 fun t74 h32 =>
mg t67 true (fun o17 => o17 (get tT 1) h32) h32 fun t75 h33 =>
mg t67 true (fun o18 => bareK (xbin P .eql T.string (.tmp 74) (.tmp 75) t74 t75) h33 o18) h33 fun t76 h34 =>
pickK t67 t76 (.bool false) fun t77 =>
mc t77 (fun k19 => bareK (xbin P .sub T.int (.tmp 78) (.tmp 79) t64 (get tT 7)) h34 fun t80 h35 =>
k19 .ret [(4, t80)] h35) (fun k19 =>
k19 .normal [(0, (get tT 0)), (1, (get tT 1)), (5, (get tT 5)), (6, (get tT 6)), (7, (get tT 7)), (8, t62), (10, t64)] h34) (blkK [0, 1, 5, 6, 7, 8, 10] 3 k10)) (afterK [0, 1, 5, 6, 7, 8, 10] k)) (afterK [0, 1, 5, 6, 7, 8, 10] k))

theorem s_internal_bytealg_IndexRabinKarp_string_eq (M : CombL) (C : CallF) (LP : LoopH) (a0 : Value) (a1 : Value) (H : AHeap) : dBodyL M Tryd.prog hints C LP F.internal_bytealg_IndexRabinKarp_string [a0, a1] H = s_internal_bytealg_IndexRabinKarp_string M.b.g M.c M.s Tryd.prog C (fun v0 v1 v5 v6 v7 v8 v9 H k => loopL M Tryd.prog hints C LP F.internal_bytealg_IndexRabinKarp_string 0 [(0, v0), (1, v1), (5, v5), (6, v6), (7, v7), (8, v8), (9, v9)] H k) (fun v0 v1 v5 v6 v7 v8 v10 H k => loopL M Tryd.prog hints C LP F.internal_bytealg_IndexRabinKarp_string 1 [(0, v0), (1, v1), (5, v5), (6, v6), (7, v7), (8, v8), (10, v10)] H k) a0 a1 H (endK Tryd.prog [.tmp 4]) := by kernel_rfl

theorem s_internal_bytealg_IndexRabinKarp_string_b0_eq (M : CombL) (C : CallF) (LP : LoopH) (v0 : Value) (v1 : Value) (v5 : Value) (v6 : Value) (v7 : Value) (v8 : Value) (v9 : Value) (H : AHeap) (k : K) : bodyL M Tryd.prog hints C LP F.internal_bytealg_IndexRabinKarp_string 0 [(0, v0), (1, v1), (5, v5), (6, v6), (7, v7), (8, v8), (9, v9)] H (afterK [0, 1, 5, 6, 7, 8, 9] k) = s_internal_bytealg_IndexRabinKarp_string_b0 M.b.g M.c M.s Tryd.prog C (fun v0 v1 v5 v6 v7 v8 v9 H k => loopL M Tryd.prog hints C LP F.internal_bytealg_IndexRabinKarp_string 0 [(0, v0), (1, v1), (5, v5), (6, v6), (7, v7), (8, v8), (9, v9)] H k) (fun v0 v1 v5 v6 v7 v8 v10 H k => loopL M Tryd.prog hints C LP F.internal_bytealg_IndexRabinKarp_string 1 [(0, v0), (1, v1), (5, v5), (6, v6), (7, v7), (8, v8), (10, v10)] H k) v0 v1 v5 v6 v7 v8 v9 H k := by kernel_rfl

theorem s_internal_bytealg_IndexRabinKarp_string_b1_eq (M : CombL) (C : CallF) (LP : LoopH) (v0 : Value) (v1 : Value) (v5 : Value) (v6 : Value) (v7 : Value) (v8 : Value) (v10 : Value) (H : AHeap) (k : K) : bodyL M Tryd.prog hints C LP F.internal_bytealg_IndexRabinKarp_string 1 [(0, v0), (1, v1), (5, v5), (6, v6), (7, v7), (8, v8), (10, v10)] H (afterK [0, 1, 5, 6, 7, 8, 10] k) = s_internal_bytealg_IndexRabinKarp_string_b1 M.b.g M.c M.s Tryd.prog C (fun v0 v1 v5 v6 v7 v8 v9 H k => loopL M Tryd.prog hints C LP F.internal_bytealg_IndexRabinKarp_string 0 [(0, v0), (1, v1), (5, v5), (6, v6), (7, v7), (8, v8), (9, v9)] H k) (fun v0 v1 v5 v6 v7 v8 v10 H k => loopL M Tryd.prog hints C LP F.internal_bytealg_IndexRabinKarp_string 1 [(0, v0), (1, v1), (5, v5), (6, v6), (7, v7), (8, v8), (10, v10)] H k) v0 v1 v5 v6 v7 v8 v10 H k := by kernel_rfl

/-! internal.stringslite.Clone -/

noncomputable def s_internal_stringslite_Clone (mg : GT) (mc : CT) (ms : ST) (P : Program) (C : CallF) (a0 : Value) (H : AHeap) (K0 : K) : Res :=
bareK (lenT a0) H fun t5 h1 =>
bareK (xbin P .eql T.int (.tmp 5) (.const (.int .i64 0)) t5 (.int .i64 0)) h1 fun t6 h2 =>
mc t6 (fun k1 => k1 .ret [(2, (.string (mk [])))] h2) (fun k1 =>
k1 .normal [(0, a0)] h2) (seqK (fun tT h3 =>
bareK (lenT (get tT 0)) h3 fun t8 h4 =>
bothK (mkS T.uint8 [(.int .u8 0)] 1 t8 t8 h4) fun t9 h5 =>
bothK (cpy 1 t9 (get tT 0) h5) fun t12 h6 =>
bareK (ixS 1 t9 (.int .i64 0)) h6 fun t14 h7 =>
bareK (lenS t9) h7 fun t16 h8 =>
nextK C h8 (xbuiltin P .unsafeString [T.p_uint8, T.int] [t14, t16] h8) fun t17 h9 =>
K0 .ret [(2, t17)] h9) K0)

theorem s_internal_stringslite_Clone_eq (M : CombL) (C : CallF) (LP : LoopH) (a0 : Value) (H : AHeap) : dBodyL M Tryd.prog hints C LP F.internal_stringslite_Clone [a0] H = s_internal_stringslite_Clone M.b.g M.c M.s Tryd.prog C a0 H (endK Tryd.prog [.tmp 2]) := by kernel_rfl

/-! errors.New -/

noncomputable def s_errors_New (mg : GT) (mc : CT) (ms : ST) (P : Program) (C : CallF) (a0 : Value) (H : AHeap) (K0 : K) : Res :=
bareK (bldS #[(.string (mk []))] [(0, 1)] [(0, a0)]) H fun t4 h1 =>
bothK (newv T.errors_errorString t4 h1) fun t5 h2 =>
K0 .ret [(2, (.iface T.p_errors_errorString t5))] h2

theorem s_errors_New_eq (M : CombL) (C : CallF) (LP : LoopH) (a0 : Value) (H : AHeap) : dBodyL M Tryd.prog hints C LP F.errors_New [a0] H = s_errors_New M.b.g M.c M.s Tryd.prog C a0 H (endK Tryd.prog [.tmp 2]) := by kernel_rfl

/-! strconv.Itoa -/

noncomputable def s_strconv_Itoa (mg : GT) (mc : CT) (ms : ST) (P : Program) (C : CallF) (a0 : Value) (H : AHeap) (K0 : K) : Res :=
enterK C F.internal_strconv_Itoa [a0] H fun t4 h1 =>
K0 .ret [(2, t4)] h1

theorem s_strconv_Itoa_eq (M : CombL) (C : CallF) (LP : LoopH) (a0 : Value) (H : AHeap) : dBodyL M Tryd.prog hints C LP F.strconv_Itoa [a0] H = s_strconv_Itoa M.b.g M.c M.s Tryd.prog C a0 H (endK Tryd.prog [.tmp 2]) := by kernel_rfl

/-! internal.bytealg.hashStr[string] -/

noncomputable def s_internal_bytealg_hashStr_string (mg : GT) (mc : CT) (ms : ST) (P : Program) (C : CallF) (L0 : Value → Value → Value → AHeap → K → Res) (L1 : Value → Value → Value → Value → AHeap → K → Res) (a0 : Value) (H : AHeap) (K0 : K) : Res :=
ms (fun k1 =>
L0 a0 (.int .u32 0) (.int .i64 0) H (blkK [0, 4] 0 k1)) (seqK (fun tT h1 =>
bareK (lenT (get tT 0)) h1 fun t23 h2 =>
ms (fun k2 =>
L1 (get tT 4) (.int .u32 1) (.int .u32 16777619) t23 h2 (blkK [4, 6] 2 k2)) (seqK (fun tT_1 h3 =>
K0 .ret [(2, (get tT_1 4)), (3, (get tT_1 6))] h3) K0)) K0)

noncomputable def s_internal_bytealg_hashStr_string_b0 (mg : GT) (mc : CT) (ms : ST) (P : Program) (C : CallF) (L0 : Value → Value → Value → AHeap → K → Res) (L1 : Value → Value → Value → Value → AHeap → K → Res) (v0 : Value) (v4 : Value) (v5 : Value) (H : AHeap) (k : K) : Res :=
bareK (lenT v0) H fun t11 h1 =>
bareK (xbin P .lss T.int (.tmp 9) (.tmp 11) v5 t11) h1 fun t12 h2 =>
mc t12 (fun k2 => k2 .normal [(0, v0), (4, v4), (5, v5)] h2) (fun k2 =>
k2 (.exit 0) [(12, t12), (11, t11), (10, v0), (9, v5), (0, v0), (4, v4), (5, v5)] h2) (seqK (fun tT h3 =>
ms (fun k3 =>
bareK (xbin P .mul T.uint32 (.tmp 15) (.const (.int .u32 16777619)) (get tT 4) (.int .u32 16777619)) h3 fun t16 h4 =>
bareK (xindex P T.string (get tT 0) (get tT 5)) h4 fun t19 h5 =>
bothK (xconv P T.uint8 T.uint32 t19 h5) fun t20 h6 =>
bareK (xbin P .add T.uint32 (.tmp 16) (.tmp 20) t16 t20) h6 fun t21 h7 =>
k3 .normal [(0, (get tT 0)), (4, t21), (5, (get tT 5))] h7) (seqK (fun tT_1 h8 =>
bareK (xbin P .add T.int (.tmp 13) (.const (.int .i64 1)) (get tT_1 5) (.int .i64 1)) h8 fun t14 h9 =>
k .normal [(0, (get tT_1 0)), (4, (get tT_1 4)), (5, t14)] h9) (afterK [0, 4, 5] k))) (afterK [0, 4, 5] k))

noncomputable def s_internal_bytealg_hashStr_string_b1 (mg : GT) (mc : CT) (ms : ST) (P : Program) (C : CallF) (L0 : Value → Value → Value → AHeap → K → Res) (L1 : Value → Value → Value → Value → AHeap → K → Res) (v4 : Value) (v6 : Value) (v7 : Value) (v8 : Value) (H : AHeap) (k : K) : Res :=
bareK (xbin P .gtr T.int (.tmp 24) (.const (.int .i64 0)) v8 (.int .i64 0)) H fun t25 h3 =>
mc t25 (fun k3 => k3 .normal [(4, v4), (6, v6), (7, v7), (8, v8)] h3) (fun k3 =>
k3 (.exit 2) [(25, t25), (24, v8), (4, v4), (6, v6), (7, v7), (8, v8)] h3) (seqK (fun tT h4 =>
ms (fun k4 =>
bareK (xbin P .and T.int (.tmp 28) (.const (.int .i64 1)) (get tT 8) (.int .i64 1)) h4 fun t29 h5 =>
bareK (xbin P .neq T.int (.tmp 29) (.const (.int .i64 0)) t29 (.int .i64 0)) h5 fun t30 h6 =>
mc t30 (fun k5 => bareK (xbin P .mul T.uint32 (.tmp 31) (.tmp 32) (get tT 6) (get tT 7)) h6 fun t33 h7 =>
k5 .normal [(4, (get tT 4)), (6, t33), (7, (get tT 7)), (8, (get tT 8))] h7) (fun k5 =>
k5 .normal [(4, (get tT 4)), (6, (get tT 6)), (7, (get tT 7)), (8, (get tT 8))] h6) (seqK (fun tT_1 h8 =>
bareK (xbin P .mul T.uint32 (.tmp 34) (.tmp 35) (get tT_1 7) (get tT_1 7)) h8 fun t36 h9 =>
k4 .normal [(4, (get tT_1 4)), (6, (get tT_1 6)), (7, t36), (8, (get tT_1 8))] h9) (blkK [4, 6, 7, 8] 3 k4))) (seqK (fun tT_2 h10 =>
bareK (xbin P .shr T.int (.tmp 26) (.const (.int .u64 1)) (get tT_2 8) (.int .u64 1)) h10 fun t27 h11 =>
k .normal [(4, (get tT_2 4)), (6, (get tT_2 6)), (7, (get tT_2 7)), (8, t27)] h11) (afterK [4, 6, 7, 8] k))) (afterK [4, 6, 7, 8] k))

theorem s_internal_bytealg_hashStr_string_eq (M : CombL) (C : CallF) (LP : LoopH) (a0 : Value) (H : AHeap) : dBodyL M Tryd.prog hints C LP F.internal_bytealg_hashStr_string [a0] H = s_internal_bytealg_hashStr_string M.b.g M.c M.s Tryd.prog C (fun v0 v4 v5 H k => loopL M Tryd.prog hints C LP F.internal_bytealg_hashStr_string 0 [(0, v0), (4, v4), (5, v5)] H k) (fun v4 v6 v7 v8 H k => loopL M Tryd.prog hints C LP F.internal_bytealg_hashStr_string 1 [(4, v4), (6, v6), (7, v7), (8, v8)] H k) a0 H (endK Tryd.prog [.tmp 2, .tmp 3]) := by kernel_rfl

theorem s_internal_bytealg_hashStr_string_b0_eq (M : CombL) (C : CallF) (LP : LoopH) (v0 : Value) (v4 : Value) (v5 : Value) (H : AHeap) (k : K) : bodyL M Tryd.prog hints C LP F.internal_bytealg_hashStr_string 0 [(0, v0), (4, v4), (5, v5)] H (afterK [0, 4, 5] k) = s_internal_bytealg_hashStr_string_b0 M.b.g M.c M.s Tryd.prog C (fun v0 v4 v5 H k => loopL M Tryd.prog hints C LP F.internal_bytealg_hashStr_string 0 [(0, v0), (4, v4), (5, v5)] H k) (fun v4 v6 v7 v8 H k => loopL M Tryd.prog hints C LP F.internal_bytealg_hashStr_string 1 [(4, v4), (6, v6), (7, v7), (8, v8)] H k) v0 v4 v5 H k := by kernel_rfl

theorem s_internal_bytealg_hashStr_string_b1_eq (M : CombL) (C : CallF) (LP : LoopH) (v4 : Value) (v6 : Value) (v7 : Value) (v8 : Value) (H : AHeap) (k : K) : bodyL M Tryd.prog hints C LP F.internal_bytealg_hashStr_string 1 [(4, v4), (6, v6), (7, v7), (8, v8)] H (afterK [4, 6, 7, 8] k) = s_internal_bytealg_hashStr_string_b1 M.b.g M.c M.s Tryd.prog C (fun v0 v4 v5 H k => loopL M Tryd.prog hints C LP F.internal_bytealg_hashStr_string 0 [(0, v0), (4, v4), (5, v5)] H k) (fun v4 v6 v7 v8 H k => loopL M Tryd.prog hints C LP F.internal_bytealg_hashStr_string 1 [(4, v4), (6, v6), (7, v7), (8, v8)] H k) v4 v6 v7 v8 H k := by kernel_rfl

/-! internal.strconv.Itoa -/

noncomputable def s_internal_strconv_Itoa (mg : GT) (mc : CT) (ms : ST) (P : Program) (C : CallF) (a0 : Value) (H : AHeap) (K0 : K) : Res :=
enterK C F.internal_strconv_FormatInt [a0, (.int .i64 10)] H fun t4 h1 =>
K0 .ret [(2, t4)] h1

theorem s_internal_strconv_Itoa_eq (M : CombL) (C : CallF) (LP : LoopH) (a0 : Value) (H : AHeap) : dBodyL M Tryd.prog hints C LP F.internal_strconv_Itoa [a0] H = s_internal_strconv_Itoa M.b.g M.c M.s Tryd.prog C a0 H (endK Tryd.prog [.tmp 2]) := by kernel_rfl

/-! internal.strconv.FormatInt -/

noncomputable def s_internal_strconv_FormatInt (mg : GT) (mc : CT) (ms : ST) (P : Program) (C : CallF) (a0 : Value) (a1 : Value) (H : AHeap) (K0 : K) : Res :=
bareK (xbin P .eql T.int (.tmp 10) (.const (.int .i64 10)) a1 (.int .i64 10)) H fun t11 h1 =>
mc t11 (fun k1 => bareK (xbin P .leq T.int64 (.const (.int .i64 0)) (.tmp 12) (.int .i64 0) a0) h1 fun t13 h2 =>
mg t13 true (fun o2 => o2 a0 h2) h2 fun t15 h3 =>
mg t13 true (fun o3 => bareK (xbin P .lss T.int64 (.tmp 15) (.const (.int .i64 100)) t15 (.int .i64 100)) h3 o3) h3 fun t16 h4 =>
pickK t13 t16 (.bool false) fun t17 =>
mc t17 (fun k4 => enterK C F.internal_strconv_small [a0] h4 fun t19 h5 =>
k4 .ret [(4, t19)] h5) (fun k4 =>
k4 .normal [(0, a0)] h4) (seqK (fun tT h6 =>
bothK (newv T.n24_uint8 (.agg #[(.int .u8 0), (.int .u8 0), (.int .u8 0), (.int .u8 0), (.int .u8 0), (.int .u8 0), (.int .u8 0), (.int .u8 0), (.int .u8 0), (.int .u8 0), (.int .u8 0), (.int .u8 0), (.int .u8 0), (.int .u8 0), (.int .u8 0), (.int .u8 0), (.int .u8 0), (.int .u8 0), (.int .u8 0), (.int .u8 0), (.int .u8 0), (.int .u8 0), (.int .u8 0), (.int .u8 0)]) h6) fun t5 h7 =>
bothK (xconv P T.int64 T.uint64 (get tT 0) h7) fun t21 h8 =>
bareK (xbin P .lss T.int64 (.tmp 22) (.const (.int .i64 0)) (get tT 0) (.int .i64 0)) h8 fun t23 h9 =>
mc t23 (fun k5 => bareK (xun P .neg t21) h9 fun t25 h10 =>
k5 .normal [(0, (get tT 0)), (5, t5), (6, t25)] h10) (fun k5 =>
k5 .normal [(0, (get tT 0)), (5, t5), (6, t21)] h9) (seqK (fun tT_1 h11 =>
enterK C F.internal_strconv_numDigits [(get tT_1 6)] h11 fun t27 h12 =>
bareK (xbin P .add T.int (.const (.int .i64 1)) (.tmp 28) (.int .i64 1) t27) h12 fun t29 h13 =>
bareK (slA 24 1 (get tT_1 5) (some (.int .i64 1)) (some t29)) h13 fun t30 h14 =>
enterK C F.internal_strconv_formatBase10 [t30, (get tT_1 6)] h14 fun t32 h15 =>
bareK (xbin P .lss T.int64 (.tmp 33) (.const (.int .i64 0)) (get tT_1 0) (.int .i64 0)) h15 fun t34 h16 =>
mc t34 (fun k6 => bareK (ixA 24 1 (get tT_1 5) (.int .i64 0)) h16 fun t35 h17 =>
quietK (st1 h17 t35 (.int .u8 45)) fun _ h18 =>
bareK (xbin P .add T.int (.const (.int .i64 1)) (.tmp 36) (.int .i64 1) t27) h18 fun t37 h19 =>
bareK (slA 24 1 (get tT_1 5) none (some t37)) h19 fun t38 h20 =>
bothK (xconv P T.sl_uint8 T.string t38 h20) fun t39 h21 =>
k6 .ret [(4, t39)] h21) (fun k6 =>
k6 .normal [(5, (get tT_1 5)), (7, t27)] h16) (seqK (fun tT_2 h22 =>
bareK (xbin P .add T.int (.const (.int .i64 1)) (.tmp 40) (.int .i64 1) (get tT_2 7)) h22 fun t41 h23 =>
bareK (slA 24 1 (get tT_2 5) (some (.int .i64 1)) (some t41)) h23 fun t42 h24 =>
bothK (xconv P T.sl_uint8 T.string t42 h24) fun t43 h25 =>
k1 .ret [(4, t43)] h25) (afterK [0, 1] k1))) (afterK [0, 1] k1))) (afterK [0, 1] k1))) (fun k1 =>
k1 .normal [(0, a0), (1, a1)] h1) (seqK (fun tT_3 h26 =>
bothK (xconv P T.int64 T.uint64 (get tT_3 0) h26) fun t46 h27 =>
bareK (xbin P .lss T.int64 (.tmp 48) (.const (.int .i64 0)) (get tT_3 0) (.int .i64 0)) h27 fun t49 h28 =>
enterK C F.internal_strconv_formatBits [(.slice none 0 0), t46, (get tT_3 1), t49, (.bool false)] h28 fun t50 h29 =>
bareK (xextract t50 0) h29 fun t51 h30 =>
bareK (xextract t50 1) h30 fun t52 h31 =>
K0 .ret [(4, t52)] h31) K0)

theorem s_internal_strconv_FormatInt_eq (M : CombL) (C : CallF) (LP : LoopH) (a0 : Value) (a1 : Value) (H : AHeap) : dBodyL M Tryd.prog hints C LP F.internal_strconv_FormatInt [a0, a1] H = s_internal_strconv_FormatInt M.b.g M.c M.s Tryd.prog C a0 a1 H (endK Tryd.prog [.tmp 4]) := by kernel_rfl

/-! internal.strconv.small -/

noncomputable def s_internal_strconv_small (mg : GT) (mc : CT) (ms : ST) (P : Program) (C : CallF) (a0 : Value) (H : AHeap) (K0 : K) : Res :=
bareK (xbin P .lss T.int (.tmp 3) (.const (.int .i64 10)) a0 (.int .i64 10)) H fun t4 h1 =>
mc t4 (fun k1 => bareK (xbin P .add T.int (.tmp 6) (.const (.int .i64 1)) a0 (.int .i64 1)) h1 fun t7 h2 =>
bareK (slT (.string (mk [48, 49, 50, 51, 52, 53, 54, 55, 56, 57, 97, 98, 99, 100, 101, 102, 103, 104, 105, 106, 107, 108, 109, 110, 111, 112, 113, 114, 115, 116, 117, 118, 119, 120, 121, 122])) (some a0) (some t7)) h2 fun t8 h3 =>
k1 .ret [(2, t8)] h3) (fun k1 =>
k1 .normal [(0, a0)] h1) (seqK (fun tT h4 =>
bareK (xbin P .mul T.int (.tmp 9) (.const (.int .i64 2)) (get tT 0) (.int .i64 2)) h4 fun t10 h5 =>
bareK (xbin P .mul T.int (.tmp 11) (.const (.int .i64 2)) (get tT 0) (.int .i64 2)) h5 fun t12 h6 =>
bareK (xbin P .add T.int (.tmp 12) (.const (.int .i64 2)) t12 (.int .i64 2)) h6 fun t13 h7 =>
bareK (slT (.string (mk [48, 48, 48, 49, 48, 50, 48, 51, 48, 52, 48, 53, 48, 54, 48, 55, 48, 56, 48, 57, 49, 48, 49, 49, 49, 50, 49, 51, 49, 52, 49, 53, 49, 54, 49, 55, 49, 56, 49, 57, 50, 48, 50, 49, 50, 50, 50, 51, 50, 52, 50, 53, 50, 54, 50, 55, 50, 56, 50, 57, 51, 48, 51, 49, 51, 50, 51, 51, 51, 52, 51, 53, 51, 54, 51, 55, 51, 56, 51, 57, 52, 48, 52, 49, 52, 50, 52, 51, 52, 52, 52, 53, 52, 54, 52, 55, 52, 56, 52, 57, 53, 48, 53, 49, 53, 50, 53, 51, 53, 52, 53, 53, 53, 54, 53, 55, 53, 56, 53, 57, 54, 48, 54, 49, 54, 50, 54, 51, 54, 52, 54, 53, 54, 54, 54, 55, 54, 56, 54, 57, 55, 48, 55, 49, 55, 50, 55, 51, 55, 52, 55, 53, 55, 54, 55, 55, 55, 56, 55, 57, 56, 48, 56, 49, 56, 50, 56, 51, 56, 52, 56, 53, 56, 54, 56, 55, 56, 56, 56, 57, 57, 48, 57, 49, 57, 50, 57, 51, 57, 52, 57, 53, 57, 54, 57, 55, 57, 56, 57, 57])) (some t10) (some t13)) h7 fun t14 h8 =>
K0 .ret [(2, t14)] h8) K0)

theorem s_internal_strconv_small_eq (M : CombL) (C : CallF) (LP : LoopH) (a0 : Value) (H : AHeap) : dBodyL M Tryd.prog hints C LP F.internal_strconv_small [a0] H = s_internal_strconv_small M.b.g M.c M.s Tryd.prog C a0 H (endK Tryd.prog [.tmp 2]) := by kernel_rfl

/-! internal.strconv.numDigits -/

noncomputable def s_internal_strconv_numDigits (mg : GT) (mc : CT) (ms : ST) (P : Program) (C : CallF) (a0 : Value) (H : AHeap) (K0 : K) : Res :=
enterK C F.math_bits_Len64 [a0] H fun t5 h1 =>
enterK C F.internal_strconv_log10Pow2 [t5] h1 fun t6 h2 =>
bareK (ixA 20 1 top t6) h2 fun t10 h3 =>
bareK (ld1 h3 t10) h3 fun t11 h4 =>
bareK (xbin P .geq T.uint64 (.tmp 8) (.tmp 11) a0 t11) h4 fun t12 h5 =>
enterK C F.internal_strconv_bool2_int [t12] h5 fun t13 h6 =>
bareK (xbin P .add T.int (.tmp 7) (.tmp 13) t6 t13) h6 fun t14 h7 =>
K0 .ret [(2, t14)] h7

theorem s_internal_strconv_numDigits_eq (M : CombL) (C : CallF) (LP : LoopH) (a0 : Value) (H : AHeap) : dBodyL M Tryd.prog hints C LP F.internal_strconv_numDigits [a0] H = s_internal_strconv_numDigits M.b.g M.c M.s Tryd.prog C a0 H (endK Tryd.prog [.tmp 2]) := by kernel_rfl

/-! internal.strconv.formatBase10 -/

noncomputable def s_internal_strconv_formatBase10 (mg : GT) (mc : CT) (ms : ST) (P : Program) (C : CallF) (L0 : Value → Value → Value → AHeap → K → Res) (a0 : Value) (a1 : Value) (H : AHeap) (K0 : K) : Res :=
bareK (lenS a0) H fun t18 h1 =>
ms (fun k1 =>
L0 a0 a1 t18 h1 (blkK [0, 1, 4] 0 k1)) (seqK (fun tT h2 =>
bothK (xconv P T.uint64 T.uint32 (get tT 1) h2) fun t97 h3 =>
bareK (xbin P .geq T.int (.tmp 98) (.const (.int .i64 4)) (get tT 4) (.int .i64 4)) h3 fun t99 h4 =>
mc t99 (fun k2 => bareK (xbin P .rem T.uint32 (.tmp 100) (.const (.int .u32 10000)) t97 (.int .u32 10000)) h4 fun t101 h5 =>
bareK (xbin P .quo T.uint32 (.tmp 102) (.const (.int .u32 10000)) t97 (.int .u32 10000)) h5 fun t103 h6 =>
bareK (xbin P .quo T.uint32 (.tmp 104) (.const (.int .u32 100)) t101 (.int .u32 100)) h6 fun t105 h7 =>
bareK (xbin P .mul T.uint32 (.tmp 105) (.const (.int .u32 2)) t105 (.int .u32 2)) h7 fun t106 h8 =>
bareK (xbin P .rem T.uint32 (.tmp 107) (.const (.int .u32 100)) t101 (.int .u32 100)) h8 fun t108 h9 =>
bareK (xbin P .mul T.uint32 (.tmp 108) (.const (.int .u32 2)) t108 (.int .u32 2)) h9 fun t109 h10 =>
bareK (xbin P .sub T.int (.tmp 111) (.const (.int .i64 1)) (get tT 4) (.int .i64 1)) h10 fun t112 h11 =>
bareK (xbin P .sub T.int (.tmp 114) (.const (.int .i64 2)) (get tT 4) (.int .i64 2)) h11 fun t115 h12 =>
bareK (xbin P .add T.uint32 (.tmp 116) (.const (.int .u32 1)) t109 (.int .u32 1)) h12 fun t117 h13 =>
bareK (xindex P T.string (.string (mk [48, 48, 48, 49, 48, 50, 48, 51, 48, 52, 48, 53, 48, 54, 48, 55, 48, 56, 48, 57, 49, 48, 49, 49, 49, 50, 49, 51, 49, 52, 49, 53, 49, 54, 49, 55, 49, 56, 49, 57, 50, 48, 50, 49, 50, 50, 50, 51, 50, 52, 50, 53, 50, 54, 50, 55, 50, 56, 50, 57, 51, 48, 51, 49, 51, 50, 51, 51, 51, 52, 51, 53, 51, 54, 51, 55, 51, 56, 51, 57, 52, 48, 52, 49, 52, 50, 52, 51, 52, 52, 52, 53, 52, 54, 52, 55, 52, 56, 52, 57, 53, 48, 53, 49, 53, 50, 53, 51, 53, 52, 53, 53, 53, 54, 53, 55, 53, 56, 53, 57, 54, 48, 54, 49, 54, 50, 54, 51, 54, 52, 54, 53, 54, 54, 54, 55, 54, 56, 54, 57, 55, 48, 55, 49, 55, 50, 55, 51, 55, 52, 55, 53, 55, 54, 55, 55, 55, 56, 55, 57, 56, 48, 56, 49, 56, 50, 56, 51, 56, 52, 56, 53, 56, 54, 56, 55, 56, 56, 56, 57, 57, 48, 57, 49, 57, 50, 57, 51, 57, 52, 57, 53, 57, 54, 57, 55, 57, 56, 57, 57])) t117) h13 fun t118 h14 =>
bareK (xindex P T.string (.string (mk [48, 48, 48, 49, 48, 50, 48, 51, 48, 52, 48, 53, 48, 54, 48, 55, 48, 56, 48, 57, 49, 48, 49, 49, 49, 50, 49, 51, 49, 52, 49, 53, 49, 54, 49, 55, 49, 56, 49, 57, 50, 48, 50, 49, 50, 50, 50, 51, 50, 52, 50, 53, 50, 54, 50, 55, 50, 56, 50, 57, 51, 48, 51, 49, 51, 50, 51, 51, 51, 52, 51, 53, 51, 54, 51, 55, 51, 56, 51, 57, 52, 48, 52, 49, 52, 50, 52, 51, 52, 52, 52, 53, 52, 54, 52, 55, 52, 56, 52, 57, 53, 48, 53, 49, 53, 50, 53, 51, 53, 52, 53, 53, 53, 54, 53, 55, 53, 56, 53, 57, 54, 48, 54, 49, 54, 50, 54, 51, 54, 52, 54, 53, 54, 54, 54, 55, 54, 56, 54, 57, 55, 48, 55, 49, 55, 50, 55, 51, 55, 52, 55, 53, 55, 54, 55, 55, 55, 56, 55, 57, 56, 48, 56, 49, 56, 50, 56, 51, 56, 52, 56, 53, 56, 54, 56, 55, 56, 56, 56, 57, 57, 48, 57, 49, 57, 50, 57, 51, 57, 52, 57, 53, 57, 54, 57, 55, 57, 56, 57, 57])) t109) h14 fun t120 h15 =>
bareK (ixS 1 (get tT 0) t112) h15 fun t121 h16 =>
quietK (st1 h16 t121 t118) fun _ h17 =>
bareK (ixS 1 (get tT 0) t115) h17 fun t122 h18 =>
quietK (st1 h18 t122 t120) fun _ h19 =>
checkK (okV (some true) none h16 h17 h11 h11 && (okV (some true) none h16 h17 h11 h11 && (okV (some true) none h16 h17 h11 h12 && (okV (some true) none h16 h17 h14 h14 && (okV (some true) none h16 h17 h14 h15 && true))))) <|
bareK (xbin P .sub T.int (.tmp 124) (.const (.int .i64 3)) (get tT 4) (.int .i64 3)) h19 fun t125 h20 =>
bareK (xbin P .sub T.int (.tmp 127) (.const (.int .i64 4)) (get tT 4) (.int .i64 4)) h20 fun t128 h21 =>
bareK (xbin P .add T.uint32 (.tmp 129) (.const (.int .u32 1)) t106 (.int .u32 1)) h21 fun t130 h22 =>
bareK (xindex P T.string (.string (mk [48, 48, 48, 49, 48, 50, 48, 51, 48, 52, 48, 53, 48, 54, 48, 55, 48, 56, 48, 57, 49, 48, 49, 49, 49, 50, 49, 51, 49, 52, 49, 53, 49, 54, 49, 55, 49, 56, 49, 57, 50, 48, 50, 49, 50, 50, 50, 51, 50, 52, 50, 53, 50, 54, 50, 55, 50, 56, 50, 57, 51, 48, 51, 49, 51, 50, 51, 51, 51, 52, 51, 53, 51, 54, 51, 55, 51, 56, 51, 57, 52, 48, 52, 49, 52, 50, 52, 51, 52, 52, 52, 53, 52, 54, 52, 55, 52, 56, 52, 57, 53, 48, 53, 49, 53, 50, 53, 51, 53, 52, 53, 53, 53, 54, 53, 55, 53, 56, 53, 57, 54, 48, 54, 49, 54, 50, 54, 51, 54, 52, 54, 53, 54, 54, 54, 55, 54, 56, 54, 57, 55, 48, 55, 49, 55, 50, 55, 51, 55, 52, 55, 53, 55, 54, 55, 55, 55, 56, 55, 57, 56, 48, 56, 49, 56, 50, 56, 51, 56, 52, 56, 53, 56, 54, 56, 55, 56, 56, 56, 57, 57, 48, 57, 49, 57, 50, 57, 51, 57, 52, 57, 53, 57, 54, 57, 55, 57, 56, 57, 57])) t130) h22 fun t131 h23 =>
bareK (xindex P T.string (.string (mk [48, 48, 48, 49, 48, 50, 48, 51, 48, 52, 48, 53, 48, 54, 48, 55, 48, 56, 48, 57, 49, 48, 49, 49, 49, 50, 49, 51, 49, 52, 49, 53, 49, 54, 49, 55, 49, 56, 49, 57, 50, 48, 50, 49, 50, 50, 50, 51, 50, 52, 50, 53, 50, 54, 50, 55, 50, 56, 50, 57, 51, 48, 51, 49, 51, 50, 51, 51, 51, 52, 51, 53, 51, 54, 51, 55, 51, 56, 51, 57, 52, 48, 52, 49, 52, 50, 52, 51, 52, 52, 52, 53, 52, 54, 52, 55, 52, 56, 52, 57, 53, 48, 53, 49, 53, 50, 53, 51, 53, 52, 53, 53, 53, 54, 53, 55, 53, 56, 53, 57, 54, 48, 54, 49, 54, 50, 54, 51, 54, 52, 54, 53, 54, 54, 54, 55, 54, 56, 54, 57, 55, 48, 55, 49, 55, 50, 55, 51, 55, 52, 55, 53, 55, 54, 55, 55, 55, 56, 55, 57, 56, 48, 56, 49, 56, 50, 56, 51, 56, 52, 56, 53, 56, 54, 56, 55, 56, 56, 56, 57, 57, 48, 57, 49, 57, 50, 57, 51, 57, 52, 57, 53, 57, 54, 57, 55, 57, 56, 57, 57])) t106) h23 fun t133 h24 =>
bareK (ixS 1 (get tT 0) t125) h24 fun t134 h25 =>
quietK (st1 h25 t134 t131) fun _ h26 =>
bareK (ixS 1 (get tT 0) t128) h26 fun t135 h27 =>
quietK (st1 h27 t135 t133) fun _ h28 =>
checkK (okV (some true) none h25 h26 h20 h20 && (okV (some true) none h25 h26 h20 h20 && (okV (some true) none h25 h26 h20 h21 && (okV (some true) none h25 h26 h23 h23 && (okV (some true) none h25 h26 h23 h24 && true))))) <|
bareK (xbin P .sub T.int (.tmp 136) (.const (.int .i64 4)) (get tT 4) (.int .i64 4)) h28 fun t137 h29 =>
k2 .normal [(0, (get tT 0)), (4, t137), (12, t103)] h29) (fun k2 =>
k2 .normal [(0, (get tT 0)), (4, (get tT 4)), (12, t97)] h4) (seqK (fun tT_1 h30 =>
bareK (xbin P .geq T.int (.tmp 138) (.const (.int .i64 2)) (get tT_1 4) (.int .i64 2)) h30 fun t139 h31 =>
mc t139 (fun k3 => bareK (xbin P .rem T.uint32 (.tmp 140) (.const (.int .u32 100)) (get tT_1 12) (.int .u32 100)) h31 fun t141 h32 =>
bareK (xbin P .mul T.uint32 (.tmp 141) (.const (.int .u32 2)) t141 (.int .u32 2)) h32 fun t142 h33 =>
bareK (xbin P .quo T.uint32 (.tmp 143) (.const (.int .u32 100)) (get tT_1 12) (.int .u32 100)) h33 fun t144 h34 =>
bareK (xbin P .sub T.int (.tmp 146) (.const (.int .i64 1)) (get tT_1 4) (.int .i64 1)) h34 fun t147 h35 =>
bareK (xbin P .sub T.int (.tmp 149) (.const (.int .i64 2)) (get tT_1 4) (.int .i64 2)) h35 fun t150 h36 =>
bareK (xbin P .add T.uint32 (.tmp 151) (.const (.int .u32 1)) t142 (.int .u32 1)) h36 fun t152 h37 =>
bareK (xindex P T.string (.string (mk [48, 48, 48, 49, 48, 50, 48, 51, 48, 52, 48, 53, 48, 54, 48, 55, 48, 56, 48, 57, 49, 48, 49, 49, 49, 50, 49, 51, 49, 52, 49, 53, 49, 54, 49, 55, 49, 56, 49, 57, 50, 48, 50, 49, 50, 50, 50, 51, 50, 52, 50, 53, 50, 54, 50, 55, 50, 56, 50, 57, 51, 48, 51, 49, 51, 50, 51, 51, 51, 52, 51, 53, 51, 54, 51, 55, 51, 56, 51, 57, 52, 48, 52, 49, 52, 50, 52, 51, 52, 52, 52, 53, 52, 54, 52, 55, 52, 56, 52, 57, 53, 48, 53, 49, 53, 50, 53, 51, 53, 52, 53, 53, 53, 54, 53, 55, 53, 56, 53, 57, 54, 48, 54, 49, 54, 50, 54, 51, 54, 52, 54, 53, 54, 54, 54, 55, 54, 56, 54, 57, 55, 48, 55, 49, 55, 50, 55, 51, 55, 52, 55, 53, 55, 54, 55, 55, 55, 56, 55, 57, 56, 48, 56, 49, 56, 50, 56, 51, 56, 52, 56, 53, 56, 54, 56, 55, 56, 56, 56, 57, 57, 48, 57, 49, 57, 50, 57, 51, 57, 52, 57, 53, 57, 54, 57, 55, 57, 56, 57, 57])) t152) h37 fun t153 h38 =>
bareK (xindex P T.string (.string (mk [48, 48, 48, 49, 48, 50, 48, 51, 48, 52, 48, 53, 48, 54, 48, 55, 48, 56, 48, 57, 49, 48, 49, 49, 49, 50, 49, 51, 49, 52, 49, 53, 49, 54, 49, 55, 49, 56, 49, 57, 50, 48, 50, 49, 50, 50, 50, 51, 50, 52, 50, 53, 50, 54, 50, 55, 50, 56, 50, 57, 51, 48, 51, 49, 51, 50, 51, 51, 51, 52, 51, 53, 51, 54, 51, 55, 51, 56, 51, 57, 52, 48, 52, 49, 52, 50, 52, 51, 52, 52, 52, 53, 52, 54, 52, 55, 52, 56, 52, 57, 53, 48, 53, 49, 53, 50, 53, 51, 53, 52, 53, 53, 53, 54, 53, 55, 53, 56, 53, 57, 54, 48, 54, 49, 54, 50, 54, 51, 54, 52, 54, 53, 54, 54, 54, 55, 54, 56, 54, 57, 55, 48, 55, 49, 55, 50, 55, 51, 55, 52, 55, 53, 55, 54, 55, 55, 55, 56, 55, 57, 56, 48, 56, 49, 56, 50, 56, 51, 56, 52, 56, 53, 56, 54, 56, 55, 56, 56, 56, 57, 57, 48, 57, 49, 57, 50, 57, 51, 57, 52, 57, 53, 57, 54, 57, 55, 57, 56, 57, 57])) t142) h38 fun t155 h39 =>
bareK (ixS 1 (get tT_1 0) t147) h39 fun t156 h40 =>
quietK (st1 h40 t156 t153) fun _ h41 =>
bareK (ixS 1 (get tT_1 0) t150) h41 fun t157 h42 =>
quietK (st1 h42 t157 t155) fun _ h43 =>
checkK (okV (some true) none h40 h41 h35 h35 && (okV (some true) none h40 h41 h35 h35 && (okV (some true) none h40 h41 h35 h36 && (okV (some true) none h40 h41 h38 h38 && (okV (some true) none h40 h41 h38 h39 && true))))) <|
bareK (xbin P .sub T.int (.tmp 158) (.const (.int .i64 2)) (get tT_1 4) (.int .i64 2)) h43 fun t159 h44 =>
k3 .normal [(0, (get tT_1 0)), (4, t159), (12, t144)] h44) (fun k3 =>
k3 .normal [(0, (get tT_1 0)), (4, (get tT_1 4)), (12, (get tT_1 12))] h31) (seqK (fun tT_2 h45 =>
bareK (xbin P .gtr T.int (.tmp 160) (.const (.int .i64 0)) (get tT_2 4) (.int .i64 0)) h45 fun t161 h46 =>
mc t161 (fun k4 => bareK (xbin P .add T.uint32 (.const (.int .u32 48)) (.tmp 163) (.int .u32 48) (get tT_2 12)) h46 fun t164 h47 =>
bothK (xconv P T.uint32 T.uint8 t164 h47) fun t165 h48 =>
bareK (ixS 1 (get tT_2 0) (.int .i64 0)) h48 fun t166 h49 =>
quietK (st1 h49 t166 t165) fun _ h50 =>
k4 .normal [] h50) (fun k4 =>
k4 .normal [] h46) K0) K0)) K0)) K0)

noncomputable def s_internal_strconv_formatBase10_b0 (mg : GT) (mc : CT) (ms : ST) (P : Program) (C : CallF) (L0 : Value → Value → Value → AHeap → K → Res) (v0 : Value) (v1 : Value) (v4 : Value) (H : AHeap) (k : K) : Res :=
bareK (xbin P .geq T.int (.tmp 19) (.const (.int .i64 8)) v4 (.int .i64 8)) H fun t20 h2 =>
mc t20 (fun k2 => k2 .normal [(0, v0), (1, v1), (4, v4)] h2) (fun k2 =>
k2 (.exit 0) [(20, t20), (19, v4), (0, v0), (1, v1), (4, v4)] h2) (seqK (fun tT h3 =>
ms (fun k3 =>
bareK (xbin P .rem T.uint64 (.tmp 21) (.const (.int .u64 100000000)) (get tT 1) (.int .u64 100000000)) h3 fun t22 h4 =>
bothK (xconv P T.uint64 T.uint32 t22 h4) fun t23 h5 =>
bareK (xbin P .quo T.uint64 (.tmp 24) (.const (.int .u64 100000000)) (get tT 1) (.int .u64 100000000)) h5 fun t25 h6 =>
bareK (xbin P .quo T.uint32 (.tmp 26) (.const (.int .u32 10000)) t23 (.int .u32 10000)) h6 fun t27 h7 =>
bareK (xbin P .rem T.uint32 (.tmp 28) (.const (.int .u32 10000)) t23 (.int .u32 10000)) h7 fun t29 h8 =>
bareK (xbin P .quo T.uint32 (.tmp 30) (.const (.int .u32 100)) t29 (.int .u32 100)) h8 fun t31 h9 =>
bareK (xbin P .mul T.uint32 (.tmp 31) (.const (.int .u32 2)) t31 (.int .u32 2)) h9 fun t32 h10 =>
bareK (xbin P .rem T.uint32 (.tmp 33) (.const (.int .u32 100)) t29 (.int .u32 100)) h10 fun t34 h11 =>
bareK (xbin P .mul T.uint32 (.tmp 34) (.const (.int .u32 2)) t34 (.int .u32 2)) h11 fun t35 h12 =>
bareK (xbin P .quo T.uint32 (.tmp 36) (.const (.int .u32 100)) t27 (.int .u32 100)) h12 fun t37 h13 =>
bareK (xbin P .mul T.uint32 (.tmp 37) (.const (.int .u32 2)) t37 (.int .u32 2)) h13 fun t38 h14 =>
bareK (xbin P .rem T.uint32 (.tmp 39) (.const (.int .u32 100)) t27 (.int .u32 100)) h14 fun t40 h15 =>
bareK (xbin P .mul T.uint32 (.tmp 40) (.const (.int .u32 2)) t40 (.int .u32 2)) h15 fun t41 h16 =>
bareK (xbin P .sub T.int (.tmp 43) (.const (.int .i64 1)) (get tT 4) (.int .i64 1)) h16 fun t44 h17 =>
bareK (xbin P .sub T.int (.tmp 46) (.const (.int .i64 2)) (get tT 4) (.int .i64 2)) h17 fun t47 h18 =>
bareK (xbin P .add T.uint32 (.tmp 48) (.const (.int .u32 1)) t35 (.int .u32 1)) h18 fun t49 h19 =>
bareK (xindex P T.string (.string (mk [48, 48, 48, 49, 48, 50, 48, 51, 48, 52, 48, 53, 48, 54, 48, 55, 48, 56, 48, 57, 49, 48, 49, 49, 49, 50, 49, 51, 49, 52, 49, 53, 49, 54, 49, 55, 49, 56, 49, 57, 50, 48, 50, 49, 50, 50, 50, 51, 50, 52, 50, 53, 50, 54, 50, 55, 50, 56, 50, 57, 51, 48, 51, 49, 51, 50, 51, 51, 51, 52, 51, 53, 51, 54, 51, 55, 51, 56, 51, 57, 52, 48, 52, 49, 52, 50, 52, 51, 52, 52, 52, 53, 52, 54, 52, 55, 52, 56, 52, 57, 53, 48, 53, 49, 53, 50, 53, 51, 53, 52, 53, 53, 53, 54, 53, 55, 53, 56, 53, 57, 54, 48, 54, 49, 54, 50, 54, 51, 54, 52, 54, 53, 54, 54, 54, 55, 54, 56, 54, 57, 55, 48, 55, 49, 55, 50, 55, 51, 55, 52, 55, 53, 55, 54, 55, 55, 55, 56, 55, 57, 56, 48, 56, 49, 56, 50, 56, 51, 56, 52, 56, 53, 56, 54, 56, 55, 56, 56, 56, 57, 57, 48, 57, 49, 57, 50, 57, 51, 57, 52, 57, 53, 57, 54, 57, 55, 57, 56, 57, 57])) t49) h19 fun t50 h20 =>
bareK (xindex P T.string (.string (mk [48, 48, 48, 49, 48, 50, 48, 51, 48, 52, 48, 53, 48, 54, 48, 55, 48, 56, 48, 57, 49, 48, 49, 49, 49, 50, 49, 51, 49, 52, 49, 53, 49, 54, 49, 55, 49, 56, 49, 57, 50, 48, 50, 49, 50, 50, 50, 51, 50, 52, 50, 53, 50, 54, 50, 55, 50, 56, 50, 57, 51, 48, 51, 49, 51, 50, 51, 51, 51, 52, 51, 53, 51, 54, 51, 55, 51, 56, 51, 57, 52, 48, 52, 49, 52, 50, 52, 51, 52, 52, 52, 53, 52, 54, 52, 55, 52, 56, 52, 57, 53, 48, 53, 49, 53, 50, 53, 51, 53, 52, 53, 53, 53, 54, 53, 55, 53, 56, 53, 57, 54, 48, 54, 49, 54, 50, 54, 51, 54, 52, 54, 53, 54, 54, 54, 55, 54, 56, 54, 57, 55, 48, 55, 49, 55, 50, 55, 51, 55, 52, 55, 53, 55, 54, 55, 55, 55, 56, 55, 57, 56, 48, 56, 49, 56, 50, 56, 51, 56, 52, 56, 53, 56, 54, 56, 55, 56, 56, 56, 57, 57, 48, 57, 49, 57, 50, 57, 51, 57, 52, 57, 53, 57, 54, 57, 55, 57, 56, 57, 57])) t35) h20 fun t52 h21 =>
bareK (ixS 1 (get tT 0) t44) h21 fun t53 h22 =>
quietK (st1 h22 t53 t50) fun _ h23 =>
bareK (ixS 1 (get tT 0) t47) h23 fun t54 h24 =>
quietK (st1 h24 t54 t52) fun _ h25 =>
checkK (okV (some true) none h22 h23 h17 h17 && (okV (some true) none h22 h23 h17 h17 && (okV (some true) none h22 h23 h17 h18 && (okV (some true) none h22 h23 h20 h20 && (okV (some true) none h22 h23 h20 h21 && true))))) <|
bareK (xbin P .sub T.int (.tmp 56) (.const (.int .i64 3)) (get tT 4) (.int .i64 3)) h25 fun t57 h26 =>
bareK (xbin P .sub T.int (.tmp 59) (.const (.int .i64 4)) (get tT 4) (.int .i64 4)) h26 fun t60 h27 =>
bareK (xbin P .add T.uint32 (.tmp 61) (.const (.int .u32 1)) t32 (.int .u32 1)) h27 fun t62 h28 =>
bareK (xindex P T.string (.string (mk [48, 48, 48, 49, 48, 50, 48, 51, 48, 52, 48, 53, 48, 54, 48, 55, 48, 56, 48, 57, 49, 48, 49, 49, 49, 50, 49, 51, 49, 52, 49, 53, 49, 54, 49, 55, 49, 56, 49, 57, 50, 48, 50, 49, 50, 50, 50, 51, 50, 52, 50, 53, 50, 54, 50, 55, 50, 56, 50, 57, 51, 48, 51, 49, 51, 50, 51, 51, 51, 52, 51, 53, 51, 54, 51, 55, 51, 56, 51, 57, 52, 48, 52, 49, 52, 50, 52, 51, 52, 52, 52, 53, 52, 54, 52, 55, 52, 56, 52, 57, 53, 48, 53, 49, 53, 50, 53, 51, 53, 52, 53, 53, 53, 54, 53, 55, 53, 56, 53, 57, 54, 48, 54, 49, 54, 50, 54, 51, 54, 52, 54, 53, 54, 54, 54, 55, 54, 56, 54, 57, 55, 48, 55, 49, 55, 50, 55, 51, 55, 52, 55, 53, 55, 54, 55, 55, 55, 56, 55, 57, 56, 48, 56, 49, 56, 50, 56, 51, 56, 52, 56, 53, 56, 54, 56, 55, 56, 56, 56, 57, 57, 48, 57, 49, 57, 50, 57, 51, 57, 52, 57, 53, 57, 54, 57, 55, 57, 56, 57, 57])) t62) h28 fun t63 h29 =>
bareK (xindex P T.string (.string (mk [48, 48, 48, 49, 48, 50, 48, 51, 48, 52, 48, 53, 48, 54, 48, 55, 48, 56, 48, 57, 49, 48, 49, 49, 49, 50, 49, 51, 49, 52, 49, 53, 49, 54, 49, 55, 49, 56, 49, 57, 50, 48, 50, 49, 50, 50, 50, 51, 50, 52, 50, 53, 50, 54, 50, 55, 50, 56, 50, 57, 51, 48, 51, 49, 51, 50, 51, 51, 51, 52, 51, 53, 51, 54, 51, 55, 51, 56, 51, 57, 52, 48, 52, 49, 52, 50, 52, 51, 52, 52, 52, 53, 52, 54, 52, 55, 52, 56, 52, 57, 53, 48, 53, 49, 53, 50, 53, 51, 53, 52, 53, 53, 53, 54, 53, 55, 53, 56, 53, 57, 54, 48, 54, 49, 54, 50, 54, 51, 54, 52, 54, 53, 54, 54, 54, 55, 54, 56, 54, 57, 55, 48, 55, 49, 55, 50, 55, 51, 55, 52, 55, 53, 55, 54, 55, 55, 55, 56, 55, 57, 56, 48, 56, 49, 56, 50, 56, 51, 56, 52, 56, 53, 56, 54, 56, 55, 56, 56, 56, 57, 57, 48, 57, 49, 57, 50, 57, 51, 57, 52, 57, 53, 57, 54, 57, 55, 57, 56, 57, 57])) t32) h29 fun t65 h30 =>
bareK (ixS 1 (get tT 0) t57) h30 fun t66 h31 =>
quietK (st1 h31 t66 t63) fun _ h32 =>
bareK (ixS 1 (get tT 0) t60) h32 fun t67 h33 =>
quietK (st1 h33 t67 t65) fun _ h34 =>
checkK (okV (some true) none h31 h32 h26 h26 && (okV (some true) none h31 h32 h26 h26 && (okV (some true) none h31 h32 h26 h27 && (okV (some true) none h31 h32 h29 h29 && (okV (some true) none h31 h32 h29 h30 && true))))) <|
bareK (xbin P .sub T.int (.tmp 69) (.const (.int .i64 5)) (get tT 4) (.int .i64 5)) h34 fun t70 h35 =>
bareK (xbin P .sub T.int (.tmp 72) (.const (.int .i64 6)) (get tT 4) (.int .i64 6)) h35 fun t73 h36 =>
bareK (xbin P .add T.uint32 (.tmp 74) (.const (.int .u32 1)) t41 (.int .u32 1)) h36 fun t75 h37 =>
bareK (xindex P T.string (.string (mk [48, 48, 48, 49, 48, 50, 48, 51, 48, 52, 48, 53, 48, 54, 48, 55, 48, 56, 48, 57, 49, 48, 49, 49, 49, 50, 49, 51, 49, 52, 49, 53, 49, 54, 49, 55, 49, 56, 49, 57, 50, 48, 50, 49, 50, 50, 50, 51, 50, 52, 50, 53, 50, 54, 50, 55, 50, 56, 50, 57, 51, 48, 51, 49, 51, 50, 51, 51, 51, 52, 51, 53, 51, 54, 51, 55, 51, 56, 51, 57, 52, 48, 52, 49, 52, 50, 52, 51, 52, 52, 52, 53, 52, 54, 52, 55, 52, 56, 52, 57, 53, 48, 53, 49, 53, 50, 53, 51, 53, 52, 53, 53, 53, 54, 53, 55, 53, 56, 53, 57, 54, 48, 54, 49, 54, 50, 54, 51, 54, 52, 54, 53, 54, 54, 54, 55, 54, 56, 54, 57, 55, 48, 55, 49, 55, 50, 55, 51, 55, 52, 55, 53, 55, 54, 55, 55, 55, 56, 55, 57, 56, 48, 56, 49, 56, 50, 56, 51, 56, 52, 56, 53, 56, 54, 56, 55, 56, 56, 56, 57, 57, 48, 57, 49, 57, 50, 57, 51, 57, 52, 57, 53, 57, 54, 57, 55, 57, 56, 57, 57])) t75) h37 fun t76 h38 =>
bareK (xindex P T.string (.string (mk [48, 48, 48, 49, 48, 50, 48, 51, 48, 52, 48, 53, 48, 54, 48, 55, 48, 56, 48, 57, 49, 48, 49, 49, 49, 50, 49, 51, 49, 52, 49, 53, 49, 54, 49, 55, 49, 56, 49, 57, 50, 48, 50, 49, 50, 50, 50, 51, 50, 52, 50, 53, 50, 54, 50, 55, 50, 56, 50, 57, 51, 48, 51, 49, 51, 50, 51, 51, 51, 52, 51, 53, 51, 54, 51, 55, 51, 56, 51, 57, 52, 48, 52, 49, 52, 50, 52, 51, 52, 52, 52, 53, 52, 54, 52, 55, 52, 56, 52, 57, 53, 48, 53, 49, 53, 50, 53, 51, 53, 52, 53, 53, 53, 54, 53, 55, 53, 56, 53, 57, 54, 48, 54, 49, 54, 50, 54, 51, 54, 52, 54, 53, 54, 54, 54, 55, 54, 56, 54, 57, 55, 48, 55, 49, 55, 50, 55, 51, 55, 52, 55, 53, 55, 54, 55, 55, 55, 56, 55, 57, 56, 48, 56, 49, 56, 50, 56, 51, 56, 52, 56, 53, 56, 54, 56, 55, 56, 56, 56, 57, 57, 48, 57, 49, 57, 50, 57, 51, 57, 52, 57, 53, 57, 54, 57, 55, 57, 56, 57, 57])) t41) h38 fun t78 h39 =>
bareK (ixS 1 (get tT 0) t70) h39 fun t79 h40 =>
quietK (st1 h40 t79 t76) fun _ h41 =>
bareK (ixS 1 (get tT 0) t73) h41 fun t80 h42 =>
quietK (st1 h42 t80 t78) fun _ h43 =>
checkK (okV (some true) none h40 h41 h35 h35 && (okV (some true) none h40 h41 h35 h35 && (okV (some true) none h40 h41 h35 h36 && (okV (some true) none h40 h41 h38 h38 && (okV (some true) none h40 h41 h38 h39 && true))))) <|
bareK (xbin P .sub T.int (.tmp 82) (.const (.int .i64 7)) (get tT 4) (.int .i64 7)) h43 fun t83 h44 =>
bareK (xbin P .sub T.int (.tmp 85) (.const (.int .i64 8)) (get tT 4) (.int .i64 8)) h44 fun t86 h45 =>
bareK (xbin P .add T.uint32 (.tmp 87) (.const (.int .u32 1)) t38 (.int .u32 1)) h45 fun t88 h46 =>
bareK (xindex P T.string (.string (mk [48, 48, 48, 49, 48, 50, 48, 51, 48, 52, 48, 53, 48, 54, 48, 55, 48, 56, 48, 57, 49, 48, 49, 49, 49, 50, 49, 51, 49, 52, 49, 53, 49, 54, 49, 55, 49, 56, 49, 57, 50, 48, 50, 49, 50, 50, 50, 51, 50, 52, 50, 53, 50, 54, 50, 55, 50, 56, 50, 57, 51, 48, 51, 49, 51, 50, 51, 51, 51, 52, 51, 53, 51, 54, 51, 55, 51, 56, 51, 57, 52, 48, 52, 49, 52, 50, 52, 51, 52, 52, 52, 53, 52, 54, 52, 55, 52, 56, 52, 57, 53, 48, 53, 49, 53, 50, 53, 51, 53, 52, 53, 53, 53, 54, 53, 55, 53, 56, 53, 57, 54, 48, 54, 49, 54, 50, 54, 51, 54, 52, 54, 53, 54, 54, 54, 55, 54, 56, 54, 57, 55, 48, 55, 49, 55, 50, 55, 51, 55, 52, 55, 53, 55, 54, 55, 55, 55, 56, 55, 57, 56, 48, 56, 49, 56, 50, 56, 51, 56, 52, 56, 53, 56, 54, 56, 55, 56, 56, 56, 57, 57, 48, 57, 49, 57, 50, 57, 51, 57, 52, 57, 53, 57, 54, 57, 55, 57, 56, 57, 57])) t88) h46 fun t89 h47 =>
bareK (xindex P T.string (.string (mk [48, 48, 48, 49, 48, 50, 48, 51, 48, 52, 48, 53, 48, 54, 48, 55, 48, 56, 48, 57, 49, 48, 49, 49, 49, 50, 49, 51, 49, 52, 49, 53, 49, 54, 49, 55, 49, 56, 49, 57, 50, 48, 50, 49, 50, 50, 50, 51, 50, 52, 50, 53, 50, 54, 50, 55, 50, 56, 50, 57, 51, 48, 51, 49, 51, 50, 51, 51, 51, 52, 51, 53, 51, 54, 51, 55, 51, 56, 51, 57, 52, 48, 52, 49, 52, 50, 52, 51, 52, 52, 52, 53, 52, 54, 52, 55, 52, 56, 52, 57, 53, 48, 53, 49, 53, 50, 53, 51, 53, 52, 53, 53, 53, 54, 53, 55, 53, 56, 53, 57, 54, 48, 54, 49, 54, 50, 54, 51, 54, 52, 54, 53, 54, 54, 54, 55, 54, 56, 54, 57, 55, 48, 55, 49, 55, 50, 55, 51, 55, 52, 55, 53, 55, 54, 55, 55, 55, 56, 55, 57, 56, 48, 56, 49, 56, 50, 56, 51, 56, 52, 56, 53, 56, 54, 56, 55, 56, 56, 56, 57, 57, 48, 57, 49, 57, 50, 57, 51, 57, 52, 57, 53, 57, 54, 57, 55, 57, 56, 57, 57])) t38) h47 fun t91 h48 =>
bareK (ixS 1 (get tT 0) t83) h48 fun t92 h49 =>
quietK (st1 h49 t92 t89) fun _ h50 =>
bareK (ixS 1 (get tT 0) t86) h50 fun t93 h51 =>
quietK (st1 h51 t93 t91) fun _ h52 =>
checkK (okV (some true) none h49 h50 h44 h44 && (okV (some true) none h49 h50 h44 h44 && (okV (some true) none h49 h50 h44 h45 && (okV (some true) none h49 h50 h47 h47 && (okV (some true) none h49 h50 h47 h48 && true))))) <|
bareK (xbin P .sub T.int (.tmp 94) (.const (.int .i64 8)) (get tT 4) (.int .i64 8)) h52 fun t95 h53 =>
k3 .normal [(0, (get tT 0)), (1, t25), (4, t95)] h53) (afterK [0, 1, 4] k)) (afterK [0, 1, 4] k))

theorem s_internal_strconv_formatBase10_eq (M : CombL) (C : CallF) (LP : LoopH) (a0 : Value) (a1 : Value) (H : AHeap) : dBodyL M Tryd.prog hints C LP F.internal_strconv_formatBase10 [a0, a1] H = s_internal_strconv_formatBase10 M.b.g M.c M.s Tryd.prog C (fun v0 v1 v4 H k => loopL M Tryd.prog hints C LP F.internal_strconv_formatBase10 0 [(0, v0), (1, v1), (4, v4)] H k) a0 a1 H (endK Tryd.prog []) := by kernel_rfl

theorem s_internal_strconv_formatBase10_b0_eq (M : CombL) (C : CallF) (LP : LoopH) (v0 : Value) (v1 : Value) (v4 : Value) (H : AHeap) (k : K) : bodyL M Tryd.prog hints C LP F.internal_strconv_formatBase10 0 [(0, v0), (1, v1), (4, v4)] H (afterK [0, 1, 4] k) = s_internal_strconv_formatBase10_b0 M.b.g M.c M.s Tryd.prog C (fun v0 v1 v4 H k => loopL M Tryd.prog hints C LP F.internal_strconv_formatBase10 0 [(0, v0), (1, v1), (4, v4)] H k) v0 v1 v4 H k := by kernel_rfl

/-! internal.strconv.formatBits -/

noncomputable def s_internal_strconv_formatBits (mg : GT) (mc : CT) (ms : ST) (P : Program) (C : CallF) (L0 : Value → Value → Value → Value → Value → Value → Value → Value → Value → Value → Value → AHeap → K → Res) (L1 : Value → Value → Value → Value → Value → Value → Value → Value → Value → AHeap → K → Res) (a0 : Value) (a1 : Value) (a2 : Value) (a3 : Value) (a4 : Value) (H : AHeap) (K0 : K) : Res :=
bareK (xbin P .lss T.int (.tmp 19) (.const (.int .i64 2)) a2 (.int .i64 2)) H fun t20 h1 =>
mg t20 false (fun o1 => o1 a2 h1) h1 fun t22 h2 =>
mg t20 false (fun o2 => bareK (xbin P .eql T.int (.tmp 22) (.const (.int .i64 10)) t22 (.int .i64 10)) h2 o2) h2 fun t23 h3 =>
pickK t20 (.bool true) t23 fun t24 =>
mg t24 false (fun o3 => o3 a2 h3) h3 fun t26 h4 =>
mg t24 false (fun o4 => bareK (xbin P .gtr T.int (.tmp 26) (.const (.int .i64 36)) t26 (.int .i64 36)) h4 o4) h4 fun t27 h5 =>
pickK t24 (.bool true) t27 fun t28 =>
mc t28 (fun k5 => none) (fun k5 =>
k5 .normal [(0, a0), (1, a1), (2, a2), (3, a3), (4, a4), (10, (.slice none 0 0)), (11, (.string (mk [])))] h5) (seqK (fun tT h6 =>
bothK (newv T.n65_uint8 (.agg #[(.int .u8 0), (.int .u8 0), (.int .u8 0), (.int .u8 0), (.int .u8 0), (.int .u8 0), (.int .u8 0), (.int .u8 0), (.int .u8 0), (.int .u8 0), (.int .u8 0), (.int .u8 0), (.int .u8 0), (.int .u8 0), (.int .u8 0), (.int .u8 0), (.int .u8 0), (.int .u8 0), (.int .u8 0), (.int .u8 0), (.int .u8 0), (.int .u8 0), (.int .u8 0), (.int .u8 0), (.int .u8 0), (.int .u8 0), (.int .u8 0), (.int .u8 0), (.int .u8 0), (.int .u8 0), (.int .u8 0), (.int .u8 0), (.int .u8 0), (.int .u8 0), (.int .u8 0), (.int .u8 0), (.int .u8 0), (.int .u8 0), (.int .u8 0), (.int .u8 0), (.int .u8 0), (.int .u8 0), (.int .u8 0), (.int .u8 0), (.int .u8 0), (.int .u8 0), (.int .u8 0), (.int .u8 0), (.int .u8 0), (.int .u8 0), (.int .u8 0), (.int .u8 0), (.int .u8 0), (.int .u8 0), (.int .u8 0), (.int .u8 0), (.int .u8 0), (.int .u8 0), (.int .u8 0), (.int .u8 0), (.int .u8 0), (.int .u8 0), (.int .u8 0), (.int .u8 0), (.int .u8 0)]) h6) fun t12 h7 =>
mc (get tT 3) (fun k6 => bareK (xun P .neg (get tT 1)) h7 fun t32 h8 =>
k6 .normal [(0, (get tT 0)), (1, t32), (2, (get tT 2)), (3, (get tT 3)), (4, (get tT 4)), (10, (get tT 10)), (11, (get tT 11)), (12, t12), (13, (.int .i64 65))] h8) (fun k6 =>
k6 .normal [(0, (get tT 0)), (1, (get tT 1)), (2, (get tT 2)), (3, (get tT 3)), (4, (get tT 4)), (10, (get tT 10)), (11, (get tT 11)), (12, t12), (13, (.int .i64 65))] h7) (seqK (fun tT_1 h9 =>
enterK C F.internal_strconv_isPowerOfTwo [(get tT_1 2)] h9 fun t34 h10 =>
mc t34 (fun k7 => bothK (xconv P T.int T.uint (get tT_1 2) h10) fun t36 h11 =>
enterK C F.math_bits_TrailingZeros [t36] h11 fun t37 h12 =>
bothK (xconv P T.int T.uint t37 h12) fun t38 h13 =>
bothK (xconv P T.int T.uint64 (get tT_1 2) h13) fun t40 h14 =>
bothK (xconv P T.int T.uint (get tT_1 2) h14) fun t42 h15 =>
bareK (xbin P .sub T.uint (.tmp 42) (.const (.int .u64 1)) t42 (.int .u64 1)) h15 fun t43 h16 =>
ms (fun k8 =>
L0 (get tT_1 0) (get tT_1 1) (get tT_1 3) (get tT_1 4) (get tT_1 10) (get tT_1 11) (get tT_1 12) (get tT_1 13) t38 t40 t43 h16 (blkK [0, 1, 3, 4, 10, 11, 12, 13] 0 k8)) (seqK (fun tT_2 h17 =>
bareK (xbin P .sub T.int (.tmp 58) (.const (.int .i64 1)) (get tT_2 13) (.int .i64 1)) h17 fun t59 h18 =>
bareK (xindex P T.string (.string (mk [48, 49, 50, 51, 52, 53, 54, 55, 56, 57, 97, 98, 99, 100, 101, 102, 103, 104, 105, 106, 107, 108, 109, 110, 111, 112, 113, 114, 115, 116, 117, 118, 119, 120, 121, 122])) (get tT_2 1)) h18 fun t62 h19 =>
bareK (ixA 65 1 (get tT_2 12) t59) h19 fun t63 h20 =>
quietK (st1 h20 t63 t62) fun _ h21 =>
k7 .normal [(0, (get tT_2 0)), (3, (get tT_2 3)), (4, (get tT_2 4)), (10, (get tT_2 10)), (11, (get tT_2 11)), (12, (get tT_2 12)), (13, t59)] h21) (afterK [0, 3, 4, 10, 11, 12, 13] k7))) (fun k7 =>
bothK (xconv P T.int T.uint64 (get tT_1 2) h10) fun t65 h22 =>
ms (fun k9 =>
L1 (get tT_1 0) (get tT_1 1) (get tT_1 3) (get tT_1 4) (get tT_1 10) (get tT_1 11) (get tT_1 12) (get tT_1 13) t65 h22 (blkK [0, 1, 3, 4, 10, 11, 12, 13] 2 k9)) (seqK (fun tT_3 h23 =>
bareK (xbin P .sub T.int (.tmp 83) (.const (.int .i64 1)) (get tT_3 13) (.int .i64 1)) h23 fun t84 h24 =>
bareK (xindex P T.string (.string (mk [48, 49, 50, 51, 52, 53, 54, 55, 56, 57, 97, 98, 99, 100, 101, 102, 103, 104, 105, 106, 107, 108, 109, 110, 111, 112, 113, 114, 115, 116, 117, 118, 119, 120, 121, 122])) (get tT_3 1)) h24 fun t87 h25 =>
bareK (ixA 65 1 (get tT_3 12) t84) h25 fun t88 h26 =>
quietK (st1 h26 t88 t87) fun _ h27 =>
k7 .normal [(0, (get tT_3 0)), (3, (get tT_3 3)), (4, (get tT_3 4)), (10, (get tT_3 10)), (11, (get tT_3 11)), (12, (get tT_3 12)), (13, t84)] h27) (afterK [0, 3, 4, 10, 11, 12, 13] k7))) (seqK (fun tT_4 h28 =>
mc (get tT_4 3) (fun k10 => bareK (xbin P .sub T.int (.tmp 90) (.const (.int .i64 1)) (get tT_4 13) (.int .i64 1)) h28 fun t91 h29 =>
bareK (ixA 65 1 (get tT_4 12) t91) h29 fun t93 h30 =>
quietK (st1 h30 t93 (.int .u8 45)) fun _ h31 =>
k10 .normal [(0, (get tT_4 0)), (4, (get tT_4 4)), (10, (get tT_4 10)), (11, (get tT_4 11)), (12, (get tT_4 12)), (13, t91)] h31) (fun k10 =>
k10 .normal [(0, (get tT_4 0)), (4, (get tT_4 4)), (10, (get tT_4 10)), (11, (get tT_4 11)), (12, (get tT_4 12)), (13, (get tT_4 13))] h28) (seqK (fun tT_5 h32 =>
mc (get tT_5 4) (fun k11 => bareK (slA 65 1 (get tT_5 12) (some (get tT_5 13)) none) h32 fun t97 h33 =>
bothK (app T.uint8 1 1 (get tT_5 0) (srcS 1 t97 h33) h33) fun t98 h34 =>
k11 .ret [(10, t98), (11, (get tT_5 11))] h34) (fun k11 =>
k11 .normal [(10, (get tT_5 10)), (12, (get tT_5 12)), (13, (get tT_5 13))] h32) (seqK (fun tT_6 h35 =>
bareK (slA 65 1 (get tT_6 12) (some (get tT_6 13)) none) h35 fun t100 h36 =>
bothK (xconv P T.sl_uint8 T.string t100 h36) fun t101 h37 =>
K0 .ret [(10, (get tT_6 10)), (11, t101)] h37) K0)) K0)) K0)) K0)) K0)

noncomputable def s_internal_strconv_formatBits_b0 (mg : GT) (mc : CT) (ms : ST) (P : Program) (C : CallF) (L0 : Value → Value → Value → Value → Value → Value → Value → Value → Value → Value → Value → AHeap → K → Res) (L1 : Value → Value → Value → Value → Value → Value → Value → Value → Value → AHeap → K → Res) (v0 : Value) (v1 : Value) (v3 : Value) (v4 : Value) (v10 : Value) (v11 : Value) (v12 : Value) (v13 : Value) (v14 : Value) (v15 : Value) (v16 : Value) (H : AHeap) (k : K) : Res :=
bareK (xbin P .geq T.uint64 (.tmp 44) (.tmp 45) v1 v15) H fun t46 h17 =>
mc t46 (fun k9 => k9 .normal [(0, v0), (1, v1), (3, v3), (4, v4), (10, v10), (11, v11), (12, v12), (13, v13), (14, v14), (15, v15), (16, v16)] h17) (fun k9 =>
k9 (.exit 0) [(46, t46), (45, v15), (44, v1), (0, v0), (1, v1), (3, v3), (4, v4), (10, v10), (11, v11), (12, v12), (13, v13), (14, v14), (15, v15), (16, v16)] h17) (seqK (fun tT h18 =>
ms (fun k10 =>
bareK (xbin P .sub T.int (.tmp 47) (.const (.int .i64 1)) (get tT 13) (.int .i64 1)) h18 fun t48 h19 =>
bareK (xbin P .and T.uint (.tmp 50) (.tmp 51) (get tT 1) (get tT 16)) h19 fun t52 h20 =>
bareK (xindex P T.string (.string (mk [48, 49, 50, 51, 52, 53, 54, 55, 56, 57, 97, 98, 99, 100, 101, 102, 103, 104, 105, 106, 107, 108, 109, 110, 111, 112, 113, 114, 115, 116, 117, 118, 119, 120, 121, 122])) t52) h20 fun t53 h21 =>
bareK (ixA 65 1 (get tT 12) t48) h21 fun t54 h22 =>
quietK (st1 h22 t54 t53) fun _ h23 =>
bareK (xbin P .shr T.uint64 (.tmp 55) (.tmp 56) (get tT 1) (get tT 14)) h23 fun t57 h24 =>
k10 .normal [(0, (get tT 0)), (1, t57), (3, (get tT 3)), (4, (get tT 4)), (10, (get tT 10)), (11, (get tT 11)), (12, (get tT 12)), (13, t48), (14, (get tT 14)), (15, (get tT 15)), (16, (get tT 16))] h24) (afterK [0, 1, 3, 4, 10, 11, 12, 13, 14, 15, 16] k)) (afterK [0, 1, 3, 4, 10, 11, 12, 13, 14, 15, 16] k))

noncomputable def s_internal_strconv_formatBits_b1 (mg : GT) (mc : CT) (ms : ST) (P : Program) (C : CallF) (L0 : Value → Value → Value → Value → Value → Value → Value → Value → Value → Value → Value → AHeap → K → Res) (L1 : Value → Value → Value → Value → Value → Value → Value → Value → Value → AHeap → K → Res) (v0 : Value) (v1 : Value) (v3 : Value) (v4 : Value) (v10 : Value) (v11 : Value) (v12 : Value) (v13 : Value) (v17 : Value) (H : AHeap) (k : K) : Res :=
bareK (xbin P .geq T.uint64 (.tmp 66) (.tmp 67) v1 v17) H fun t68 h23 =>
mc t68 (fun k10 => k10 .normal [(0, v0), (1, v1), (3, v3), (4, v4), (10, v10), (11, v11), (12, v12), (13, v13), (17, v17)] h23) (fun k10 =>
k10 (.exit 2) [(68, t68), (67, v17), (66, v1), (0, v0), (1, v1), (3, v3), (4, v4), (10, v10), (11, v11), (12, v12), (13, v13), (17, v17)] h23) (seqK (fun tT h24 =>
ms (fun k11 =>
bareK (xbin P .sub T.int (.tmp 69) (.const (.int .i64 1)) (get tT 13) (.int .i64 1)) h24 fun t70 h25 =>
bareK (xbin P .quo T.uint64 (.tmp 71) (.tmp 72) (get tT 1) (get tT 17)) h25 fun t73 h26 =>
bareK (xbin P .mul T.uint64 (.tmp 76) (.tmp 77) t73 (get tT 17)) h26 fun t78 h27 =>
bareK (xbin P .sub T.uint64 (.tmp 75) (.tmp 78) (get tT 1) t78) h27 fun t79 h28 =>
bareK (xindex P T.string (.string (mk [48, 49, 50, 51, 52, 53, 54, 55, 56, 57, 97, 98, 99, 100, 101, 102, 103, 104, 105, 106, 107, 108, 109, 110, 111, 112, 113, 114, 115, 116, 117, 118, 119, 120, 121, 122])) t79) h28 fun t80 h29 =>
bareK (ixA 65 1 (get tT 12) t70) h29 fun t81 h30 =>
quietK (st1 h30 t81 t80) fun _ h31 =>
k11 .normal [(0, (get tT 0)), (1, t73), (3, (get tT 3)), (4, (get tT 4)), (10, (get tT 10)), (11, (get tT 11)), (12, (get tT 12)), (13, t70), (17, (get tT 17))] h31) (afterK [0, 1, 3, 4, 10, 11, 12, 13, 17] k)) (afterK [0, 1, 3, 4, 10, 11, 12, 13, 17] k))

theorem s_internal_strconv_formatBits_eq (M : CombL) (C : CallF) (LP : LoopH) (a0 : Value) (a1 : Value) (a2 : Value) (a3 : Value) (a4 : Value) (H : AHeap) : dBodyL M Tryd.prog hints C LP F.internal_strconv_formatBits [a0, a1, a2, a3, a4] H = s_internal_strconv_formatBits M.b.g M.c M.s Tryd.prog C (fun v0 v1 v3 v4 v10 v11 v12 v13 v14 v15 v16 H k => loopL M Tryd.prog hints C LP F.internal_strconv_formatBits 0 [(0, v0), (1, v1), (3, v3), (4, v4), (10, v10), (11, v11), (12, v12), (13, v13), (14, v14), (15, v15), (16, v16)] H k) (fun v0 v1 v3 v4 v10 v11 v12 v13 v17 H k => loopL M Tryd.prog hints C LP F.internal_strconv_formatBits 1 [(0, v0), (1, v1), (3, v3), (4, v4), (10, v10), (11, v11), (12, v12), (13, v13), (17, v17)] H k) a0 a1 a2 a3 a4 H (endK Tryd.prog [.tmp 10, .tmp 11]) := by kernel_rfl

theorem s_internal_strconv_formatBits_b0_eq (M : CombL) (C : CallF) (LP : LoopH) (v0 : Value) (v1 : Value) (v3 : Value) (v4 : Value) (v10 : Value) (v11 : Value) (v12 : Value) (v13 : Value) (v14 : Value) (v15 : Value) (v16 : Value) (H : AHeap) (k : K) : bodyL M Tryd.prog hints C LP F.internal_strconv_formatBits 0 [(0, v0), (1, v1), (3, v3), (4, v4), (10, v10), (11, v11), (12, v12), (13, v13), (14, v14), (15, v15), (16, v16)] H (afterK [0, 1, 3, 4, 10, 11, 12, 13, 14, 15, 16] k) = s_internal_strconv_formatBits_b0 M.b.g M.c M.s Tryd.prog C (fun v0 v1 v3 v4 v10 v11 v12 v13 v14 v15 v16 H k => loopL M Tryd.prog hints C LP F.internal_strconv_formatBits 0 [(0, v0), (1, v1), (3, v3), (4, v4), (10, v10), (11, v11), (12, v12), (13, v13), (14, v14), (15, v15), (16, v16)] H k) (fun v0 v1 v3 v4 v10 v11 v12 v13 v17 H k => loopL M Tryd.prog hints C LP F.internal_strconv_formatBits 1 [(0, v0), (1, v1), (3, v3), (4, v4), (10, v10), (11, v11), (12, v12), (13, v13), (17, v17)] H k) v0 v1 v3 v4 v10 v11 v12 v13 v14 v15 v16 H k := by kernel_rfl

theorem s_internal_strconv_formatBits_b1_eq (M : CombL) (C : CallF) (LP : LoopH) (v0 : Value) (v1 : Value) (v3 : Value) (v4 : Value) (v10 : Value) (v11 : Value) (v12 : Value) (v13 : Value) (v17 : Value) (H : AHeap) (k : K) : bodyL M Tryd.prog hints C LP F.internal_strconv_formatBits 1 [(0, v0), (1, v1), (3, v3), (4, v4), (10, v10), (11, v11), (12, v12), (13, v13), (17, v17)] H (afterK [0, 1, 3, 4, 10, 11, 12, 13, 17] k) = s_internal_strconv_formatBits_b1 M.b.g M.c M.s Tryd.prog C (fun v0 v1 v3 v4 v10 v11 v12 v13 v14 v15 v16 H k => loopL M Tryd.prog hints C LP F.internal_strconv_formatBits 0 [(0, v0), (1, v1), (3, v3), (4, v4), (10, v10), (11, v11), (12, v12), (13, v13), (14, v14), (15, v15), (16, v16)] H k) (fun v0 v1 v3 v4 v10 v11 v12 v13 v17 H k => loopL M Tryd.prog hints C LP F.internal_strconv_formatBits 1 [(0, v0), (1, v1), (3, v3), (4, v4), (10, v10), (11, v11), (12, v12), (13, v13), (17, v17)] H k) v0 v1 v3 v4 v10 v11 v12 v13 v17 H k := by kernel_rfl

/-! internal.strconv.log10Pow2 -/

noncomputable def s_internal_strconv_log10Pow2 (mg : GT) (mc : CT) (ms : ST) (P : Program) (C : CallF) (a0 : Value) (H : AHeap) (K0 : K) : Res :=
bareK (xbin P .mul T.int (.tmp 3) (.const (.int .i64 78913)) a0 (.int .i64 78913)) H fun t4 h1 =>
bareK (xbin P .shr T.int (.tmp 4) (.const (.int .u64 18)) t4 (.int .u64 18)) h1 fun t5 h2 =>
K0 .ret [(2, t5)] h2

theorem s_internal_strconv_log10Pow2_eq (M : CombL) (C : CallF) (LP : LoopH) (a0 : Value) (H : AHeap) : dBodyL M Tryd.prog hints C LP F.internal_strconv_log10Pow2 [a0] H = s_internal_strconv_log10Pow2 M.b.g M.c M.s Tryd.prog C a0 H (endK Tryd.prog [.tmp 2]) := by kernel_rfl

/-! math.bits.Len64 -/

noncomputable def s_math_bits_Len64 (mg : GT) (mc : CT) (ms : ST) (P : Program) (C : CallF) (a0 : Value) (H : AHeap) (K0 : K) : Res :=
bareK (xbin P .geq T.uint64 (.tmp 3) (.const (.int .u64 4294967296)) a0 (.int .u64 4294967296)) H fun t4 h1 =>
mc t4 (fun k1 => bareK (xbin P .shr T.uint64 (.tmp 5) (.const (.int .u64 32)) a0 (.int .u64 32)) h1 fun t6 h2 =>
k1 .normal [(0, t6), (2, (.int .i64 32))] h2) (fun k1 =>
k1 .normal [(0, a0), (2, (.int .i64 0))] h1) (seqK (fun tT h3 =>
bareK (xbin P .geq T.uint64 (.tmp 7) (.const (.int .u64 65536)) (get tT 0) (.int .u64 65536)) h3 fun t8 h4 =>
mc t8 (fun k2 => bareK (xbin P .shr T.uint64 (.tmp 9) (.const (.int .u64 16)) (get tT 0) (.int .u64 16)) h4 fun t10 h5 =>
bareK (xbin P .add T.int (.tmp 11) (.const (.int .i64 16)) (get tT 2) (.int .i64 16)) h5 fun t12 h6 =>
k2 .normal [(0, t10), (2, t12)] h6) (fun k2 =>
k2 .normal [(0, (get tT 0)), (2, (get tT 2))] h4) (seqK (fun tT_1 h7 =>
bareK (xbin P .geq T.uint64 (.tmp 13) (.const (.int .u64 256)) (get tT_1 0) (.int .u64 256)) h7 fun t14 h8 =>
mc t14 (fun k3 => bareK (xbin P .shr T.uint64 (.tmp 15) (.const (.int .u64 8)) (get tT_1 0) (.int .u64 8)) h8 fun t16 h9 =>
bareK (xbin P .add T.int (.tmp 17) (.const (.int .i64 8)) (get tT_1 2) (.int .i64 8)) h9 fun t18 h10 =>
k3 .normal [(0, t16), (2, t18)] h10) (fun k3 =>
k3 .normal [(0, (get tT_1 0)), (2, (get tT_1 2))] h8) (seqK (fun tT_2 h11 =>
bothK (xconv P T.uint64 T.uint8 (get tT_2 0) h11) fun t21 h12 =>
bareK (xindex P T.string (.string (mk [0, 1, 2, 2, 3, 3, 3, 3, 4, 4, 4, 4, 4, 4, 4, 4, 5, 5, 5, 5, 5, 5, 5, 5, 5, 5, 5, 5, 5, 5, 5, 5, 6, 6, 6, 6, 6, 6, 6, 6, 6, 6, 6, 6, 6, 6, 6, 6, 6, 6, 6, 6, 6, 6, 6, 6, 6, 6, 6, 6, 6, 6, 6, 6, 7, 7, 7, 7, 7, 7, 7, 7, 7, 7, 7, 7, 7, 7, 7, 7, 7, 7, 7, 7, 7, 7, 7, 7, 7, 7, 7, 7, 7, 7, 7, 7, 7, 7, 7, 7, 7, 7, 7, 7, 7, 7, 7, 7, 7, 7, 7, 7, 7, 7, 7, 7, 7, 7, 7, 7, 7, 7, 7, 7, 7, 7, 7, 7, 8, 8, 8, 8, 8, 8, 8, 8, 8, 8, 8, 8, 8, 8, 8, 8, 8, 8, 8, 8, 8, 8, 8, 8, 8, 8, 8, 8, 8, 8, 8, 8, 8, 8, 8, 8, 8, 8, 8, 8, 8, 8, 8, 8, 8, 8, 8, 8, 8, 8, 8, 8, 8, 8, 8, 8, 8, 8, 8, 8, 8, 8, 8, 8, 8, 8, 8, 8, 8, 8, 8, 8, 8, 8, 8, 8, 8, 8, 8, 8, 8, 8, 8, 8, 8, 8, 8, 8, 8, 8, 8, 8, 8, 8, 8, 8, 8, 8, 8, 8, 8, 8, 8, 8, 8, 8, 8, 8, 8, 8, 8, 8, 8, 8, 8, 8, 8, 8, 8, 8, 8, 8, 8, 8, 8, 8, 8, 8])) t21) h12 fun t22 h13 =>
bothK (xconv P T.uint8 T.int t22 h13) fun t23 h14 =>
bareK (xbin P .add T.int (.tmp 19) (.tmp 23) (get tT_2 2) t23) h14 fun t24 h15 =>
K0 .ret [(2, t24)] h15) K0)) K0)) K0)

theorem s_math_bits_Len64_eq (M : CombL) (C : CallF) (LP : LoopH) (a0 : Value) (H : AHeap) : dBodyL M Tryd.prog hints C LP F.math_bits_Len64 [a0] H = s_math_bits_Len64 M.b.g M.c M.s Tryd.prog C a0 H (endK Tryd.prog [.tmp 2]) := by kernel_rfl

/-! internal.strconv.bool2[int] -/

noncomputable def s_internal_strconv_bool2_int (mg : GT) (mc : CT) (ms : ST) (P : Program) (C : CallF) (a0 : Value) (H : AHeap) (K0 : K) : Res :=
mc a0 (fun k1 => k1 .ret [(2, (.int .i64 1))] H) (fun k1 =>
k1 .normal [] H) (seqK (fun tT h1 =>
K0 .ret [(2, (.int .i64 0))] h1) K0)

theorem s_internal_strconv_bool2_int_eq (M : CombL) (C : CallF) (LP : LoopH) (a0 : Value) (H : AHeap) : dBodyL M Tryd.prog hints C LP F.internal_strconv_bool2_int [a0] H = s_internal_strconv_bool2_int M.b.g M.c M.s Tryd.prog C a0 H (endK Tryd.prog [.tmp 2]) := by kernel_rfl

/-! internal.strconv.isPowerOfTwo -/

noncomputable def s_internal_strconv_isPowerOfTwo (mg : GT) (mc : CT) (ms : ST) (P : Program) (C : CallF) (a0 : Value) (H : AHeap) (K0 : K) : Res :=
bareK (xbin P .sub T.int (.tmp 4) (.const (.int .i64 1)) a0 (.int .i64 1)) H fun t5 h1 =>
bareK (xbin P .and T.int (.tmp 3) (.tmp 5) a0 t5) h1 fun t6 h2 =>
bareK (xbin P .eql T.int (.tmp 6) (.const (.int .i64 0)) t6 (.int .i64 0)) h2 fun t7 h3 =>
K0 .ret [(2, t7)] h3

theorem s_internal_strconv_isPowerOfTwo_eq (M : CombL) (C : CallF) (LP : LoopH) (a0 : Value) (H : AHeap) : dBodyL M Tryd.prog hints C LP F.internal_strconv_isPowerOfTwo [a0] H = s_internal_strconv_isPowerOfTwo M.b.g M.c M.s Tryd.prog C a0 H (endK Tryd.prog [.tmp 2]) := by kernel_rfl

/-! math.bits.TrailingZeros -/

noncomputable def s_math_bits_TrailingZeros (mg : GT) (mc : CT) (ms : ST) (P : Program) (C : CallF) (a0 : Value) (H : AHeap) (K0 : K) : Res :=
mc (.bool false) (fun k1 => bothK (xconv P T.uint T.uint32 a0 H) fun t4 h1 =>
enterK C F.math_bits_TrailingZeros32 [t4] h1 fun t5 h2 =>
k1 .ret [(2, t5)] h2) (fun k1 =>
k1 .normal [(0, a0)] H) (seqK (fun tT h3 =>
enterK C F.math_bits_TrailingZeros64 [(get tT 0)] h3 fun t7 h4 =>
K0 .ret [(2, t7)] h4) K0)

theorem s_math_bits_TrailingZeros_eq (M : CombL) (C : CallF) (LP : LoopH) (a0 : Value) (H : AHeap) : dBodyL M Tryd.prog hints C LP F.math_bits_TrailingZeros [a0] H = s_math_bits_TrailingZeros M.b.g M.c M.s Tryd.prog C a0 H (endK Tryd.prog [.tmp 2]) := by kernel_rfl

/-! math.bits.TrailingZeros32 -/

noncomputable def s_math_bits_TrailingZeros32 (mg : GT) (mc : CT) (ms : ST) (P : Program) (C : CallF) (a0 : Value) (H : AHeap) (K0 : K) : Res :=
bareK (xbin P .eql T.uint32 (.tmp 3) (.const (.int .u32 0)) a0 (.int .u32 0)) H fun t4 h1 =>
mc t4 (fun k1 => k1 .ret [(2, (.int .i64 32))] h1) (fun k1 =>
k1 .normal [(0, a0)] h1) (seqK (fun tT h2 =>
bareK (xun P .neg (get tT 0)) h2 fun t7 h3 =>
bareK (xbin P .and T.uint32 (.tmp 5) (.tmp 7) (get tT 0) t7) h3 fun t8 h4 =>
bareK (xbin P .mul T.uint32 (.tmp 8) (.const (.int .u32 125613361)) t8 (.int .u32 125613361)) h4 fun t9 h5 =>
bareK (xbin P .shr T.uint32 (.tmp 9) (.const (.int .u64 27)) t9 (.int .u64 27)) h5 fun t10 h6 =>
bareK (ixA 32 1 top t10) h6 fun t11 h7 =>
bareK (ld1 h7 t11) h7 fun t12 h8 =>
bothK (xconv P T.uint8 T.int t12 h8) fun t13 h9 =>
K0 .ret [(2, t13)] h9) K0)

theorem s_math_bits_TrailingZeros32_eq (M : CombL) (C : CallF) (LP : LoopH) (a0 : Value) (H : AHeap) : dBodyL M Tryd.prog hints C LP F.math_bits_TrailingZeros32 [a0] H = s_math_bits_TrailingZeros32 M.b.g M.c M.s Tryd.prog C a0 H (endK Tryd.prog [.tmp 2]) := by kernel_rfl

/-! math.bits.TrailingZeros64 -/

noncomputable def s_math_bits_TrailingZeros64 (mg : GT) (mc : CT) (ms : ST) (P : Program) (C : CallF) (a0 : Value) (H : AHeap) (K0 : K) : Res :=
bareK (xbin P .eql T.uint64 (.tmp 3) (.const (.int .u64 0)) a0 (.int .u64 0)) H fun t4 h1 =>
mc t4 (fun k1 => k1 .ret [(2, (.int .i64 64))] h1) (fun k1 =>
k1 .normal [(0, a0)] h1) (seqK (fun tT h2 =>
bareK (xun P .neg (get tT 0)) h2 fun t7 h3 =>
bareK (xbin P .and T.uint64 (.tmp 5) (.tmp 7) (get tT 0) t7) h3 fun t8 h4 =>
bareK (xbin P .mul T.uint64 (.tmp 8) (.const (.int .u64 285870213051353865)) t8 (.int .u64 285870213051353865)) h4 fun t9 h5 =>
bareK (xbin P .shr T.uint64 (.tmp 9) (.const (.int .u64 58)) t9 (.int .u64 58)) h5 fun t10 h6 =>
bareK (ixA 64 1 top t10) h6 fun t11 h7 =>
bareK (ld1 h7 t11) h7 fun t12 h8 =>
bothK (xconv P T.uint8 T.int t12 h8) fun t13 h9 =>
K0 .ret [(2, t13)] h9) K0)

theorem s_math_bits_TrailingZeros64_eq (M : CombL) (C : CallF) (LP : LoopH) (a0 : Value) (H : AHeap) : dBodyL M Tryd.prog hints C LP F.math_bits_TrailingZeros64 [a0] H = s_math_bits_TrailingZeros64 M.b.g M.c M.s Tryd.prog C a0 H (endK Tryd.prog [.tmp 2]) := by kernel_rfl

/-! gosem.cut.vars -/

noncomputable def s_gosem_cut_vars (mg : GT) (mc : CT) (ms : ST) (P : Program) (C : CallF) (H : AHeap) (K0 : K) : Res :=
bareK (bldA #[(.int .u8 0), (.int .u8 0), (.int .u8 0), (.int .u8 0), (.int .u8 0), (.int .u8 0), (.int .u8 0), (.int .u8 0), (.int .u8 0), (.int .u8 0), (.int .u8 0), (.int .u8 0), (.int .u8 0), (.int .u8 0), (.int .u8 0), (.int .u8 0), (.int .u8 0), (.int .u8 0), (.int .u8 0), (.int .u8 0), (.int .u8 0), (.int .u8 0), (.int .u8 0), (.int .u8 0), (.int .u8 0), (.int .u8 0), (.int .u8 0), (.int .u8 0), (.int .u8 0), (.int .u8 0), (.int .u8 0), (.int .u8 0)] 1 [(0, (.int .u8 0)), (1, (.int .u8 1)), (2, (.int .u8 28)), (3, (.int .u8 2)), (4, (.int .u8 29)), (5, (.int .u8 14)), (6, (.int .u8 24)), (7, (.int .u8 3)), (8, (.int .u8 30)), (9, (.int .u8 22)), (10, (.int .u8 20)), (11, (.int .u8 15)), (12, (.int .u8 25)), (13, (.int .u8 17)), (14, (.int .u8 4)), (15, (.int .u8 8)), (16, (.int .u8 31)), (17, (.int .u8 27)), (18, (.int .u8 13)), (19, (.int .u8 23)), (20, (.int .u8 21)), (21, (.int .u8 19)), (22, (.int .u8 16)), (23, (.int .u8 7)), (24, (.int .u8 26)), (25, (.int .u8 12)), (26, (.int .u8 18)), (27, (.int .u8 6)), (28, (.int .u8 11)), (29, (.int .u8 5)), (30, (.int .u8 10)), (31, (.int .u8 9))]) H fun t0 h1 =>
quietK (stN 32 h1 top t0) fun _ h2 =>
bareK (bldA #[(.int .u8 0), (.int .u8 0), (.int .u8 0), (.int .u8 0), (.int .u8 0), (.int .u8 0), (.int .u8 0), (.int .u8 0), (.int .u8 0), (.int .u8 0), (.int .u8 0), (.int .u8 0), (.int .u8 0), (.int .u8 0), (.int .u8 0), (.int .u8 0), (.int .u8 0), (.int .u8 0), (.int .u8 0), (.int .u8 0), (.int .u8 0), (.int .u8 0), (.int .u8 0), (.int .u8 0), (.int .u8 0), (.int .u8 0), (.int .u8 0), (.int .u8 0), (.int .u8 0), (.int .u8 0), (.int .u8 0), (.int .u8 0), (.int .u8 0), (.int .u8 0), (.int .u8 0), (.int .u8 0), (.int .u8 0), (.int .u8 0), (.int .u8 0), (.int .u8 0), (.int .u8 0), (.int .u8 0), (.int .u8 0), (.int .u8 0), (.int .u8 0), (.int .u8 0), (.int .u8 0), (.int .u8 0), (.int .u8 0), (.int .u8 0), (.int .u8 0), (.int .u8 0), (.int .u8 0), (.int .u8 0), (.int .u8 0), (.int .u8 0), (.int .u8 0), (.int .u8 0), (.int .u8 0), (.int .u8 0), (.int .u8 0), (.int .u8 0), (.int .u8 0), (.int .u8 0)] 1 [(0, (.int .u8 0)), (1, (.int .u8 1)), (2, (.int .u8 56)), (3, (.int .u8 2)), (4, (.int .u8 57)), (5, (.int .u8 49)), (6, (.int .u8 28)), (7, (.int .u8 3)), (8, (.int .u8 61)), (9, (.int .u8 58)), (10, (.int .u8 42)), (11, (.int .u8 50)), (12, (.int .u8 38)), (13, (.int .u8 29)), (14, (.int .u8 17)), (15, (.int .u8 4)), (16, (.int .u8 62)), (17, (.int .u8 47)), (18, (.int .u8 59)), (19, (.int .u8 36)), (20, (.int .u8 45)), (21, (.int .u8 43)), (22, (.int .u8 51)), (23, (.int .u8 22)), (24, (.int .u8 53)), (25, (.int .u8 39)), (26, (.int .u8 33)), (27, (.int .u8 30)), (28, (.int .u8 24)), (29, (.int .u8 18)), (30, (.int .u8 12)), (31, (.int .u8 5)), (32, (.int .u8 63)), (33, (.int .u8 55)), (34, (.int .u8 48)), (35, (.int .u8 27)), (36, (.int .u8 60)), (37, (.int .u8 41)), (38, (.int .u8 37)), (39, (.int .u8 16)), (40, (.int .u8 46)), (41, (.int .u8 35)), (42, (.int .u8 44)), (43, (.int .u8 21)), (44, (.int .u8 52)), (45, (.int .u8 32)), (46, (.int .u8 23)), (47, (.int .u8 11)), (48, (.int .u8 54)), (49, (.int .u8 26)), (50, (.int .u8 40)), (51, (.int .u8 15)), (52, (.int .u8 34)), (53, (.int .u8 20)), (54, (.int .u8 31)), (55, (.int .u8 10)), (56, (.int .u8 25)), (57, (.int .u8 14)), (58, (.int .u8 19)), (59, (.int .u8 9)), (60, (.int .u8 13)), (61, (.int .u8 8)), (62, (.int .u8 7)), (63, (.int .u8 6))]) h2 fun t1 h3 =>
quietK (stN 64 h3 top t1) fun _ h4 =>
bareK (bldA #[(.int .u64 0), (.int .u64 0), (.int .u64 0), (.int .u64 0), (.int .u64 0), (.int .u64 0), (.int .u64 0), (.int .u64 0), (.int .u64 0), (.int .u64 0), (.int .u64 0), (.int .u64 0), (.int .u64 0), (.int .u64 0), (.int .u64 0), (.int .u64 0), (.int .u64 0), (.int .u64 0), (.int .u64 0), (.int .u64 0)] 1 [(0, (.int .u64 1)), (1, (.int .u64 10)), (2, (.int .u64 100)), (3, (.int .u64 1000)), (4, (.int .u64 10000)), (5, (.int .u64 100000)), (6, (.int .u64 1000000)), (7, (.int .u64 10000000)), (8, (.int .u64 100000000)), (9, (.int .u64 1000000000)), (10, (.int .u64 10000000000)), (11, (.int .u64 100000000000)), (12, (.int .u64 1000000000000)), (13, (.int .u64 10000000000000)), (14, (.int .u64 100000000000000)), (15, (.int .u64 1000000000000000)), (16, (.int .u64 10000000000000000)), (17, (.int .u64 100000000000000000)), (18, (.int .u64 1000000000000000000)), (19, (.int .u64 10000000000000000000))]) h4 fun t2 h5 =>
quietK (stN 20 h5 top t2) fun _ h6 =>
bareK (bldS #[(.int .u8 0), (.int .u8 0)] [(0, 1), (1, 1)] [(0, (.int .u8 128)), (1, (.int .u8 191))]) h6 fun t3 h7 =>
bareK (bldS #[(.int .u8 0), (.int .u8 0)] [(0, 1), (1, 1)] [(0, (.int .u8 160)), (1, (.int .u8 191))]) h7 fun t4 h8 =>
bareK (bldS #[(.int .u8 0), (.int .u8 0)] [(0, 1), (1, 1)] [(0, (.int .u8 128)), (1, (.int .u8 159))]) h8 fun t5 h9 =>
bareK (bldS #[(.int .u8 0), (.int .u8 0)] [(0, 1), (1, 1)] [(0, (.int .u8 144)), (1, (.int .u8 191))]) h9 fun t6 h10 =>
bareK (bldS #[(.int .u8 0), (.int .u8 0)] [(0, 1), (1, 1)] [(0, (.int .u8 128)), (1, (.int .u8 143))]) h10 fun t7 h11 =>
bareK (bldA #[(.int .u8 0), (.int .u8 0), (.int .u8 0), (.int .u8 0), (.int .u8 0), (.int .u8 0), (.int .u8 0), (.int .u8 0), (.int .u8 0), (.int .u8 0), (.int .u8 0), (.int .u8 0), (.int .u8 0), (.int .u8 0), (.int .u8 0), (.int .u8 0), (.int .u8 0), (.int .u8 0), (.int .u8 0), (.int .u8 0), (.int .u8 0), (.int .u8 0), (.int .u8 0), (.int .u8 0), (.int .u8 0), (.int .u8 0), (.int .u8 0), (.int .u8 0), (.int .u8 0), (.int .u8 0), (.int .u8 0), (.int .u8 0)] 2 [(0, t3), (1, t4), (2, t5), (3, t6), (4, t7)]) h11 fun t8 h12 =>
quietK (stN 32 h12 top t8) fun _ h13 =>
enterK C F.errors_New [(.string (mk [118, 97, 108, 117, 101, 32, 111, 117, 116, 32, 111, 102, 32, 114, 97, 110, 103, 101]))] h13 fun t9 h14 =>
quietK (st1 h14 top t9) fun _ h15 =>
enterK C F.errors_New [(.string (mk [105, 110, 118, 97, 108, 105, 100, 32, 115, 121, 110, 116, 97, 120]))] h15 fun t10 h16 =>
quietK (st1 h16 top t10) fun _ h17 =>
K0 .normal [(10, t10), (9, t9), (8, t8), (7, t7), (6, t6), (5, t5), (4, t4), (3, t3), (2, t2), (1, t1), (0, t0)] h17

theorem s_gosem_cut_vars_eq (M : CombL) (C : CallF) (LP : LoopH) (H : AHeap) : dBodyL M Tryd.prog hints C LP F.gosem_cut_vars [] H = s_gosem_cut_vars M.b.g M.c M.s Tryd.prog C H (endK Tryd.prog []) := by kernel_rfl

end Go.Proofs.YtlkgfbcencoahaaDoor
