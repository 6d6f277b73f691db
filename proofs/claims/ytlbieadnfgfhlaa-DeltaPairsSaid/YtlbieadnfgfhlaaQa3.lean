/-
  7 texts in one (merge.py): Sh Ds Eng23 Eng24 Eng25 Eng26 Eng28.
  Conditions: none. By an AI agent.
-/
import Derived.Test.YtlbieadnfgfhlaaQa2
import Derived.Test.YtlbieadnfgfhlaaChecked
import Derived.KernelRfl
import Derived.Laws.StructEq

/-
  The seat's functions as terms over the engine's combinators (a program of ours printed it).
  Conditions: none. By an AI agent.
-/
set_option linter.unusedVariables false
namespace Go.Proofs.Ytlbieadnfgfhlaa
open Go Eng

/-! ticketline.ticketlinelaw49.small -/

noncomputable def s_law_small (mg : GT) (mc : CT) (ms : ST) (P : Program) (C : CallF) (L0 : Value → Value → AHeap → K → Res) (a0 : Value) (H : AHeap) (K0 : K) : Res :=
ms (fun k1 =>
L0 a0 (.int .i64 0) H (blkK [0] 0 k1)) (seqK (fun tT h1 =>
bareK (lenS (get tT 0)) h1 fun t40 h2 =>
bareK (xbin P .leq T.int (.tmp 40) (.const (.int .i64 20)) t40 (.int .i64 20)) h2 fun t41 h3 =>
K0 .ret [(2, t41)] h3) K0)

noncomputable def s_law_small_b0 (mg : GT) (mc : CT) (ms : ST) (P : Program) (C : CallF) (L0 : Value → Value → AHeap → K → Res) (v0 : Value) (v3 : Value) (H : AHeap) (k : K) : Res :=
bareK (lenS v0) H fun t6 h1 =>
bareK (xbin P .lss T.int (.tmp 4) (.tmp 6) v3 t6) h1 fun t7 h2 =>
mg t7 true (fun o2 => o2 v3 h2) h2 fun t9 h3 =>
mg t7 true (fun o3 => bareK (xbin P .lss T.int (.tmp 9) (.const (.int .i64 21)) t9 (.int .i64 21)) h3 o3) h3 fun t10 h4 =>
pickK t7 t10 (.bool false) fun t11 =>
mc t11 (fun k4 => k4 .normal [(0, v0), (3, v3)] h4) (fun k4 =>
k4 (.exit 0) [(11, t11), (10, t10), (9, t9), (8, t7), (7, t7), (6, t6), (5, v0), (4, v3), (0, v0), (3, v3)] h4) (seqK (fun tT h5 =>
ms (fun k5 =>
bareK (ixS 5 (get tT 0) (get tT 3)) h5 fun t16 h6 =>
bareK (fad 0 t16) h6 fun t17 h7 =>
bareK (ld1 h7 t17) h7 fun t18 h8 =>
bareK (lenT t18) h8 fun t19 h9 =>
bareK (xbin P .gtr T.int (.tmp 19) (.const (.int .i64 30)) t19 (.int .i64 30)) h9 fun t20 h10 =>
mg t20 false (fun o6 => o6 (get tT 0) h10) h10 fun t22 h11 =>
mg t20 false (fun o7 => o7 (get tT 3) h11) h11 fun t23 h12 =>
mg t20 false (fun o8 => bareK (ixS 5 t22 t23) h12 o8) h12 fun t24 h13 =>
mg t20 false (fun o9 => bareK (fad 3 t24) h13 o9) h13 fun t25 h14 =>
mg t20 false (fun o10 => bareK (ld1 h14 t25) h14 o10) h14 fun t26 h15 =>
mg t20 false (fun o11 => bareK (lenT t26) h15 o11) h15 fun t27 h16 =>
mg t20 false (fun o12 => bareK (xbin P .gtr T.int (.tmp 27) (.const (.int .i64 44)) t27 (.int .i64 44)) h16 o12) h16 fun t28 h17 =>
pickK t20 (.bool true) t28 fun t29 =>
mg t29 false (fun o13 => o13 (get tT 0) h17) h17 fun t31 h18 =>
mg t29 false (fun o14 => o14 (get tT 3) h18) h18 fun t32 h19 =>
mg t29 false (fun o15 => bareK (ixS 5 t31 t32) h19 o15) h19 fun t33 h20 =>
mg t29 false (fun o16 => bareK (fad 4 t33) h20 o16) h20 fun t34 h21 =>
mg t29 false (fun o17 => bareK (ld1 h21 t34) h21 o17) h21 fun t35 h22 =>
mg t29 false (fun o18 => bareK (lenT t35) h22 o18) h22 fun t36 h23 =>
mg t29 false (fun o19 => bareK (xbin P .gtr T.int (.tmp 36) (.const (.int .i64 44)) t36 (.int .i64 44)) h23 o19) h23 fun t37 h24 =>
pickK t29 (.bool true) t37 fun t38 =>
mc t38 (fun k20 => k20 .ret [(2, (.bool false))] h24) (fun k20 =>
k20 .normal [(0, (get tT 0)), (3, (get tT 3))] h24) (blkK [0, 3] 1 k5)) (seqK (fun tT_1 h25 =>
bareK (xbin P .add T.int (.tmp 12) (.const (.int .i64 1)) (get tT_1 3) (.int .i64 1)) h25 fun t13 h26 =>
k .normal [(0, (get tT_1 0)), (3, t13)] h26) (afterK [0, 3] k))) (afterK [0, 3] k))

theorem s_law_small_eq (M : CombL) (C : CallF) (LP : LoopH) (a0 : Value) (H : AHeap) : dBodyL M Try.prog hints C LP F.law_small [a0] H = s_law_small M.b.g M.c M.s Try.prog C (fun v0 v3 H k => loopL M Try.prog hints C LP F.law_small 0 [(0, v0), (3, v3)] H k) a0 H (endK Try.prog [.tmp 2]) := by kernel_rfl

theorem s_law_small_b0_eq (M : CombL) (C : CallF) (LP : LoopH) (v0 : Value) (v3 : Value) (H : AHeap) (k : K) : bodyL M Try.prog hints C LP F.law_small 0 [(0, v0), (3, v3)] H (afterK [0, 3] k) = s_law_small_b0 M.b.g M.c M.s Try.prog C (fun v0 v3 H k => loopL M Try.prog hints C LP F.law_small 0 [(0, v0), (3, v3)] H k) v0 v3 H k := by kernel_rfl

/-! ticketline.ticketlinelaw49.find -/

noncomputable def s_law_find (mg : GT) (mc : CT) (ms : ST) (P : Program) (C : CallF) (L0 : Value → Value → Value → Value → AHeap → K → Res) (a0 : Value) (a1 : Value) (H : AHeap) (K0 : K) : Res :=
bothK (newv T.api_Change (.agg #[(.string (mk [])), (.bool false), (.bool false), (.string (mk [])), (.string (mk []))]) H) fun t4 h1 =>
ms (fun k1 =>
L0 a0 a1 t4 (.int .i64 0) h1 (blkK [4] 0 k1)) (seqK (fun tT h2 =>
bareK (bldS #[(.string (mk [])), (.bool false), (.bool false), (.string (mk [])), (.string (mk []))] [(0, 1), (1, 1), (2, 1), (3, 1), (4, 1)] []) h2 fun t24 h3 =>
quietK (stN 5 h3 (get tT 4) t24) fun _ h4 =>
K0 .ret [(4, (get tT 4)), (5, (.bool false))] h4) K0)

noncomputable def s_law_find_b0 (mg : GT) (mc : CT) (ms : ST) (P : Program) (C : CallF) (L0 : Value → Value → Value → Value → AHeap → K → Res) (v0 : Value) (v1 : Value) (v4 : Value) (v6 : Value) (H : AHeap) (k : K) : Res :=
bareK (lenS v0) H fun t9 h2 =>
bareK (xbin P .lss T.int (.tmp 7) (.tmp 9) v6 t9) h2 fun t10 h3 =>
mc t10 (fun k2 => k2 .normal [(0, v0), (1, v1), (4, v4), (6, v6)] h3) (fun k2 =>
k2 (.exit 0) [(10, t10), (9, t9), (8, v0), (7, v6), (0, v0), (1, v1), (4, v4), (6, v6)] h3) (seqK (fun tT h4 =>
ms (fun k3 =>
bareK (ixS 5 (get tT 0) (get tT 6)) h4 fun t15 h5 =>
bareK (fad 0 t15) h5 fun t16 h6 =>
bareK (ld1 h6 t16) h6 fun t17 h7 =>
bareK (xbin P .eql T.string (.tmp 17) (.tmp 18) t17 (get tT 1)) h7 fun t19 h8 =>
mc t19 (fun k4 => bareK (ixS 5 (get tT 0) (get tT 6)) h8 fun t22 h9 =>
bareK (ldN 5 h9 t22) h9 fun t23 h10 =>
quietK (stN 5 h10 (get tT 4) t23) fun _ h11 =>
k4 .ret [(4, (get tT 4)), (5, (.bool true))] h11) (fun k4 =>
k4 .normal [(0, (get tT 0)), (1, (get tT 1)), (4, (get tT 4)), (6, (get tT 6))] h8) (blkK [0, 1, 4, 6] 1 k3)) (seqK (fun tT_1 h12 =>
bareK (xbin P .add T.int (.tmp 11) (.const (.int .i64 1)) (get tT_1 6) (.int .i64 1)) h12 fun t12 h13 =>
k .normal [(0, (get tT_1 0)), (1, (get tT_1 1)), (4, (get tT_1 4)), (6, t12)] h13) (afterK [0, 1, 4, 6] k))) (afterK [0, 1, 4, 6] k))

theorem s_law_find_eq (M : CombL) (C : CallF) (LP : LoopH) (a0 : Value) (a1 : Value) (H : AHeap) : dBodyL M Try.prog hints C LP F.law_find [a0, a1] H = s_law_find M.b.g M.c M.s Try.prog C (fun v0 v1 v4 v6 H k => loopL M Try.prog hints C LP F.law_find 0 [(0, v0), (1, v1), (4, v4), (6, v6)] H k) a0 a1 H (endK Try.prog [.cell 4 T.api_Change, .tmp 5]) := by kernel_rfl

theorem s_law_find_b0_eq (M : CombL) (C : CallF) (LP : LoopH) (v0 : Value) (v1 : Value) (v4 : Value) (v6 : Value) (H : AHeap) (k : K) : bodyL M Try.prog hints C LP F.law_find 0 [(0, v0), (1, v1), (4, v4), (6, v6)] H (afterK [0, 1, 4, 6] k) = s_law_find_b0 M.b.g M.c M.s Try.prog C (fun v0 v1 v4 v6 H k => loopL M Try.prog hints C LP F.law_find 0 [(0, v0), (1, v1), (4, v4), (6, v6)] H k) v0 v1 v4 v6 H k := by kernel_rfl

/-! ticketline.ticketlinelaw49.valid -/

noncomputable def s_law_valid (mg : GT) (mc : CT) (ms : ST) (P : Program) (C : CallF) (L0 : Value → Value → AHeap → K → Res) (a0 : Value) (H : AHeap) (K0 : K) : Res :=
ms (fun k1 =>
L0 a0 (.int .i64 0) H (blkK [] 0 k1)) (seqK (fun tT h1 =>
K0 .ret [(2, (.bool true))] h1) K0)

noncomputable def s_law_valid_b0 (mg : GT) (mc : CT) (ms : ST) (P : Program) (C : CallF) (L0 : Value → Value → AHeap → K → Res) (v0 : Value) (v3 : Value) (H : AHeap) (k : K) : Res :=
bareK (lenS v0) H fun t7 h1 =>
bareK (xbin P .lss T.int (.tmp 5) (.tmp 7) v3 t7) h1 fun t8 h2 =>
mc t8 (fun k2 => k2 .normal [(0, v0), (3, v3)] h2) (fun k2 =>
k2 (.exit 0) [(8, t8), (7, t7), (6, v0), (5, v3), (0, v0), (3, v3)] h2) (seqK (fun tT h3 =>
ms (fun k3 =>
bareK (ixS 5 (get tT 0) (get tT 3)) h3 fun t13 h4 =>
bareK (ldN 5 h4 t13) h4 fun t14 h5 =>
bothK (newv T.api_Change (.agg #[(.string (mk [])), (.bool false), (.bool false), (.string (mk [])), (.string (mk []))]) h5) fun t4 h6 =>
quietK (stN 5 h6 t4 t14) fun _ h7 =>
bareK (fad 0 t4) h7 fun t15 h8 =>
bareK (ld1 h8 t15) h8 fun t16 h9 =>
bareK (lenT t16) h9 fun t17 h10 =>
bareK (xbin P .lss T.int (.tmp 17) (.const (.int .i64 1)) t17 (.int .i64 1)) h10 fun t18 h11 =>
mg t18 false (fun o4 => bareK (fad 0 t4) h11 o4) h11 fun t20 h12 =>
mg t18 false (fun o5 => bareK (ld1 h12 t20) h12 o5) h12 fun t21 h13 =>
mg t18 false (fun o6 => bareK (lenT t21) h13 o6) h13 fun t22 h14 =>
mg t18 false (fun o7 => bareK (xbin P .gtr T.int (.tmp 22) (.const (.int .i64 24)) t22 (.int .i64 24)) h14 o7) h14 fun t23 h15 =>
pickK t18 (.bool true) t23 fun t24 =>
mg t24 false (fun o8 => bareK (fad 3 t4) h15 o8) h15 fun t26 h16 =>
mg t24 false (fun o9 => bareK (ld1 h16 t26) h16 o9) h16 fun t27 h17 =>
mg t24 false (fun o10 => bareK (lenT t27) h17 o10) h17 fun t28 h18 =>
mg t24 false (fun o11 => bareK (xbin P .gtr T.int (.tmp 28) (.const (.int .i64 40)) t28 (.int .i64 40)) h18 o11) h18 fun t29 h19 =>
pickK t24 (.bool true) t29 fun t30 =>
mg t30 false (fun o12 => bareK (fad 4 t4) h19 o12) h19 fun t32 h20 =>
mg t30 false (fun o13 => bareK (ld1 h20 t32) h20 o13) h20 fun t33 h21 =>
mg t30 false (fun o14 => bareK (lenT t33) h21 o14) h21 fun t34 h22 =>
mg t30 false (fun o15 => bareK (xbin P .gtr T.int (.tmp 34) (.const (.int .i64 40)) t34 (.int .i64 40)) h22 o15) h22 fun t35 h23 =>
pickK t30 (.bool true) t35 fun t36 =>
mg t36 false (fun o16 => bareK (fad 1 t4) h23 o16) h23 fun t38 h24 =>
mg t36 false (fun o17 => bareK (ld1 h24 t38) h24 o17) h24 fun t39 h25 =>
mg t36 false (fun o18 => bareK (xun P .not t39) h25 o18) h25 fun t40 h26 =>
mg t36 false (fun o19 => o19 t40 h26) h26 fun t41 h27 =>
mg t41 true (fun o20 => bareK (fad 3 t4) h27 o20) h27 fun t42 h28 =>
mg t41 true (fun o21 => bareK (ld1 h28 t42) h28 o21) h28 fun t43 h29 =>
mg t41 true (fun o22 => bareK (xbin P .neq T.string (.tmp 43) (.const (.string (mk []))) t43 (.string (mk []))) h29 o22) h29 fun t44 h30 =>
mg t36 false (fun o23 => pickK t41 t44 (.bool false) fun v => o23 v h30) h30 fun t45 h31 =>
pickK t36 (.bool true) t45 fun t46 =>
mg t46 false (fun o24 => bareK (fad 2 t4) h31 o24) h31 fun t48 h32 =>
mg t46 false (fun o25 => bareK (ld1 h32 t48) h32 o25) h32 fun t49 h33 =>
mg t46 false (fun o26 => bareK (xun P .not t49) h33 o26) h33 fun t50 h34 =>
mg t46 false (fun o27 => o27 t50 h34) h34 fun t51 h35 =>
mg t51 true (fun o28 => bareK (fad 4 t4) h35 o28) h35 fun t52 h36 =>
mg t51 true (fun o29 => bareK (ld1 h36 t52) h36 o29) h36 fun t53 h37 =>
mg t51 true (fun o30 => bareK (xbin P .neq T.string (.tmp 53) (.const (.string (mk []))) t53 (.string (mk []))) h37 o30) h37 fun t54 h38 =>
mg t46 false (fun o31 => pickK t51 t54 (.bool false) fun v => o31 v h38) h38 fun t55 h39 =>
pickK t46 (.bool true) t55 fun t56 =>
mg t56 false (fun o32 => bareK (ldN 5 h39 t4) h39 o32) h39 fun t58 h40 =>
mg t56 false (fun o33 => enterK C F.law_none [t58] h40 o33) h40 fun t59 h41 =>
pickK t56 (.bool true) t59 fun t60 =>
mg t60 false (fun o34 => o34 (get tT 3) h41) h41 fun t62 h42 =>
mg t60 false (fun o35 => bareK (xbin P .gtr T.int (.tmp 62) (.const (.int .i64 0)) t62 (.int .i64 0)) h42 o35) h42 fun t63 h43 =>
mg t60 false (fun o36 => o36 t63 h43) h43 fun t64 h44 =>
mg t64 true (fun o37 => o37 (get tT 0) h44) h44 fun t65 h45 =>
mg t64 true (fun o38 => o38 (get tT 3) h45) h45 fun t66 h46 =>
mg t64 true (fun o39 => bareK (xbin P .sub T.int (.tmp 66) (.const (.int .i64 1)) t66 (.int .i64 1)) h46 o39) h46 fun t67 h47 =>
mg t64 true (fun o40 => bareK (ixS 5 t65 t67) h47 o40) h47 fun t68 h48 =>
mg t64 true (fun o41 => bareK (fad 0 t68) h48 o41) h48 fun t69 h49 =>
mg t64 true (fun o42 => bareK (ld1 h49 t69) h49 o42) h49 fun t70 h50 =>
mg t64 true (fun o43 => bareK (fad 0 t4) h50 o43) h50 fun t71 h51 =>
mg t64 true (fun o44 => bareK (ld1 h51 t71) h51 o44) h51 fun t72 h52 =>
mg t64 true (fun o45 => bareK (xbin P .geq T.string (.tmp 70) (.tmp 72) t70 t72) h52 o45) h52 fun t73 h53 =>
mg t60 false (fun o46 => pickK t64 t73 (.bool false) fun v => o46 v h53) h53 fun t74 h54 =>
pickK t60 (.bool true) t74 fun t75 =>
checkK true <|
mc t75 (fun k47 => k47 .ret [(2, (.bool false))] h54) (fun k47 =>
k47 .normal [(0, (get tT 0)), (3, (get tT 3))] h54) (blkK [0, 3] 1 k3)) (seqK (fun tT_1 h55 =>
bareK (xbin P .add T.int (.tmp 9) (.const (.int .i64 1)) (get tT_1 3) (.int .i64 1)) h55 fun t10 h56 =>
k .normal [(0, (get tT_1 0)), (3, t10)] h56) (afterK [0, 3] k))) (afterK [0, 3] k))

theorem s_law_valid_eq (M : CombL) (C : CallF) (LP : LoopH) (a0 : Value) (H : AHeap) : dBodyL M Try.prog hints C LP F.law_valid [a0] H = s_law_valid M.b.g M.c M.s Try.prog C (fun v0 v3 H k => loopL M Try.prog hints C LP F.law_valid 0 [(0, v0), (3, v3)] H k) a0 H (endK Try.prog [.tmp 2]) := by kernel_rfl

theorem s_law_valid_b0_eq (M : CombL) (C : CallF) (LP : LoopH) (v0 : Value) (v3 : Value) (H : AHeap) (k : K) : bodyL M Try.prog hints C LP F.law_valid 0 [(0, v0), (3, v3)] H (afterK [0, 3] k) = s_law_valid_b0 M.b.g M.c M.s Try.prog C (fun v0 v3 H k => loopL M Try.prog hints C LP F.law_valid 0 [(0, v0), (3, v3)] H k) v0 v3 H k := by kernel_rfl

/-! ticketline.ticketlinelaw49.togethers -/

noncomputable def s_law_togethers (mg : GT) (mc : CT) (ms : ST) (P : Program) (C : CallF) (a0 : Value) (a1 : Value) (a2 : Value) (a3 : Value) (H : AHeap) (K0 : K) : Res :=
enterK C F.delta_Together [a0, a1] H fun t14 h1 =>
bareK (xextract t14 0) h1 fun t15 h2 =>
bareK (xextract t14 1) h2 fun t16 h3 =>
enterK C F.law_gives [t15, t16, a2, a3] h3 fun t21 h4 =>
K0 .ret [(8, t21)] h4

theorem s_law_togethers_eq (M : CombL) (C : CallF) (LP : LoopH) (a0 : Value) (a1 : Value) (a2 : Value) (a3 : Value) (H : AHeap) : dBodyL M Try.prog hints C LP F.law_togethers [a0, a1, a2, a3] H = s_law_togethers M.b.g M.c M.s Try.prog C a0 a1 a2 a3 H (endK Try.prog [.tmp 8]) := by kernel_rfl

/-! ticketline.ticketlinelaw49.merges -/

noncomputable def s_law_merges (mg : GT) (mc : CT) (ms : ST) (P : Program) (C : CallF) (a0 : Value) (a1 : Value) (a2 : Value) (a3 : Value) (H : AHeap) (K0 : K) : Res :=
enterK C F.delta_Merge [a0, a1] H fun t14 h1 =>
bareK (xextract t14 0) h1 fun t15 h2 =>
bareK (xextract t14 1) h2 fun t16 h3 =>
enterK C F.law_gives [t15, t16, a2, a3] h3 fun t21 h4 =>
K0 .ret [(8, t21)] h4

theorem s_law_merges_eq (M : CombL) (C : CallF) (LP : LoopH) (a0 : Value) (a1 : Value) (a2 : Value) (a3 : Value) (H : AHeap) : dBodyL M Try.prog hints C LP F.law_merges [a0, a1, a2, a3] H = s_law_merges M.b.g M.c M.s Try.prog C a0 a1 a2 a3 H (endK Try.prog [.tmp 8]) := by kernel_rfl

/-! ticketline.ticketlinelaw49.conflicts -/

noncomputable def s_law_conflicts (mg : GT) (mc : CT) (ms : ST) (P : Program) (C : CallF) (L0 : Value → Value → Value → AHeap → K → Res) (a0 : Value) (a1 : Value) (a2 : Value) (a3 : Value) (H : AHeap) (K0 : K) : Res :=
enterK C F.delta_Conflicts [a0, a1] H fun t15 h1 =>
bareK (xextract t15 0) h1 fun t16 h2 =>
bareK (xextract t15 1) h2 fun t17 h3 =>
bareK (lenS t16) h3 fun t19 h4 =>
bareK (lenS a2) h4 fun t21 h5 =>
bareK (xbin P .neq T.int (.tmp 19) (.tmp 21) t19 t21) h5 fun t22 h6 =>
mg t22 false (fun o1 => o1 t17 h6) h6 fun t24 h7 =>
mg t22 false (fun o2 => o2 a3 h7) h7 fun t25 h8 =>
mg t22 false (fun o3 => bareK (xbin P .neq T.int (.tmp 24) (.tmp 25) t24 t25) h8 o3) h8 fun t26 h9 =>
pickK t22 (.bool true) t26 fun t27 =>
mc t27 (fun k4 => k4 .ret [(8, (.bool false))] h9) (fun k4 =>
k4 .normal [(2, a2), (9, t16)] h9) (seqK (fun tT h10 =>
ms (fun k5 =>
L0 (get tT 2) (get tT 9) (.int .i64 0) h10 (blkK [] 0 k5)) (seqK (fun tT_1 h11 =>
K0 .ret [(8, (.bool true))] h11) K0)) K0)

noncomputable def s_law_conflicts_b0 (mg : GT) (mc : CT) (ms : ST) (P : Program) (C : CallF) (L0 : Value → Value → Value → AHeap → K → Res) (v2 : Value) (v9 : Value) (v11 : Value) (H : AHeap) (k : K) : Res :=
bareK (lenS v9) H fun t30 h11 =>
bareK (xbin P .lss T.int (.tmp 28) (.tmp 30) v11 t30) h11 fun t31 h12 =>
mc t31 (fun k6 => k6 .normal [(2, v2), (9, v9), (11, v11)] h12) (fun k6 =>
k6 (.exit 0) [(31, t31), (30, t30), (29, v9), (28, v11), (2, v2), (9, v9), (11, v11)] h12) (seqK (fun tT h13 =>
ms (fun k7 =>
bareK (ixS 1 (get tT 9) (get tT 11)) h13 fun t36 h14 =>
bareK (ld1 h14 t36) h14 fun t37 h15 =>
bareK (ixS 1 (get tT 2) (get tT 11)) h15 fun t40 h16 =>
bareK (ld1 h16 t40) h16 fun t41 h17 =>
bareK (xbin P .neq T.string (.tmp 37) (.tmp 41) t37 t41) h17 fun t42 h18 =>
checkK true <|
mc t42 (fun k8 => k8 .ret [(8, (.bool false))] h18) (fun k8 =>
k8 .normal [(2, (get tT 2)), (9, (get tT 9)), (11, (get tT 11))] h18) (blkK [2, 9, 11] 1 k7)) (seqK (fun tT_1 h19 =>
bareK (xbin P .add T.int (.tmp 32) (.const (.int .i64 1)) (get tT_1 11) (.int .i64 1)) h19 fun t33 h20 =>
k .normal [(2, (get tT_1 2)), (9, (get tT_1 9)), (11, t33)] h20) (afterK [2, 9, 11] k))) (afterK [2, 9, 11] k))

theorem s_law_conflicts_eq (M : CombL) (C : CallF) (LP : LoopH) (a0 : Value) (a1 : Value) (a2 : Value) (a3 : Value) (H : AHeap) : dBodyL M Try.prog hints C LP F.law_conflicts [a0, a1, a2, a3] H = s_law_conflicts M.b.g M.c M.s Try.prog C (fun v2 v9 v11 H k => loopL M Try.prog hints C LP F.law_conflicts 0 [(2, v2), (9, v9), (11, v11)] H k) a0 a1 a2 a3 H (endK Try.prog [.tmp 8]) := by kernel_rfl

theorem s_law_conflicts_b0_eq (M : CombL) (C : CallF) (LP : LoopH) (v2 : Value) (v9 : Value) (v11 : Value) (H : AHeap) (k : K) : bodyL M Try.prog hints C LP F.law_conflicts 0 [(2, v2), (9, v9), (11, v11)] H (afterK [2, 9, 11] k) = s_law_conflicts_b0 M.b.g M.c M.s Try.prog C (fun v2 v9 v11 H k => loopL M Try.prog hints C LP F.law_conflicts 0 [(2, v2), (9, v9), (11, v11)] H k) v2 v9 v11 H k := by kernel_rfl

/-! ticketline.ticketlinelaw49.keys -/

noncomputable def s_law_keys (mg : GT) (mc : CT) (ms : ST) (P : Program) (C : CallF) (L0 : Value → Value → Value → Value → AHeap → K → Res) (L1 : Value → Value → Value → AHeap → K → Res) (L2 : Value → Value → Value → AHeap → K → Res) (a0 : Value) (a1 : Value) (H : AHeap) (K0 : K) : Res :=
bareK (bldS #[(.slice none 0 0)] [(0, 1)] []) H fun t11 h1 =>
bothK (newv T.model_Model t11 h1) fun t12 h2 =>
ms (fun k1 =>
L0 a0 a1 t12 (.int .i64 0) h2 (blkK [1, 5] 0 k1)) (seqK (fun tT h3 =>
ms (fun k2 =>
L1 (get tT 1) (get tT 5) (.int .i64 0) h3 (blkK [5] 2 k2)) (seqK (fun tT_1 h4 =>
enterK C F.model_Model_Pairs [(get tT_1 5)] h4 fun t40 h5 =>
ms (fun k3 =>
L2 (.slice none 0 0) t40 (.int .i64 0) h5 (blkK [8] 4 k3)) (seqK (fun tT_2 h6 =>
K0 .ret [(4, (get tT_2 8))] h6) K0)) K0)) K0)

noncomputable def s_law_keys_b0 (mg : GT) (mc : CT) (ms : ST) (P : Program) (C : CallF) (L0 : Value → Value → Value → Value → AHeap → K → Res) (L1 : Value → Value → Value → AHeap → K → Res) (L2 : Value → Value → Value → AHeap → K → Res) (v0 : Value) (v1 : Value) (v5 : Value) (v6 : Value) (H : AHeap) (k : K) : Res :=
bareK (lenS v0) H fun t15 h3 =>
bareK (xbin P .lss T.int (.tmp 13) (.tmp 15) v6 t15) h3 fun t16 h4 =>
mc t16 (fun k2 => k2 .normal [(0, v0), (1, v1), (5, v5), (6, v6)] h4) (fun k2 =>
k2 (.exit 0) [(16, t16), (15, t15), (14, v0), (13, v6), (0, v0), (1, v1), (5, v5), (6, v6)] h4) (seqK (fun tT h5 =>
ms (fun k3 =>
bareK (ixS 5 (get tT 0) (get tT 6)) h5 fun t22 h6 =>
bareK (fad 0 t22) h6 fun t23 h7 =>
bareK (ld1 h7 t23) h7 fun t24 h8 =>
enterK C F.model_Model_Put [(get tT 5), t24, (.string (mk []))] h8 fun t25 h9 =>
k3 .normal [(0, (get tT 0)), (1, (get tT 1)), (5, (get tT 5)), (6, (get tT 6))] h9) (seqK (fun tT_1 h10 =>
bareK (xbin P .add T.int (.tmp 17) (.const (.int .i64 1)) (get tT_1 6) (.int .i64 1)) h10 fun t18 h11 =>
k .normal [(0, (get tT_1 0)), (1, (get tT_1 1)), (5, (get tT_1 5)), (6, t18)] h11) (afterK [0, 1, 5, 6] k))) (afterK [0, 1, 5, 6] k))

noncomputable def s_law_keys_b1 (mg : GT) (mc : CT) (ms : ST) (P : Program) (C : CallF) (L0 : Value → Value → Value → Value → AHeap → K → Res) (L1 : Value → Value → Value → AHeap → K → Res) (L2 : Value → Value → Value → AHeap → K → Res) (v1 : Value) (v5 : Value) (v7 : Value) (H : AHeap) (k : K) : Res :=
bareK (lenS v1) H fun t28 h4 =>
bareK (xbin P .lss T.int (.tmp 26) (.tmp 28) v7 t28) h4 fun t29 h5 =>
mc t29 (fun k3 => k3 .normal [(1, v1), (5, v5), (7, v7)] h5) (fun k3 =>
k3 (.exit 2) [(29, t29), (28, t28), (27, v1), (26, v7), (1, v1), (5, v5), (7, v7)] h5) (seqK (fun tT h6 =>
ms (fun k4 =>
bareK (ixS 5 (get tT 1) (get tT 7)) h6 fun t35 h7 =>
bareK (fad 0 t35) h7 fun t36 h8 =>
bareK (ld1 h8 t36) h8 fun t37 h9 =>
enterK C F.model_Model_Put [(get tT 5), t37, (.string (mk []))] h9 fun t38 h10 =>
k4 .normal [(1, (get tT 1)), (5, (get tT 5)), (7, (get tT 7))] h10) (seqK (fun tT_1 h11 =>
bareK (xbin P .add T.int (.tmp 30) (.const (.int .i64 1)) (get tT_1 7) (.int .i64 1)) h11 fun t31 h12 =>
k .normal [(1, (get tT_1 1)), (5, (get tT_1 5)), (7, t31)] h12) (afterK [1, 5, 7] k))) (afterK [1, 5, 7] k))

noncomputable def s_law_keys_b2 (mg : GT) (mc : CT) (ms : ST) (P : Program) (C : CallF) (L0 : Value → Value → Value → Value → AHeap → K → Res) (L1 : Value → Value → Value → AHeap → K → Res) (L2 : Value → Value → Value → AHeap → K → Res) (v8 : Value) (v9 : Value) (v10 : Value) (H : AHeap) (k : K) : Res :=
bareK (lenS v9) H fun t43 h6 =>
bareK (xbin P .lss T.int (.tmp 41) (.tmp 43) v10 t43) h6 fun t44 h7 =>
mc t44 (fun k4 => k4 .normal [(8, v8), (9, v9), (10, v10)] h7) (fun k4 =>
k4 (.exit 4) [(44, t44), (43, t43), (42, v9), (41, v10), (8, v8), (9, v9), (10, v10)] h7) (seqK (fun tT h8 =>
ms (fun k5 =>
bareK (ixS 2 (get tT 9) (get tT 10)) h8 fun t50 h9 =>
bareK (fad 0 t50) h9 fun t51 h10 =>
bareK (ld1 h10 t51) h10 fun t52 h11 =>
bothK (bldL T.string [(.string (mk []))] 1 [(0, t52)] h11) fun t53 h12 =>
bothK (app T.string 1 16 (get tT 8) (srcS 1 t53 h12) h12) fun t54 h13 =>
k5 .normal [(8, t54), (9, (get tT 9)), (10, (get tT 10))] h13) (seqK (fun tT_1 h14 =>
bareK (xbin P .add T.int (.tmp 45) (.const (.int .i64 1)) (get tT_1 10) (.int .i64 1)) h14 fun t46 h15 =>
k .normal [(8, (get tT_1 8)), (9, (get tT_1 9)), (10, t46)] h15) (afterK [8, 9, 10] k))) (afterK [8, 9, 10] k))

theorem s_law_keys_eq (M : CombL) (C : CallF) (LP : LoopH) (a0 : Value) (a1 : Value) (H : AHeap) : dBodyL M Try.prog hints C LP F.law_keys [a0, a1] H = s_law_keys M.b.g M.c M.s Try.prog C (fun v0 v1 v5 v6 H k => loopL M Try.prog hints C LP F.law_keys 0 [(0, v0), (1, v1), (5, v5), (6, v6)] H k) (fun v1 v5 v7 H k => loopL M Try.prog hints C LP F.law_keys 1 [(1, v1), (5, v5), (7, v7)] H k) (fun v8 v9 v10 H k => loopL M Try.prog hints C LP F.law_keys 2 [(8, v8), (9, v9), (10, v10)] H k) a0 a1 H (endK Try.prog [.tmp 4]) := by kernel_rfl

theorem s_law_keys_b0_eq (M : CombL) (C : CallF) (LP : LoopH) (v0 : Value) (v1 : Value) (v5 : Value) (v6 : Value) (H : AHeap) (k : K) : bodyL M Try.prog hints C LP F.law_keys 0 [(0, v0), (1, v1), (5, v5), (6, v6)] H (afterK [0, 1, 5, 6] k) = s_law_keys_b0 M.b.g M.c M.s Try.prog C (fun v0 v1 v5 v6 H k => loopL M Try.prog hints C LP F.law_keys 0 [(0, v0), (1, v1), (5, v5), (6, v6)] H k) (fun v1 v5 v7 H k => loopL M Try.prog hints C LP F.law_keys 1 [(1, v1), (5, v5), (7, v7)] H k) (fun v8 v9 v10 H k => loopL M Try.prog hints C LP F.law_keys 2 [(8, v8), (9, v9), (10, v10)] H k) v0 v1 v5 v6 H k := by kernel_rfl

theorem s_law_keys_b1_eq (M : CombL) (C : CallF) (LP : LoopH) (v1 : Value) (v5 : Value) (v7 : Value) (H : AHeap) (k : K) : bodyL M Try.prog hints C LP F.law_keys 1 [(1, v1), (5, v5), (7, v7)] H (afterK [1, 5, 7] k) = s_law_keys_b1 M.b.g M.c M.s Try.prog C (fun v0 v1 v5 v6 H k => loopL M Try.prog hints C LP F.law_keys 0 [(0, v0), (1, v1), (5, v5), (6, v6)] H k) (fun v1 v5 v7 H k => loopL M Try.prog hints C LP F.law_keys 1 [(1, v1), (5, v5), (7, v7)] H k) (fun v8 v9 v10 H k => loopL M Try.prog hints C LP F.law_keys 2 [(8, v8), (9, v9), (10, v10)] H k) v1 v5 v7 H k := by kernel_rfl

theorem s_law_keys_b2_eq (M : CombL) (C : CallF) (LP : LoopH) (v8 : Value) (v9 : Value) (v10 : Value) (H : AHeap) (k : K) : bodyL M Try.prog hints C LP F.law_keys 2 [(8, v8), (9, v9), (10, v10)] H (afterK [8, 9, 10] k) = s_law_keys_b2 M.b.g M.c M.s Try.prog C (fun v0 v1 v5 v6 H k => loopL M Try.prog hints C LP F.law_keys 0 [(0, v0), (1, v1), (5, v5), (6, v6)] H k) (fun v1 v5 v7 H k => loopL M Try.prog hints C LP F.law_keys 1 [(1, v1), (5, v5), (7, v7)] H k) (fun v8 v9 v10 H k => loopL M Try.prog hints C LP F.law_keys 2 [(8, v8), (9, v9), (10, v10)] H k) v8 v9 v10 H k := by kernel_rfl

/-! ticketline.ticketlinelaw49.none -/

noncomputable def s_law_none (mg : GT) (mc : CT) (ms : ST) (P : Program) (C : CallF) (a0 : Value) (H : AHeap) (K0 : K) : Res :=
bothK (newv T.api_Change a0 H) fun t1 h1 =>
bareK (fad 1 t1) h1 fun t3 h2 =>
bareK (ld1 h2 t3) h2 fun t4 h3 =>
bareK (fad 2 t1) h3 fun t5 h4 =>
bareK (ld1 h4 t5) h4 fun t6 h5 =>
bareK (xbin P .eql T.bool (.tmp 4) (.tmp 6) t4 t6) h5 fun t7 h6 =>
mg t7 true (fun o1 => bareK (fad 3 t1) h6 o1) h6 fun t9 h7 =>
mg t7 true (fun o2 => bareK (ld1 h7 t9) h7 o2) h7 fun t10 h8 =>
mg t7 true (fun o3 => bareK (fad 4 t1) h8 o3) h8 fun t11 h9 =>
mg t7 true (fun o4 => bareK (ld1 h9 t11) h9 o4) h9 fun t12 h10 =>
mg t7 true (fun o5 => bareK (xbin P .eql T.string (.tmp 10) (.tmp 12) t10 t12) h10 o5) h10 fun t13 h11 =>
pickK t7 t13 (.bool false) fun t14 =>
K0 .ret [(2, t14)] h11

theorem s_law_none_eq (M : CombL) (C : CallF) (LP : LoopH) (a0 : Value) (H : AHeap) : dBodyL M Try.prog hints C LP F.law_none [a0] H = s_law_none M.b.g M.c M.s Try.prog C a0 H (endK Try.prog [.tmp 2]) := by kernel_rfl

/-! ticketline.ticketlinelaw49.comes -/

noncomputable def s_law_comes (mg : GT) (mc : CT) (ms : ST) (P : Program) (C : CallF) (a0 : Value) (a1 : Value) (H : AHeap) (K0 : K) : Res :=
bothK (newv T.api_Change (.agg #[(.string (mk [])), (.bool false), (.bool false), (.string (mk [])), (.string (mk []))]) H) fun t4 h1 =>
bareK (bldS #[(.string (mk [])), (.bool false), (.bool false), (.string (mk [])), (.string (mk []))] [(0, 1), (1, 1), (2, 1), (3, 1), (4, 1)] [(0, a0), (2, (.bool true)), (4, a1)]) h1 fun t7 h2 =>
quietK (stN 5 h2 t4 t7) fun _ h3 =>
K0 .ret [(4, t4)] h3

theorem s_law_comes_eq (M : CombL) (C : CallF) (LP : LoopH) (a0 : Value) (a1 : Value) (H : AHeap) : dBodyL M Try.prog hints C LP F.law_comes [a0, a1] H = s_law_comes M.b.g M.c M.s Try.prog C a0 a1 H (endK Try.prog [.cell 4 T.api_Change]) := by kernel_rfl

/-! ticketline.delta.Valid -/

noncomputable def s_delta_Valid (mg : GT) (mc : CT) (ms : ST) (P : Program) (C : CallF) (L0 : Value → Value → Value → Value → AHeap → K → Res) (a0 : Value) (H : AHeap) (K0 : K) : Res :=
bareK (lenS a0) H fun t6 h1 =>
bareK (xbin P .gtr T.int (.tmp 6) (.const (.int .i64 20000)) t6 (.int .i64 20000)) h1 fun t7 h2 =>
mc t7 (fun k1 => k1 .ret [(2, (.bool false))] h2) (fun k1 =>
k1 .normal [(0, a0)] h2) (seqK (fun tT h3 =>
bareK (lenS (get tT 0)) h3 fun t9 h4 =>
ms (fun k2 =>
L0 (get tT 0) (get tT 0) t9 (.int .i64 0) h4 (blkK [] 0 k2)) (seqK (fun tT_1 h5 =>
K0 .ret [(2, (.bool true))] h5) K0)) K0)

noncomputable def s_delta_Valid_b0 (mg : GT) (mc : CT) (ms : ST) (P : Program) (C : CallF) (L0 : Value → Value → Value → Value → AHeap → K → Res) (v0 : Value) (v8 : Value) (v9 : Value) (v10 : Value) (H : AHeap) (k : K) : Res :=
bareK (xbin P .lss T.int (.tmp 10) (.tmp 9) v10 v9) H fun t11 h5 =>
mc t11 (fun k3 => k3 .normal [(0, v0), (8, v8), (9, v9), (10, v10)] h5) (fun k3 =>
k3 (.exit 0) [(11, t11), (0, v0), (8, v8), (9, v9), (10, v10)] h5) (seqK (fun tT h6 =>
ms (fun k4 =>
bareK (ixS 5 (get tT 8) (get tT 10)) h6 fun t13 h7 =>
bareK (ldN 5 h7 t13) h7 fun t14 h8 =>
bothK (newv T.api_Change (.agg #[(.string (mk [])), (.bool false), (.bool false), (.string (mk [])), (.string (mk []))]) h8) fun t4 h9 =>
quietK (stN 5 h9 t4 t14) fun _ h10 =>
bareK (fad 0 t4) h10 fun t15 h11 =>
bareK (ld1 h11 t15) h11 fun t16 h12 =>
bareK (fad 3 t4) h12 fun t17 h13 =>
bareK (ld1 h13 t17) h13 fun t18 h14 =>
enterK C F.delta_allowed [t16, t18] h14 fun t19 h15 =>
bareK (xun P .not t19) h15 fun t20 h16 =>
mg t20 false (fun o5 => bareK (fad 0 t4) h16 o5) h16 fun t22 h17 =>
mg t20 false (fun o6 => bareK (ld1 h17 t22) h17 o6) h17 fun t23 h18 =>
mg t20 false (fun o7 => bareK (fad 4 t4) h18 o7) h18 fun t24 h19 =>
mg t20 false (fun o8 => bareK (ld1 h19 t24) h19 o8) h19 fun t25 h20 =>
mg t20 false (fun o9 => enterK C F.delta_allowed [t23, t25] h20 o9) h20 fun t26 h21 =>
mg t20 false (fun o10 => bareK (xun P .not t26) h21 o10) h21 fun t27 h22 =>
pickK t20 (.bool true) t27 fun t28 =>
mg t28 false (fun o11 => bareK (fad 1 t4) h22 o11) h22 fun t30 h23 =>
mg t28 false (fun o12 => bareK (ld1 h23 t30) h23 o12) h23 fun t31 h24 =>
mg t28 false (fun o13 => bareK (xun P .not t31) h24 o13) h24 fun t32 h25 =>
mg t28 false (fun o14 => o14 t32 h25) h25 fun t33 h26 =>
mg t33 true (fun o15 => bareK (fad 3 t4) h26 o15) h26 fun t34 h27 =>
mg t33 true (fun o16 => bareK (ld1 h27 t34) h27 o16) h27 fun t35 h28 =>
mg t33 true (fun o17 => bareK (xbin P .neq T.string (.tmp 35) (.const (.string (mk []))) t35 (.string (mk []))) h28 o17) h28 fun t36 h29 =>
mg t28 false (fun o18 => pickK t33 t36 (.bool false) fun v => o18 v h29) h29 fun t37 h30 =>
pickK t28 (.bool true) t37 fun t38 =>
mg t38 false (fun o19 => bareK (fad 2 t4) h30 o19) h30 fun t40 h31 =>
mg t38 false (fun o20 => bareK (ld1 h31 t40) h31 o20) h31 fun t41 h32 =>
mg t38 false (fun o21 => bareK (xun P .not t41) h32 o21) h32 fun t42 h33 =>
mg t38 false (fun o22 => o22 t42 h33) h33 fun t43 h34 =>
mg t43 true (fun o23 => bareK (fad 4 t4) h34 o23) h34 fun t44 h35 =>
mg t43 true (fun o24 => bareK (ld1 h35 t44) h35 o24) h35 fun t45 h36 =>
mg t43 true (fun o25 => bareK (xbin P .neq T.string (.tmp 45) (.const (.string (mk []))) t45 (.string (mk []))) h36 o25) h36 fun t46 h37 =>
mg t38 false (fun o26 => pickK t43 t46 (.bool false) fun v => o26 v h37) h37 fun t47 h38 =>
pickK t38 (.bool true) t47 fun t48 =>
mg t48 false (fun o27 => bareK (ldN 5 h38 t4) h38 o27) h38 fun t50 h39 =>
mg t48 false (fun o28 => enterK C F.delta_same [t50] h39 o28) h39 fun t51 h40 =>
pickK t48 (.bool true) t51 fun t52 =>
mg t52 false (fun o29 => o29 (get tT 10) h40) h40 fun t54 h41 =>
mg t52 false (fun o30 => bareK (xbin P .gtr T.int (.tmp 54) (.const (.int .i64 0)) t54 (.int .i64 0)) h41 o30) h41 fun t55 h42 =>
mg t52 false (fun o31 => o31 t55 h42) h42 fun t56 h43 =>
mg t56 true (fun o32 => o32 (get tT 0) h43) h43 fun t57 h44 =>
mg t56 true (fun o33 => o33 (get tT 10) h44) h44 fun t58 h45 =>
mg t56 true (fun o34 => bareK (xbin P .sub T.int (.tmp 58) (.const (.int .i64 1)) t58 (.int .i64 1)) h45 o34) h45 fun t59 h46 =>
mg t56 true (fun o35 => bareK (ixS 5 t57 t59) h46 o35) h46 fun t60 h47 =>
mg t56 true (fun o36 => bareK (fad 0 t60) h47 o36) h47 fun t61 h48 =>
mg t56 true (fun o37 => bareK (ld1 h48 t61) h48 o37) h48 fun t62 h49 =>
mg t56 true (fun o38 => bareK (fad 0 t4) h49 o38) h49 fun t63 h50 =>
mg t56 true (fun o39 => bareK (ld1 h50 t63) h50 o39) h50 fun t64 h51 =>
mg t56 true (fun o40 => bareK (xbin P .geq T.string (.tmp 62) (.tmp 64) t62 t64) h51 o40) h51 fun t65 h52 =>
mg t52 false (fun o41 => pickK t56 t65 (.bool false) fun v => o41 v h52) h52 fun t66 h53 =>
pickK t52 (.bool true) t66 fun t67 =>
checkK true <|
mc t67 (fun k42 => k42 .ret [(2, (.bool false))] h53) (fun k42 =>
k42 .normal [(0, (get tT 0)), (8, (get tT 8)), (9, (get tT 9)), (10, (get tT 10))] h53) (blkK [0, 8, 9, 10] 1 k4)) (seqK (fun tT_1 h54 =>
bareK (xbin P .add T.int (.tmp 10) (.const (.int .i64 1)) (get tT_1 10) (.int .i64 1)) h54 fun t68 h55 =>
k .normal [(0, (get tT_1 0)), (8, (get tT_1 8)), (9, (get tT_1 9)), (10, t68)] h55) (afterK [0, 8, 9, 10] k))) (afterK [0, 8, 9, 10] k))

theorem s_delta_Valid_eq (M : CombL) (C : CallF) (LP : LoopH) (a0 : Value) (H : AHeap) : dBodyL M Try.prog hints C LP F.delta_Valid [a0] H = s_delta_Valid M.b.g M.c M.s Try.prog C (fun v0 v8 v9 v10 H k => loopL M Try.prog hints C LP F.delta_Valid 0 [(0, v0), (8, v8), (9, v9), (10, v10)] H k) a0 H (endK Try.prog [.tmp 2]) := by kernel_rfl

theorem s_delta_Valid_b0_eq (M : CombL) (C : CallF) (LP : LoopH) (v0 : Value) (v8 : Value) (v9 : Value) (v10 : Value) (H : AHeap) (k : K) : bodyL M Try.prog hints C LP F.delta_Valid 0 [(0, v0), (8, v8), (9, v9), (10, v10)] H (afterK [0, 8, 9, 10] k) = s_delta_Valid_b0 M.b.g M.c M.s Try.prog C (fun v0 v8 v9 v10 H k => loopL M Try.prog hints C LP F.delta_Valid 0 [(0, v0), (8, v8), (9, v9), (10, v10)] H k) v0 v8 v9 v10 H k := by kernel_rfl

/-! ticketline.ticketlinelaw49.reverses -/

noncomputable def s_law_reverses (mg : GT) (mc : CT) (ms : ST) (P : Program) (C : CallF) (a0 : Value) (a1 : Value) (a2 : Value) (H : AHeap) (K0 : K) : Res :=
enterK C F.delta_Reverse [a0] H fun t11 h1 =>
bareK (xextract t11 0) h1 fun t12 h2 =>
bareK (xextract t11 1) h2 fun t13 h3 =>
enterK C F.law_gives [t12, t13, a1, a2] h3 fun t18 h4 =>
K0 .ret [(6, t18)] h4

theorem s_law_reverses_eq (M : CombL) (C : CallF) (LP : LoopH) (a0 : Value) (a1 : Value) (a2 : Value) (H : AHeap) : dBodyL M Try.prog hints C LP F.law_reverses [a0, a1, a2] H = s_law_reverses M.b.g M.c M.s Try.prog C a0 a1 a2 H (endK Try.prog [.tmp 6]) := by kernel_rfl

/-! ticketline.ticketlinelaw49.filled -/

noncomputable def s_law_filled (mg : GT) (mc : CT) (ms : ST) (P : Program) (C : CallF) (L0 : Value → Value → Value → AHeap → K → Res) (a0 : Value) (H : AHeap) (K0 : K) : Res :=
bareK (bldS #[(.slice none 0 0)] [(0, 1)] []) H fun t5 h1 =>
bothK (newv T.model_Model t5 h1) fun t6 h2 =>
ms (fun k1 =>
L0 a0 t6 (.int .i64 0) h2 (blkK [3] 0 k1)) (seqK (fun tT h3 =>
K0 .ret [(2, (get tT 3))] h3) K0)

noncomputable def s_law_filled_b0 (mg : GT) (mc : CT) (ms : ST) (P : Program) (C : CallF) (L0 : Value → Value → Value → AHeap → K → Res) (v0 : Value) (v3 : Value) (v4 : Value) (H : AHeap) (k : K) : Res :=
bareK (lenS v0) H fun t9 h3 =>
bareK (xbin P .lss T.int (.tmp 7) (.tmp 9) v4 t9) h3 fun t10 h4 =>
mc t10 (fun k2 => k2 .normal [(0, v0), (3, v3), (4, v4)] h4) (fun k2 =>
k2 (.exit 0) [(10, t10), (9, t9), (8, v0), (7, v4), (0, v0), (3, v3), (4, v4)] h4) (seqK (fun tT h5 =>
ms (fun k3 =>
bareK (ixS 2 (get tT 0) (get tT 4)) h5 fun t16 h6 =>
bareK (fad 0 t16) h6 fun t17 h7 =>
bareK (ld1 h7 t17) h7 fun t18 h8 =>
bareK (ixS 2 (get tT 0) (get tT 4)) h8 fun t21 h9 =>
bareK (fad 1 t21) h9 fun t22 h10 =>
bareK (ld1 h10 t22) h10 fun t23 h11 =>
enterK C F.model_Model_Put [(get tT 3), t18, t23] h11 fun t24 h12 =>
checkK true <|
k3 .normal [(0, (get tT 0)), (3, (get tT 3)), (4, (get tT 4))] h12) (seqK (fun tT_1 h13 =>
bareK (xbin P .add T.int (.tmp 11) (.const (.int .i64 1)) (get tT_1 4) (.int .i64 1)) h13 fun t12 h14 =>
k .normal [(0, (get tT_1 0)), (3, (get tT_1 3)), (4, t12)] h14) (afterK [0, 3, 4] k))) (afterK [0, 3, 4] k))

theorem s_law_filled_eq (M : CombL) (C : CallF) (LP : LoopH) (a0 : Value) (H : AHeap) : dBodyL M Try.prog hints C LP F.law_filled [a0] H = s_law_filled M.b.g M.c M.s Try.prog C (fun v0 v3 v4 H k => loopL M Try.prog hints C LP F.law_filled 0 [(0, v0), (3, v3), (4, v4)] H k) a0 H (endK Try.prog [.tmp 2]) := by kernel_rfl

theorem s_law_filled_b0_eq (M : CombL) (C : CallF) (LP : LoopH) (v0 : Value) (v3 : Value) (v4 : Value) (H : AHeap) (k : K) : bodyL M Try.prog hints C LP F.law_filled 0 [(0, v0), (3, v3), (4, v4)] H (afterK [0, 3, 4] k) = s_law_filled_b0 M.b.g M.c M.s Try.prog C (fun v0 v3 v4 H k => loopL M Try.prog hints C LP F.law_filled 0 [(0, v0), (3, v3), (4, v4)] H k) v0 v3 v4 H k := by kernel_rfl

/-! ticketline.delta.Apply -/

noncomputable def s_delta_Apply (mg : GT) (mc : CT) (ms : ST) (P : Program) (C : CallF) (L0 : Value → Value → Value → Value → Value → Value → AHeap → K → Res) (L1 : Value → Value → Value → Value → Value → AHeap → K → Res) (L2 : Value → Value → Value → Value → AHeap → K → Res) (a0 : Value) (a1 : Value) (H : AHeap) (K0 : K) : Res :=
ms (fun k1 =>
bareK (xbin P .eql T.p_model_Model (.tmp 13) (.const (.pointer none)) a0 (.pointer none)) H fun t14 h1 =>
mc t14 (fun k2 => k2 .ret [(4, (.int .i64 1))] h1) (fun k2 =>
enterK C F.delta_Valid [a1] h1 fun t17 h2 =>
bareK (xun P .not t17) h2 fun t18 h3 =>
mc t18 (fun k3 => k3 .ret [(4, (.int .i64 2))] h3) (fun k3 =>
enterK C F.delta_Fits [a0, a1] h3 fun t22 h4 =>
bareK (xun P .not t22) h4 fun t23 h5 =>
mc t23 (fun k4 => k4 .ret [(4, (.int .i64 10))] h5) (fun k4 =>
k4 .normal [(0, a0), (1, a1)] h5) (afterK [0, 1] k3)) (afterK [0, 1] k2)) (blkK [0, 1] 0 k1)) (seqK (fun tT h6 =>
enterK C F.model_Model_Len [(get tT 0)] h6 fun t25 h7 =>
bareK (lenS (get tT 1)) h7 fun t27 h8 =>
ms (fun k5 =>
L0 (get tT 0) (get tT 1) t25 (get tT 1) t27 (.int .i64 0) h8 (blkK [0, 1, 5] 1 k5)) (seqK (fun tT_1 h9 =>
bareK (xbin P .gtr T.int (.tmp 49) (.const (.int .i64 20000)) (get tT_1 5) (.int .i64 20000)) h9 fun t50 h10 =>
mc t50 (fun k6 => k6 .ret [(4, (.int .i64 7))] h10) (fun k6 =>
k6 .normal [(0, (get tT_1 0)), (1, (get tT_1 1))] h10) (seqK (fun tT_2 h11 =>
bareK (lenS (get tT_2 1)) h11 fun t52 h12 =>
ms (fun k7 =>
L1 (get tT_2 0) (get tT_2 1) (get tT_2 1) t52 (.int .i64 0) h12 (blkK [0, 1] 4 k7)) (seqK (fun tT_3 h13 =>
bareK (lenS (get tT_3 1)) h13 fun t66 h14 =>
ms (fun k8 =>
L2 (get tT_3 0) (get tT_3 1) t66 (.int .i64 0) h14 (blkK [] 6 k8)) (seqK (fun tT_4 h15 =>
K0 .ret [(4, (.int .i64 0))] h15) K0)) K0)) K0)) K0)) K0)

noncomputable def s_delta_Apply_b0 (mg : GT) (mc : CT) (ms : ST) (P : Program) (C : CallF) (L0 : Value → Value → Value → Value → Value → Value → AHeap → K → Res) (L1 : Value → Value → Value → Value → Value → AHeap → K → Res) (L2 : Value → Value → Value → Value → AHeap → K → Res) (v0 : Value) (v1 : Value) (v5 : Value) (v26 : Value) (v27 : Value) (v28 : Value) (H : AHeap) (k : K) : Res :=
bareK (xbin P .lss T.int (.tmp 28) (.tmp 27) v28 v27) H fun t29 h9 =>
mc t29 (fun k6 => k6 .normal [(0, v0), (1, v1), (5, v5), (26, v26), (27, v27), (28, v28)] h9) (fun k6 =>
k6 (.exit 1) [(29, t29), (0, v0), (1, v1), (5, v5), (26, v26), (27, v27), (28, v28)] h9) (seqK (fun tT h10 =>
ms (fun k7 =>
bareK (ixS 5 (get tT 26) (get tT 28)) h10 fun t30 h11 =>
bareK (ldN 5 h11 t30) h11 fun t31 h12 =>
bothK (newv T.api_Change (.agg #[(.string (mk [])), (.bool false), (.bool false), (.string (mk [])), (.string (mk []))]) h12) fun t7 h13 =>
quietK (stN 5 h13 t7 t31) fun _ h14 =>
ms (fun k8 =>
bareK (fad 2 t7) h14 fun t33 h15 =>
bareK (ld1 h15 t33) h15 fun t34 h16 =>
mg t34 true (fun o9 => bareK (fad 1 t7) h16 o9) h16 fun t36 h17 =>
mg t34 true (fun o10 => bareK (ld1 h17 t36) h17 o10) h17 fun t37 h18 =>
mg t34 true (fun o11 => bareK (xun P .not t37) h18 o11) h18 fun t38 h19 =>
pickK t34 t38 (.bool false) fun t39 =>
mc t39 (fun k12 => bareK (xbin P .add T.int (.tmp 40) (.const (.int .i64 1)) (get tT 5) (.int .i64 1)) h19 fun t41 h20 =>
k12 .normal [(0, (get tT 0)), (1, (get tT 1)), (5, t41), (26, (get tT 26)), (27, (get tT 27)), (28, (get tT 28))] h20) (fun k12 =>
bareK (fad 2 t7) h19 fun t43 h21 =>
bareK (ld1 h21 t43) h21 fun t44 h22 =>
bareK (xun P .not t44) h22 fun t45 h23 =>
mc t45 (fun k13 => bareK (xbin P .sub T.int (.tmp 46) (.const (.int .i64 1)) (get tT 5) (.int .i64 1)) h23 fun t47 h24 =>
k13 .normal [(0, (get tT 0)), (1, (get tT 1)), (5, t47), (26, (get tT 26)), (27, (get tT 27)), (28, (get tT 28))] h24) (fun k13 =>
k13 .normal [(0, (get tT 0)), (1, (get tT 1)), (5, (get tT 5)), (26, (get tT 26)), (27, (get tT 27)), (28, (get tT 28))] h23) (afterK [0, 1, 5, 26, 27, 28] k12)) (blkK [0, 1, 5, 26, 27, 28] 3 k8)) (blkK [0, 1, 5, 26, 27, 28] 2 k7)) (seqK (fun tT_1 h25 =>
bareK (xbin P .add T.int (.tmp 28) (.const (.int .i64 1)) (get tT_1 28) (.int .i64 1)) h25 fun t48 h26 =>
k .normal [(0, (get tT_1 0)), (1, (get tT_1 1)), (5, (get tT_1 5)), (26, (get tT_1 26)), (27, (get tT_1 27)), (28, t48)] h26) (afterK [0, 1, 5, 26, 27, 28] k))) (afterK [0, 1, 5, 26, 27, 28] k))

noncomputable def s_delta_Apply_b1 (mg : GT) (mc : CT) (ms : ST) (P : Program) (C : CallF) (L0 : Value → Value → Value → Value → Value → Value → AHeap → K → Res) (L1 : Value → Value → Value → Value → Value → AHeap → K → Res) (L2 : Value → Value → Value → Value → AHeap → K → Res) (v0 : Value) (v1 : Value) (v51 : Value) (v52 : Value) (v53 : Value) (H : AHeap) (k : K) : Res :=
bareK (xbin P .lss T.int (.tmp 53) (.tmp 52) v53 v52) H fun t54 h13 =>
mc t54 (fun k8 => k8 .normal [(0, v0), (1, v1), (51, v51), (52, v52), (53, v53)] h13) (fun k8 =>
k8 (.exit 4) [(54, t54), (0, v0), (1, v1), (51, v51), (52, v52), (53, v53)] h13) (seqK (fun tT h14 =>
ms (fun k9 =>
bareK (ixS 5 (get tT 51) (get tT 53)) h14 fun t55 h15 =>
bareK (ldN 5 h15 t55) h15 fun t56 h16 =>
bothK (newv T.api_Change (.agg #[(.string (mk [])), (.bool false), (.bool false), (.string (mk [])), (.string (mk []))]) h16) fun t9 h17 =>
quietK (stN 5 h17 t9 t56) fun _ h18 =>
bareK (fad 2 t9) h18 fun t57 h19 =>
bareK (ld1 h19 t57) h19 fun t58 h20 =>
bareK (xun P .not t58) h20 fun t59 h21 =>
mc t59 (fun k10 => bareK (fad 0 t9) h21 fun t61 h22 =>
bareK (ld1 h22 t61) h22 fun t62 h23 =>
enterK C F.model_Model_Delete [(get tT 0), t62] h23 fun t63 h24 =>
k10 .normal [(0, (get tT 0)), (1, (get tT 1)), (51, (get tT 51)), (52, (get tT 52)), (53, (get tT 53))] h24) (fun k10 =>
k10 .normal [(0, (get tT 0)), (1, (get tT 1)), (51, (get tT 51)), (52, (get tT 52)), (53, (get tT 53))] h21) (blkK [0, 1, 51, 52, 53] 5 k9)) (seqK (fun tT_1 h25 =>
bareK (xbin P .add T.int (.tmp 53) (.const (.int .i64 1)) (get tT_1 53) (.int .i64 1)) h25 fun t64 h26 =>
k .normal [(0, (get tT_1 0)), (1, (get tT_1 1)), (51, (get tT_1 51)), (52, (get tT_1 52)), (53, t64)] h26) (afterK [0, 1, 51, 52, 53] k))) (afterK [0, 1, 51, 52, 53] k))

noncomputable def s_delta_Apply_b2 (mg : GT) (mc : CT) (ms : ST) (P : Program) (C : CallF) (L0 : Value → Value → Value → Value → Value → Value → AHeap → K → Res) (L1 : Value → Value → Value → Value → Value → AHeap → K → Res) (L2 : Value → Value → Value → Value → AHeap → K → Res) (v0 : Value) (v65 : Value) (v66 : Value) (v67 : Value) (H : AHeap) (k : K) : Res :=
bareK (xbin P .lss T.int (.tmp 67) (.tmp 66) v67 v66) H fun t68 h15 =>
mc t68 (fun k9 => k9 .normal [(0, v0), (65, v65), (66, v66), (67, v67)] h15) (fun k9 =>
k9 (.exit 6) [(68, t68), (0, v0), (65, v65), (66, v66), (67, v67)] h15) (seqK (fun tT h16 =>
ms (fun k10 =>
bareK (ixS 5 (get tT 65) (get tT 67)) h16 fun t69 h17 =>
bareK (ldN 5 h17 t69) h17 fun t70 h18 =>
bothK (newv T.api_Change (.agg #[(.string (mk [])), (.bool false), (.bool false), (.string (mk [])), (.string (mk []))]) h18) fun t11 h19 =>
quietK (stN 5 h19 t11 t70) fun _ h20 =>
bareK (fad 2 t11) h20 fun t71 h21 =>
bareK (ld1 h21 t71) h21 fun t72 h22 =>
mc t72 (fun k11 => bareK (fad 0 t11) h22 fun t74 h23 =>
bareK (ld1 h23 t74) h23 fun t75 h24 =>
bareK (fad 4 t11) h24 fun t76 h25 =>
bareK (ld1 h25 t76) h25 fun t77 h26 =>
enterK C F.model_Model_Put [(get tT 0), t75, t77] h26 fun t78 h27 =>
k11 .normal [(0, (get tT 0)), (65, (get tT 65)), (66, (get tT 66)), (67, (get tT 67))] h27) (fun k11 =>
k11 .normal [(0, (get tT 0)), (65, (get tT 65)), (66, (get tT 66)), (67, (get tT 67))] h22) (blkK [0, 65, 66, 67] 7 k10)) (seqK (fun tT_1 h28 =>
bareK (xbin P .add T.int (.tmp 67) (.const (.int .i64 1)) (get tT_1 67) (.int .i64 1)) h28 fun t79 h29 =>
k .normal [(0, (get tT_1 0)), (65, (get tT_1 65)), (66, (get tT_1 66)), (67, t79)] h29) (afterK [0, 65, 66, 67] k))) (afterK [0, 65, 66, 67] k))

theorem s_delta_Apply_eq (M : CombL) (C : CallF) (LP : LoopH) (a0 : Value) (a1 : Value) (H : AHeap) : dBodyL M Try.prog hints C LP F.delta_Apply [a0, a1] H = s_delta_Apply M.b.g M.c M.s Try.prog C (fun v0 v1 v5 v26 v27 v28 H k => loopL M Try.prog hints C LP F.delta_Apply 0 [(0, v0), (1, v1), (5, v5), (26, v26), (27, v27), (28, v28)] H k) (fun v0 v1 v51 v52 v53 H k => loopL M Try.prog hints C LP F.delta_Apply 1 [(0, v0), (1, v1), (51, v51), (52, v52), (53, v53)] H k) (fun v0 v65 v66 v67 H k => loopL M Try.prog hints C LP F.delta_Apply 2 [(0, v0), (65, v65), (66, v66), (67, v67)] H k) a0 a1 H (endK Try.prog [.tmp 4]) := by kernel_rfl

theorem s_delta_Apply_b0_eq (M : CombL) (C : CallF) (LP : LoopH) (v0 : Value) (v1 : Value) (v5 : Value) (v26 : Value) (v27 : Value) (v28 : Value) (H : AHeap) (k : K) : bodyL M Try.prog hints C LP F.delta_Apply 0 [(0, v0), (1, v1), (5, v5), (26, v26), (27, v27), (28, v28)] H (afterK [0, 1, 5, 26, 27, 28] k) = s_delta_Apply_b0 M.b.g M.c M.s Try.prog C (fun v0 v1 v5 v26 v27 v28 H k => loopL M Try.prog hints C LP F.delta_Apply 0 [(0, v0), (1, v1), (5, v5), (26, v26), (27, v27), (28, v28)] H k) (fun v0 v1 v51 v52 v53 H k => loopL M Try.prog hints C LP F.delta_Apply 1 [(0, v0), (1, v1), (51, v51), (52, v52), (53, v53)] H k) (fun v0 v65 v66 v67 H k => loopL M Try.prog hints C LP F.delta_Apply 2 [(0, v0), (65, v65), (66, v66), (67, v67)] H k) v0 v1 v5 v26 v27 v28 H k := by kernel_rfl

theorem s_delta_Apply_b1_eq (M : CombL) (C : CallF) (LP : LoopH) (v0 : Value) (v1 : Value) (v51 : Value) (v52 : Value) (v53 : Value) (H : AHeap) (k : K) : bodyL M Try.prog hints C LP F.delta_Apply 1 [(0, v0), (1, v1), (51, v51), (52, v52), (53, v53)] H (afterK [0, 1, 51, 52, 53] k) = s_delta_Apply_b1 M.b.g M.c M.s Try.prog C (fun v0 v1 v5 v26 v27 v28 H k => loopL M Try.prog hints C LP F.delta_Apply 0 [(0, v0), (1, v1), (5, v5), (26, v26), (27, v27), (28, v28)] H k) (fun v0 v1 v51 v52 v53 H k => loopL M Try.prog hints C LP F.delta_Apply 1 [(0, v0), (1, v1), (51, v51), (52, v52), (53, v53)] H k) (fun v0 v65 v66 v67 H k => loopL M Try.prog hints C LP F.delta_Apply 2 [(0, v0), (65, v65), (66, v66), (67, v67)] H k) v0 v1 v51 v52 v53 H k := by kernel_rfl

theorem s_delta_Apply_b2_eq (M : CombL) (C : CallF) (LP : LoopH) (v0 : Value) (v65 : Value) (v66 : Value) (v67 : Value) (H : AHeap) (k : K) : bodyL M Try.prog hints C LP F.delta_Apply 2 [(0, v0), (65, v65), (66, v66), (67, v67)] H (afterK [0, 65, 66, 67] k) = s_delta_Apply_b2 M.b.g M.c M.s Try.prog C (fun v0 v1 v5 v26 v27 v28 H k => loopL M Try.prog hints C LP F.delta_Apply 0 [(0, v0), (1, v1), (5, v5), (26, v26), (27, v27), (28, v28)] H k) (fun v0 v1 v51 v52 v53 H k => loopL M Try.prog hints C LP F.delta_Apply 1 [(0, v0), (1, v1), (51, v51), (52, v52), (53, v53)] H k) (fun v0 v65 v66 v67 H k => loopL M Try.prog hints C LP F.delta_Apply 2 [(0, v0), (65, v65), (66, v66), (67, v67)] H k) v0 v65 v66 v67 H k := by kernel_rfl

/-! (*ticketline.model.Model).Len -/

noncomputable def s_model_Model_Len (mg : GT) (mc : CT) (ms : ST) (P : Program) (C : CallF) (a0 : Value) (H : AHeap) (K0 : K) : Res :=
bareK (xbin P .eql T.p_model_Model (.tmp 3) (.const (.pointer none)) a0 (.pointer none)) H fun t4 h1 =>
mc t4 (fun k1 => k1 .ret [(2, (.int .i64 0))] h1) (fun k1 =>
k1 .normal [(0, a0)] h1) (seqK (fun tT h2 =>
bareK (xnilCheck (get tT 0)) h2 fun t6 h3 =>
bareK (fad 0 t6) h3 fun t7 h4 =>
bareK (ld1 h4 t7) h4 fun t8 h5 =>
bareK (lenS t8) h5 fun t9 h6 =>
K0 .ret [(2, t9)] h6) K0)

theorem s_model_Model_Len_eq (M : CombL) (C : CallF) (LP : LoopH) (a0 : Value) (H : AHeap) : dBodyL M Try.prog hints C LP F.model_Model_Len [a0] H = s_model_Model_Len M.b.g M.c M.s Try.prog C a0 H (endK Try.prog [.tmp 2]) := by kernel_rfl

/-! ticketline.ticketlinelaw49.pairs -/

noncomputable def s_law_pairs (mg : GT) (mc : CT) (ms : ST) (P : Program) (C : CallF) (L0 : Value → Value → Value → AHeap → K → Res) (a0 : Value) (a1 : Value) (H : AHeap) (K0 : K) : Res :=
ms (fun k1 =>
L0 a0 a1 (.int .i64 0) H (blkK [0, 1] 0 k1)) (seqK (fun tT h1 =>
bareK (lenS (get tT 0)) h1 fun t34 h2 =>
bareK (xbin P .leq T.int (.tmp 34) (.tmp 35) t34 (get tT 1)) h2 fun t36 h3 =>
K0 .ret [(4, t36)] h3) K0)

noncomputable def s_law_pairs_b0 (mg : GT) (mc : CT) (ms : ST) (P : Program) (C : CallF) (L0 : Value → Value → Value → AHeap → K → Res) (v0 : Value) (v1 : Value) (v5 : Value) (H : AHeap) (k : K) : Res :=
bareK (lenS v0) H fun t8 h1 =>
bareK (xbin P .lss T.int (.tmp 6) (.tmp 8) v5 t8) h1 fun t9 h2 =>
mg t9 true (fun o2 => o2 v5 h2) h2 fun t11 h3 =>
mg t9 true (fun o3 => o3 v1 h3) h3 fun t12 h4 =>
mg t9 true (fun o4 => bareK (xbin P .lss T.int (.tmp 11) (.tmp 12) t11 t12) h4 o4) h4 fun t13 h5 =>
pickK t9 t13 (.bool false) fun t14 =>
mc t14 (fun k5 => k5 .normal [(0, v0), (1, v1), (5, v5)] h5) (fun k5 =>
k5 (.exit 0) [(14, t14), (13, t13), (12, t12), (11, t11), (10, t9), (9, t9), (8, t8), (7, v0), (6, v5), (0, v0), (1, v1), (5, v5)] h5) (seqK (fun tT h6 =>
ms (fun k6 =>
bareK (ixS 2 (get tT 0) (get tT 5)) h6 fun t19 h7 =>
bareK (fad 0 t19) h7 fun t20 h8 =>
bareK (ld1 h8 t20) h8 fun t21 h9 =>
bareK (lenT t21) h9 fun t22 h10 =>
bareK (xbin P .gtr T.int (.tmp 22) (.const (.int .i64 30)) t22 (.int .i64 30)) h10 fun t23 h11 =>
mg t23 false (fun o7 => o7 (get tT 0) h11) h11 fun t25 h12 =>
mg t23 false (fun o8 => o8 (get tT 5) h12) h12 fun t26 h13 =>
mg t23 false (fun o9 => bareK (ixS 2 t25 t26) h13 o9) h13 fun t27 h14 =>
mg t23 false (fun o10 => bareK (fad 1 t27) h14 o10) h14 fun t28 h15 =>
mg t23 false (fun o11 => bareK (ld1 h15 t28) h15 o11) h15 fun t29 h16 =>
mg t23 false (fun o12 => bareK (lenT t29) h16 o12) h16 fun t30 h17 =>
mg t23 false (fun o13 => bareK (xbin P .gtr T.int (.tmp 30) (.const (.int .i64 44)) t30 (.int .i64 44)) h17 o13) h17 fun t31 h18 =>
pickK t23 (.bool true) t31 fun t32 =>
mc t32 (fun k14 => k14 .ret [(4, (.bool false))] h18) (fun k14 =>
k14 .normal [(0, (get tT 0)), (1, (get tT 1)), (5, (get tT 5))] h18) (blkK [0, 1, 5] 1 k6)) (seqK (fun tT_1 h19 =>
bareK (xbin P .add T.int (.tmp 15) (.const (.int .i64 1)) (get tT_1 5) (.int .i64 1)) h19 fun t16 h20 =>
k .normal [(0, (get tT_1 0)), (1, (get tT_1 1)), (5, t16)] h20) (afterK [0, 1, 5] k))) (afterK [0, 1, 5] k))

theorem s_law_pairs_eq (M : CombL) (C : CallF) (LP : LoopH) (a0 : Value) (a1 : Value) (H : AHeap) : dBodyL M Try.prog hints C LP F.law_pairs [a0, a1] H = s_law_pairs M.b.g M.c M.s Try.prog C (fun v0 v1 v5 H k => loopL M Try.prog hints C LP F.law_pairs 0 [(0, v0), (1, v1), (5, v5)] H k) a0 a1 H (endK Try.prog [.tmp 4]) := by kernel_rfl

theorem s_law_pairs_b0_eq (M : CombL) (C : CallF) (LP : LoopH) (v0 : Value) (v1 : Value) (v5 : Value) (H : AHeap) (k : K) : bodyL M Try.prog hints C LP F.law_pairs 0 [(0, v0), (1, v1), (5, v5)] H (afterK [0, 1, 5] k) = s_law_pairs_b0 M.b.g M.c M.s Try.prog C (fun v0 v1 v5 H k => loopL M Try.prog hints C LP F.law_pairs 0 [(0, v0), (1, v1), (5, v5)] H k) v0 v1 v5 H k := by kernel_rfl

/-! ticketline.ticketlinelaw49.between -/

noncomputable def s_law_between (mg : GT) (mc : CT) (ms : ST) (P : Program) (C : CallF) (L0 : Value → Value → Value → Value → Value → AHeap → K → Res) (L1 : Value → Value → Value → Value → Value → AHeap → K → Res) (a0 : Value) (a1 : Value) (H : AHeap) (K0 : K) : Res :=
enterK C F.model_Model_Copy [a0] H fun t16 h1 =>
enterK C F.model_Model_Pairs [a1] h1 fun t18 h2 =>
ms (fun k1 =>
L0 a0 a1 t16 t18 (.int .i64 0) h2 (blkK [0, 1, 5] 0 k1)) (seqK (fun tT h3 =>
enterK C F.model_Model_Pairs [(get tT 5)] h3 fun t33 h4 =>
ms (fun k2 =>
L1 (get tT 0) (get tT 1) t33 (.slice none 0 0) (.int .i64 0) h4 (blkK [8] 2 k2)) (seqK (fun tT_1 h5 =>
K0 .ret [(4, (get tT_1 8))] h5) K0)) K0)

noncomputable def s_law_between_b0 (mg : GT) (mc : CT) (ms : ST) (P : Program) (C : CallF) (L0 : Value → Value → Value → Value → Value → AHeap → K → Res) (L1 : Value → Value → Value → Value → Value → AHeap → K → Res) (v0 : Value) (v1 : Value) (v5 : Value) (v6 : Value) (v7 : Value) (H : AHeap) (k : K) : Res :=
bareK (lenS v6) H fun t21 h3 =>
bareK (xbin P .lss T.int (.tmp 19) (.tmp 21) v7 t21) h3 fun t22 h4 =>
mc t22 (fun k2 => k2 .normal [(0, v0), (1, v1), (5, v5), (6, v6), (7, v7)] h4) (fun k2 =>
k2 (.exit 0) [(22, t22), (21, t21), (20, v6), (19, v7), (0, v0), (1, v1), (5, v5), (6, v6), (7, v7)] h4) (seqK (fun tT h5 =>
ms (fun k3 =>
bareK (ixS 2 (get tT 6) (get tT 7)) h5 fun t28 h6 =>
bareK (fad 0 t28) h6 fun t29 h7 =>
bareK (ld1 h7 t29) h7 fun t30 h8 =>
enterK C F.model_Model_Put [(get tT 5), t30, (.string (mk []))] h8 fun t31 h9 =>
k3 .normal [(0, (get tT 0)), (1, (get tT 1)), (5, (get tT 5)), (6, (get tT 6)), (7, (get tT 7))] h9) (seqK (fun tT_1 h10 =>
bareK (xbin P .add T.int (.tmp 23) (.const (.int .i64 1)) (get tT_1 7) (.int .i64 1)) h10 fun t24 h11 =>
k .normal [(0, (get tT_1 0)), (1, (get tT_1 1)), (5, (get tT_1 5)), (6, (get tT_1 6)), (7, t24)] h11) (afterK [0, 1, 5, 6, 7] k))) (afterK [0, 1, 5, 6, 7] k))

noncomputable def s_law_between_b1 (mg : GT) (mc : CT) (ms : ST) (P : Program) (C : CallF) (L0 : Value → Value → Value → Value → Value → AHeap → K → Res) (L1 : Value → Value → Value → Value → Value → AHeap → K → Res) (v0 : Value) (v1 : Value) (v6 : Value) (v8 : Value) (v9 : Value) (H : AHeap) (k : K) : Res :=
bareK (lenS v6) H fun t36 h5 =>
bareK (xbin P .lss T.int (.tmp 34) (.tmp 36) v9 t36) h5 fun t37 h6 =>
mc t37 (fun k3 => k3 .normal [(0, v0), (1, v1), (6, v6), (8, v8), (9, v9)] h6) (fun k3 =>
k3 (.exit 2) [(37, t37), (36, t36), (35, v6), (34, v9), (0, v0), (1, v1), (6, v6), (8, v8), (9, v9)] h6) (seqK (fun tT h7 =>
ms (fun k4 =>
bareK (ixS 2 (get tT 6) (get tT 9)) h7 fun t44 h8 =>
bareK (fad 0 t44) h8 fun t45 h9 =>
bareK (ld1 h9 t45) h9 fun t46 h10 =>
enterK C F.model_Model_Get [(get tT 0), t46] h10 fun t47 h11 =>
bareK (xextract t47 0) h11 fun t48 h12 =>
bareK (xextract t47 1) h12 fun t49 h13 =>
bareK (ixS 2 (get tT 6) (get tT 9)) h13 fun t54 h14 =>
bareK (fad 0 t54) h14 fun t55 h15 =>
bareK (ld1 h15 t55) h15 fun t56 h16 =>
enterK C F.model_Model_Get [(get tT 1), t56] h16 fun t57 h17 =>
bareK (xextract t57 0) h17 fun t58 h18 =>
bareK (xextract t57 1) h18 fun t59 h19 =>
bareK (ixS 2 (get tT 6) (get tT 9)) h19 fun t62 h20 =>
bareK (fad 0 t62) h20 fun t63 h21 =>
bareK (ld1 h21 t63) h21 fun t64 h22 =>
bareK (xbin P .eql T.api_Errno (.tmp 65) (.const (.int .i64 0)) t49 (.int .i64 0)) h22 fun t66 h23 =>
bareK (xbin P .eql T.api_Errno (.tmp 67) (.const (.int .i64 0)) t59 (.int .i64 0)) h23 fun t68 h24 =>
bareK (bldS #[(.string (mk [])), (.bool false), (.bool false), (.string (mk [])), (.string (mk []))] [(0, 1), (1, 1), (2, 1), (3, 1), (4, 1)] [(0, t64), (1, t66), (2, t68), (3, t48), (4, t58)]) h24 fun t71 h25 =>
bothK (newv T.api_Change (.agg #[(.string (mk [])), (.bool false), (.bool false), (.string (mk [])), (.string (mk []))]) h25) fun t14 h26 =>
quietK (stN 5 h26 t14 t71) fun _ h27 =>
bareK (ldN 5 h27 t14) h27 fun t72 h28 =>
enterK C F.law_none [t72] h28 fun t73 h29 =>
bareK (xun P .not t73) h29 fun t74 h30 =>
mc t74 (fun k5 => bareK (ldN 5 h30 t14) h30 fun t76 h31 =>
bothK (bldL T.api_Change [(.string (mk [])), (.bool false), (.bool false), (.string (mk [])), (.string (mk []))] 1 [(0, t76)] h31) fun t77 h32 =>
bothK (app T.api_Change 5 56 (get tT 8) (srcS 5 t77 h32) h32) fun t78 h33 =>
k5 .normal [(0, (get tT 0)), (1, (get tT 1)), (6, (get tT 6)), (8, t78), (9, (get tT 9))] h33) (fun k5 =>
k5 .normal [(0, (get tT 0)), (1, (get tT 1)), (6, (get tT 6)), (8, (get tT 8)), (9, (get tT 9))] h30) (blkK [0, 1, 6, 8, 9] 3 k4)) (seqK (fun tT_1 h34 =>
bareK (xbin P .add T.int (.tmp 38) (.const (.int .i64 1)) (get tT_1 9) (.int .i64 1)) h34 fun t39 h35 =>
k .normal [(0, (get tT_1 0)), (1, (get tT_1 1)), (6, (get tT_1 6)), (8, (get tT_1 8)), (9, t39)] h35) (afterK [0, 1, 6, 8, 9] k))) (afterK [0, 1, 6, 8, 9] k))

theorem s_law_between_eq (M : CombL) (C : CallF) (LP : LoopH) (a0 : Value) (a1 : Value) (H : AHeap) : dBodyL M Try.prog hints C LP F.law_between [a0, a1] H = s_law_between M.b.g M.c M.s Try.prog C (fun v0 v1 v5 v6 v7 H k => loopL M Try.prog hints C LP F.law_between 0 [(0, v0), (1, v1), (5, v5), (6, v6), (7, v7)] H k) (fun v0 v1 v6 v8 v9 H k => loopL M Try.prog hints C LP F.law_between 1 [(0, v0), (1, v1), (6, v6), (8, v8), (9, v9)] H k) a0 a1 H (endK Try.prog [.tmp 4]) := by kernel_rfl

theorem s_law_between_b0_eq (M : CombL) (C : CallF) (LP : LoopH) (v0 : Value) (v1 : Value) (v5 : Value) (v6 : Value) (v7 : Value) (H : AHeap) (k : K) : bodyL M Try.prog hints C LP F.law_between 0 [(0, v0), (1, v1), (5, v5), (6, v6), (7, v7)] H (afterK [0, 1, 5, 6, 7] k) = s_law_between_b0 M.b.g M.c M.s Try.prog C (fun v0 v1 v5 v6 v7 H k => loopL M Try.prog hints C LP F.law_between 0 [(0, v0), (1, v1), (5, v5), (6, v6), (7, v7)] H k) (fun v0 v1 v6 v8 v9 H k => loopL M Try.prog hints C LP F.law_between 1 [(0, v0), (1, v1), (6, v6), (8, v8), (9, v9)] H k) v0 v1 v5 v6 v7 H k := by kernel_rfl

theorem s_law_between_b1_eq (M : CombL) (C : CallF) (LP : LoopH) (v0 : Value) (v1 : Value) (v6 : Value) (v8 : Value) (v9 : Value) (H : AHeap) (k : K) : bodyL M Try.prog hints C LP F.law_between 1 [(0, v0), (1, v1), (6, v6), (8, v8), (9, v9)] H (afterK [0, 1, 6, 8, 9] k) = s_law_between_b1 M.b.g M.c M.s Try.prog C (fun v0 v1 v5 v6 v7 H k => loopL M Try.prog hints C LP F.law_between 0 [(0, v0), (1, v1), (5, v5), (6, v6), (7, v7)] H k) (fun v0 v1 v6 v8 v9 H k => loopL M Try.prog hints C LP F.law_between 1 [(0, v0), (1, v1), (6, v6), (8, v8), (9, v9)] H k) v0 v1 v6 v8 v9 H k := by kernel_rfl

/-! ticketline.ticketlinelaw49.ofs -/

noncomputable def s_law_ofs (mg : GT) (mc : CT) (ms : ST) (P : Program) (C : CallF) (a0 : Value) (a1 : Value) (a2 : Value) (a3 : Value) (H : AHeap) (K0 : K) : Res :=
enterK C F.delta_Of [a0, a1] H fun t14 h1 =>
bareK (xextract t14 0) h1 fun t15 h2 =>
bareK (xextract t14 1) h2 fun t16 h3 =>
enterK C F.law_gives [t15, t16, a2, a3] h3 fun t21 h4 =>
K0 .ret [(8, t21)] h4

theorem s_law_ofs_eq (M : CombL) (C : CallF) (LP : LoopH) (a0 : Value) (a1 : Value) (a2 : Value) (a3 : Value) (H : AHeap) : dBodyL M Try.prog hints C LP F.law_ofs [a0, a1, a2, a3] H = s_law_ofs M.b.g M.c M.s Try.prog C a0 a1 a2 a3 H (endK Try.prog [.tmp 8]) := by kernel_rfl

/-! ticketline.model.Equal -/

noncomputable def s_model_Equal (mg : GT) (mc : CT) (ms : ST) (P : Program) (C : CallF) (a0 : Value) (a1 : Value) (H : AHeap) (K0 : K) : Res :=
bareK (xbin P .eql T.p_model_Model (.tmp 6) (.const (.pointer none)) a0 (.pointer none)) H fun t7 h1 =>
bareK (xbin P .eql T.p_model_Model (.tmp 8) (.const (.pointer none)) a1 (.pointer none)) h1 fun t9 h2 =>
bareK (xbin P .neq T.bool (.tmp 7) (.tmp 9) t7 t9) h2 fun t10 h3 =>
mg t10 false (fun o1 => o1 (.func (.func F.model_Model_Len) #[] #[]) h3) h3 fun t12 h4 =>
mg t10 false (fun o2 => o2 a0 h4) h4 fun t13 h5 =>
mg t10 false (fun o3 => callK P C t12 [t13] h5 o3) h5 fun t14 h6 =>
mg t10 false (fun o4 => o4 (.func (.func F.model_Model_Len) #[] #[]) h6) h6 fun t15 h7 =>
mg t10 false (fun o5 => o5 a1 h7) h7 fun t16 h8 =>
mg t10 false (fun o6 => callK P C t15 [t16] h8 o6) h8 fun t17 h9 =>
mg t10 false (fun o7 => bareK (xbin P .neq T.int (.tmp 14) (.tmp 17) t14 t17) h9 o7) h9 fun t18 h10 =>
pickK t10 (.bool true) t18 fun t19 =>
mc t19 (fun k8 => k8 .ret [(4, (.bool false))] h10) (fun k8 =>
k8 .normal [(0, a0), (1, a1)] h10) (seqK (fun tT h11 =>
enterK C F.model_Model_Pairs [(get tT 0)] h11 fun t21 h12 =>
enterK C F.model_Model_Pairs [(get tT 1)] h12 fun t23 h13 =>
enterK C F.slices_Equal_Pair [t21, t23] h13 fun t24 h14 =>
K0 .ret [(4, t24)] h14) K0)

theorem s_model_Equal_eq (M : CombL) (C : CallF) (LP : LoopH) (a0 : Value) (a1 : Value) (H : AHeap) : dBodyL M Try.prog hints C LP F.model_Equal [a0, a1] H = s_model_Equal M.b.g M.c M.s Try.prog C a0 a1 H (endK Try.prog [.tmp 4]) := by kernel_rfl

/-! (*ticketline.model.Model).Get -/

noncomputable def s_model_Model_Get (mg : GT) (mc : CT) (ms : ST) (P : Program) (C : CallF) (a0 : Value) (a1 : Value) (H : AHeap) (K0 : K) : Res :=
enterK C F.model_Model_at [a0, a1, (.slice none 0 0)] H fun t12 h1 =>
bareK (xextract t12 0) h1 fun t13 h2 =>
bareK (xextract t12 1) h2 fun t14 h3 =>
bareK (xextract t12 2) h3 fun t15 h4 =>
ms (fun k1 =>
bareK (xbin P .neq T.api_Errno (.tmp 17) (.const (.int .i64 0)) t15 (.int .i64 0)) h4 fun t18 h5 =>
mc t18 (fun k2 => k2 .ret [(4, (.string (mk []))), (5, t15)] h5) (fun k2 =>
bareK (xun P .not t14) h5 fun t22 h6 =>
mc t22 (fun k3 => k3 .ret [(4, (.string (mk []))), (5, (.int .i64 9))] h6) (fun k3 =>
k3 .normal [(0, a0), (6, t13)] h6) (afterK [0, 6] k2)) (blkK [0, 6] 0 k1)) (seqK (fun tT h7 =>
bareK (xnilCheck (get tT 0)) h7 fun t24 h8 =>
bareK (fad 0 t24) h8 fun t25 h9 =>
bareK (ld1 h9 t25) h9 fun t26 h10 =>
bareK (ixS 2 t26 (get tT 6)) h10 fun t28 h11 =>
bareK (fad 1 t28) h11 fun t29 h12 =>
bareK (ld1 h12 t29) h12 fun t30 h13 =>
K0 .ret [(4, t30), (5, (.int .i64 0))] h13) K0)

theorem s_model_Model_Get_eq (M : CombL) (C : CallF) (LP : LoopH) (a0 : Value) (a1 : Value) (H : AHeap) : dBodyL M Try.prog hints C LP F.model_Model_Get [a0, a1] H = s_model_Model_Get M.b.g M.c M.s Try.prog C a0 a1 H (endK Try.prog [.tmp 4, .tmp 5]) := by kernel_rfl

/-! ticketline.delta.Fits -/

noncomputable def s_delta_Fits (mg : GT) (mc : CT) (ms : ST) (P : Program) (C : CallF) (L0 : Value → Value → Value → Value → AHeap → K → Res) (a0 : Value) (a1 : Value) (H : AHeap) (K0 : K) : Res :=
bareK (xbin P .eql T.p_model_Model (.tmp 9) (.const (.pointer none)) a0 (.pointer none)) H fun t10 h1 =>
mg t10 false (fun o1 => o1 a1 h1) h1 fun t12 h2 =>
mg t10 false (fun o2 => enterK C F.delta_Valid [t12] h2 o2) h2 fun t13 h3 =>
mg t10 false (fun o3 => bareK (xun P .not t13) h3 o3) h3 fun t14 h4 =>
pickK t10 (.bool true) t14 fun t15 =>
mc t15 (fun k4 => k4 .ret [(4, (.bool false))] h4) (fun k4 =>
k4 .normal [(0, a0), (1, a1)] h4) (seqK (fun tT h5 =>
bareK (lenS (get tT 1)) h5 fun t17 h6 =>
ms (fun k5 =>
L0 (get tT 0) (get tT 1) t17 (.int .i64 0) h6 (blkK [] 0 k5)) (seqK (fun tT_1 h7 =>
K0 .ret [(4, (.bool true))] h7) K0)) K0)

noncomputable def s_delta_Fits_b0 (mg : GT) (mc : CT) (ms : ST) (P : Program) (C : CallF) (L0 : Value → Value → Value → Value → AHeap → K → Res) (v0 : Value) (v16 : Value) (v17 : Value) (v18 : Value) (H : AHeap) (k : K) : Res :=
bareK (xbin P .lss T.int (.tmp 18) (.tmp 17) v18 v17) H fun t19 h7 =>
mc t19 (fun k6 => k6 .normal [(0, v0), (16, v16), (17, v17), (18, v18)] h7) (fun k6 =>
k6 (.exit 0) [(19, t19), (0, v0), (16, v16), (17, v17), (18, v18)] h7) (seqK (fun tT h8 =>
ms (fun k7 =>
bareK (ixS 5 (get tT 16) (get tT 18)) h8 fun t20 h9 =>
bareK (ldN 5 h9 t20) h9 fun t21 h10 =>
bothK (newv T.api_Change (.agg #[(.string (mk [])), (.bool false), (.bool false), (.string (mk [])), (.string (mk []))]) h10) fun t6 h11 =>
quietK (stN 5 h11 t6 t21) fun _ h12 =>
bareK (fad 0 t6) h12 fun t24 h13 =>
bareK (ld1 h13 t24) h13 fun t25 h14 =>
enterK C F.model_Model_Get [(get tT 0), t25] h14 fun t26 h15 =>
bareK (xextract t26 0) h15 fun t27 h16 =>
bareK (xextract t26 1) h16 fun t28 h17 =>
bareK (xbin P .eql T.api_Errno (.tmp 29) (.const (.int .i64 0)) t28 (.int .i64 0)) h17 fun t30 h18 =>
bareK (fad 1 t6) h18 fun t31 h19 =>
bareK (ld1 h19 t31) h19 fun t32 h20 =>
bareK (xbin P .neq T.bool (.tmp 30) (.tmp 32) t30 t32) h20 fun t33 h21 =>
mg t33 false (fun o8 => o8 t27 h21) h21 fun t35 h22 =>
mg t33 false (fun o9 => bareK (fad 3 t6) h22 o9) h22 fun t36 h23 =>
mg t33 false (fun o10 => bareK (ld1 h23 t36) h23 o10) h23 fun t37 h24 =>
mg t33 false (fun o11 => bareK (xbin P .neq T.string (.tmp 35) (.tmp 37) t35 t37) h24 o11) h24 fun t38 h25 =>
pickK t33 (.bool true) t38 fun t39 =>
mc t39 (fun k12 => k12 .ret [(4, (.bool false))] h25) (fun k12 =>
k12 .normal [(0, (get tT 0)), (16, (get tT 16)), (17, (get tT 17)), (18, (get tT 18))] h25) (blkK [0, 16, 17, 18] 1 k7)) (seqK (fun tT_1 h26 =>
bareK (xbin P .add T.int (.tmp 18) (.const (.int .i64 1)) (get tT_1 18) (.int .i64 1)) h26 fun t40 h27 =>
k .normal [(0, (get tT_1 0)), (16, (get tT_1 16)), (17, (get tT_1 17)), (18, t40)] h27) (afterK [0, 16, 17, 18] k))) (afterK [0, 16, 17, 18] k))

theorem s_delta_Fits_eq (M : CombL) (C : CallF) (LP : LoopH) (a0 : Value) (a1 : Value) (H : AHeap) : dBodyL M Try.prog hints C LP F.delta_Fits [a0, a1] H = s_delta_Fits M.b.g M.c M.s Try.prog C (fun v0 v16 v17 v18 H k => loopL M Try.prog hints C LP F.delta_Fits 0 [(0, v0), (16, v16), (17, v17), (18, v18)] H k) a0 a1 H (endK Try.prog [.tmp 4]) := by kernel_rfl

theorem s_delta_Fits_b0_eq (M : CombL) (C : CallF) (LP : LoopH) (v0 : Value) (v16 : Value) (v17 : Value) (v18 : Value) (H : AHeap) (k : K) : bodyL M Try.prog hints C LP F.delta_Fits 0 [(0, v0), (16, v16), (17, v17), (18, v18)] H (afterK [0, 16, 17, 18] k) = s_delta_Fits_b0 M.b.g M.c M.s Try.prog C (fun v0 v16 v17 v18 H k => loopL M Try.prog hints C LP F.delta_Fits 0 [(0, v0), (16, v16), (17, v17), (18, v18)] H k) v0 v16 v17 v18 H k := by kernel_rfl

/-! ticketline.ticketlinelaw49.fits -/

noncomputable def s_law_fits (mg : GT) (mc : CT) (ms : ST) (P : Program) (C : CallF) (L0 : Value → Value → Value → AHeap → K → Res) (a0 : Value) (a1 : Value) (H : AHeap) (K0 : K) : Res :=
ms (fun k1 =>
L0 a0 a1 (.int .i64 0) H (blkK [] 0 k1)) (seqK (fun tT h1 =>
K0 .ret [(4, (.bool true))] h1) K0)

noncomputable def s_law_fits_b0 (mg : GT) (mc : CT) (ms : ST) (P : Program) (C : CallF) (L0 : Value → Value → Value → AHeap → K → Res) (v0 : Value) (v1 : Value) (v5 : Value) (H : AHeap) (k : K) : Res :=
bareK (lenS v1) H fun t10 h1 =>
bareK (xbin P .lss T.int (.tmp 8) (.tmp 10) v5 t10) h1 fun t11 h2 =>
mc t11 (fun k2 => k2 .normal [(0, v0), (1, v1), (5, v5)] h2) (fun k2 =>
k2 (.exit 0) [(11, t11), (10, t10), (9, v1), (8, v5), (0, v0), (1, v1), (5, v5)] h2) (seqK (fun tT h3 =>
ms (fun k3 =>
bareK (ixS 5 (get tT 1) (get tT 5)) h3 fun t18 h4 =>
bareK (fad 0 t18) h4 fun t19 h5 =>
bareK (ld1 h5 t19) h5 fun t20 h6 =>
enterK C F.model_Model_Get [(get tT 0), t20] h6 fun t21 h7 =>
bareK (xextract t21 0) h7 fun t22 h8 =>
bareK (xextract t21 1) h8 fun t23 h9 =>
bareK (xbin P .eql T.api_Errno (.tmp 24) (.const (.int .i64 0)) t23 (.int .i64 0)) h9 fun t25 h10 =>
bareK (ixS 5 (get tT 1) (get tT 5)) h10 fun t28 h11 =>
bareK (fad 1 t28) h11 fun t29 h12 =>
bareK (ld1 h12 t29) h12 fun t30 h13 =>
bareK (xbin P .neq T.bool (.tmp 25) (.tmp 30) t25 t30) h13 fun t31 h14 =>
mg t31 false (fun o4 => o4 t22 h14) h14 fun t33 h15 =>
mg t31 false (fun o5 => o5 (get tT 1) h15) h15 fun t34 h16 =>
mg t31 false (fun o6 => o6 (get tT 5) h16) h16 fun t35 h17 =>
mg t31 false (fun o7 => bareK (ixS 5 t34 t35) h17 o7) h17 fun t36 h18 =>
mg t31 false (fun o8 => bareK (fad 3 t36) h18 o8) h18 fun t37 h19 =>
mg t31 false (fun o9 => bareK (ld1 h19 t37) h19 o9) h19 fun t38 h20 =>
mg t31 false (fun o10 => bareK (xbin P .neq T.string (.tmp 33) (.tmp 38) t33 t38) h20 o10) h20 fun t39 h21 =>
pickK t31 (.bool true) t39 fun t40 =>
mc t40 (fun k11 => k11 .ret [(4, (.bool false))] h21) (fun k11 =>
k11 .normal [(0, (get tT 0)), (1, (get tT 1)), (5, (get tT 5))] h21) (blkK [0, 1, 5] 1 k3)) (seqK (fun tT_1 h22 =>
bareK (xbin P .add T.int (.tmp 12) (.const (.int .i64 1)) (get tT_1 5) (.int .i64 1)) h22 fun t13 h23 =>
k .normal [(0, (get tT_1 0)), (1, (get tT_1 1)), (5, t13)] h23) (afterK [0, 1, 5] k))) (afterK [0, 1, 5] k))

theorem s_law_fits_eq (M : CombL) (C : CallF) (LP : LoopH) (a0 : Value) (a1 : Value) (H : AHeap) : dBodyL M Try.prog hints C LP F.law_fits [a0, a1] H = s_law_fits M.b.g M.c M.s Try.prog C (fun v0 v1 v5 H k => loopL M Try.prog hints C LP F.law_fits 0 [(0, v0), (1, v1), (5, v5)] H k) a0 a1 H (endK Try.prog [.tmp 4]) := by kernel_rfl

theorem s_law_fits_b0_eq (M : CombL) (C : CallF) (LP : LoopH) (v0 : Value) (v1 : Value) (v5 : Value) (H : AHeap) (k : K) : bodyL M Try.prog hints C LP F.law_fits 0 [(0, v0), (1, v1), (5, v5)] H (afterK [0, 1, 5] k) = s_law_fits_b0 M.b.g M.c M.s Try.prog C (fun v0 v1 v5 H k => loopL M Try.prog hints C LP F.law_fits 0 [(0, v0), (1, v1), (5, v5)] H k) v0 v1 v5 H k := by kernel_rfl

/-! (*ticketline.model.Model).Copy -/

noncomputable def s_model_Model_Copy (mg : GT) (mc : CT) (ms : ST) (P : Program) (C : CallF) (a0 : Value) (H : AHeap) (K0 : K) : Res :=
bareK (xbin P .eql T.p_model_Model (.tmp 3) (.const (.pointer none)) a0 (.pointer none)) H fun t4 h1 =>
mc t4 (fun k1 => k1 .ret [(2, (.pointer none))] h1) (fun k1 =>
k1 .normal [(0, a0)] h1) (seqK (fun tT h2 =>
bareK (xnilCheck (get tT 0)) h2 fun t6 h3 =>
bareK (fad 0 t6) h3 fun t7 h4 =>
bareK (ld1 h4 t7) h4 fun t8 h5 =>
enterK C F.slices_Clone_Pair [t8] h5 fun t9 h6 =>
bareK (bldS #[(.slice none 0 0)] [(0, 1)] [(0, t9)]) h6 fun t10 h7 =>
bothK (newv T.model_Model t10 h7) fun t11 h8 =>
K0 .ret [(2, t11)] h8) K0)

theorem s_model_Model_Copy_eq (M : CombL) (C : CallF) (LP : LoopH) (a0 : Value) (H : AHeap) : dBodyL M Try.prog hints C LP F.model_Model_Copy [a0] H = s_model_Model_Copy M.b.g M.c M.s Try.prog C a0 H (endK Try.prog [.tmp 2]) := by kernel_rfl

/-! (*ticketline.model.Model).Delete -/

noncomputable def s_model_Model_Delete (mg : GT) (mc : CT) (ms : ST) (P : Program) (C : CallF) (a0 : Value) (a1 : Value) (H : AHeap) (K0 : K) : Res :=
enterK C F.model_Model_Get [a0, a1] H fun t13 h1 =>
bareK (xextract t13 0) h1 fun t14 h2 =>
bareK (xextract t13 1) h2 fun t15 h3 =>
bareK (xbin P .neq T.api_Errno (.tmp 16) (.const (.int .i64 0)) t15 (.int .i64 0)) h3 fun t17 h4 =>
mc t17 (fun k1 => k1 .ret [(4, (.string (mk []))), (5, t15)] h4) (fun k1 =>
k1 .normal [(0, a0), (1, a1), (6, t14)] h4) (seqK (fun tT h5 =>
enterK C F.model_Model_place [(get tT 0), (get tT 1)] h5 fun t22 h6 =>
bareK (xextract t22 0) h6 fun t23 h7 =>
bareK (xextract t22 1) h7 fun t24 h8 =>
bareK (xnilCheck (get tT 0)) h8 fun t27 h9 =>
bareK (fad 0 t27) h9 fun t28 h10 =>
bareK (ld1 h10 t28) h10 fun t29 h11 =>
bareK (xbin P .add T.int (.tmp 31) (.const (.int .i64 1)) t23 (.int .i64 1)) h11 fun t32 h12 =>
enterK C F.slices_Delete_Pair [t29, t23, t32] h12 fun t33 h13 =>
bareK (xnilCheck (get tT 0)) h13 fun t34 h14 =>
bareK (fad 0 t34) h14 fun t35 h15 =>
quietK (st1 h15 t35 t33) fun _ h16 =>
K0 .ret [(4, (get tT 6)), (5, (.int .i64 0))] h16) K0)

theorem s_model_Model_Delete_eq (M : CombL) (C : CallF) (LP : LoopH) (a0 : Value) (a1 : Value) (H : AHeap) : dBodyL M Try.prog hints C LP F.model_Model_Delete [a0, a1] H = s_model_Model_Delete M.b.g M.c M.s Try.prog C a0 a1 H (endK Try.prog [.tmp 4, .tmp 5]) := by kernel_rfl

/-! (*ticketline.model.Model).Put -/

noncomputable def s_model_Model_Put (mg : GT) (mc : CT) (ms : ST) (P : Program) (C : CallF) (a0 : Value) (a1 : Value) (a2 : Value) (H : AHeap) (K0 : K) : Res :=
bothK (bldL T.string [(.string (mk []))] 1 [(0, a2)] H) fun t14 h1 =>
enterK C F.model_Model_at [a0, a1, t14] h1 fun t15 h2 =>
bareK (xextract t15 0) h2 fun t16 h3 =>
bareK (xextract t15 1) h3 fun t17 h4 =>
bareK (xextract t15 2) h4 fun t18 h5 =>
bareK (xbin P .neq T.api_Errno (.tmp 19) (.const (.int .i64 0)) t18 (.int .i64 0)) h5 fun t20 h6 =>
mc t20 (fun k1 => k1 .ret [(6, t18)] h6) (fun k1 =>
k1 .normal [(0, a0), (1, a1), (2, a2), (7, t16), (8, t17)] h6) (seqK (fun tT h7 =>
bareK (bldS #[(.string (mk [])), (.string (mk []))] [(0, 1), (1, 1)] [(0, (get tT 1)), (1, (get tT 2))]) h7 fun t27 h8 =>
enterK C F.model_Model_set [(get tT 0), (get tT 7), (get tT 8), t27] h8 fun t28 h9 =>
K0 .ret [(6, t28)] h9) K0)

theorem s_model_Model_Put_eq (M : CombL) (C : CallF) (LP : LoopH) (a0 : Value) (a1 : Value) (a2 : Value) (H : AHeap) : dBodyL M Try.prog hints C LP F.model_Model_Put [a0, a1, a2] H = s_model_Model_Put M.b.g M.c M.s Try.prog C a0 a1 a2 H (endK Try.prog [.tmp 6]) := by kernel_rfl

/-! ticketline.delta.Of -/

noncomputable def s_delta_Of (mg : GT) (mc : CT) (ms : ST) (P : Program) (C : CallF) (a0 : Value) (a1 : Value) (H : AHeap) (K0 : K) : Res :=
bareK (xbin P .eql T.p_model_Model (.tmp 7) (.const (.pointer none)) a0 (.pointer none)) H fun t8 h1 =>
mg t8 false (fun o1 => o1 a1 h1) h1 fun t10 h2 =>
mg t8 false (fun o2 => bareK (xbin P .eql T.p_model_Model (.tmp 10) (.const (.pointer none)) t10 (.pointer none)) h2 o2) h2 fun t11 h3 =>
pickK t8 (.bool true) t11 fun t12 =>
mc t12 (fun k3 => k3 .ret [(4, (.slice none 0 0)), (5, (.int .i64 1))] h3) (fun k3 =>
k3 .normal [(0, a0), (1, a1)] h3) (seqK (fun tT h4 =>
bothK (newv T.sl_api_Change (.slice none 0 0) h4) fun t6 h5 =>
enterK C F.delta_of [(get tT 0)] h5 fun t14 h6 =>
enterK C F.delta_of [(get tT 1)] h6 fun t16 h7 =>
enterK C F.delta_both [t14, t16, (.func (.func F.delta_Of_1) #[] #[t6])] h7 fun t18 h8 =>
bareK (ld1 h8 t6) h8 fun t19 h9 =>
bareK (lenS t19) h9 fun t20 h10 =>
bareK (xbin P .gtr T.int (.tmp 20) (.const (.int .i64 20000)) t20 (.int .i64 20000)) h10 fun t21 h11 =>
mc t21 (fun k4 => k4 .ret [(4, (.slice none 0 0)), (5, (.int .i64 5))] h11) (fun k4 =>
k4 .normal [(6, t6)] h11) (seqK (fun tT_1 h12 =>
bareK (ld1 h12 (get tT_1 6)) h12 fun t22 h13 =>
K0 .ret [(4, t22), (5, (.int .i64 0))] h13) K0)) K0)

theorem s_delta_Of_eq (M : CombL) (C : CallF) (LP : LoopH) (a0 : Value) (a1 : Value) (H : AHeap) : dBodyL M Try.prog hints C LP F.delta_Of [a0, a1] H = s_delta_Of M.b.g M.c M.s Try.prog C a0 a1 H (endK Try.prog [.tmp 4, .tmp 5]) := by kernel_rfl

/-! ticketline.delta.Reverse -/

noncomputable def s_delta_Reverse (mg : GT) (mc : CT) (ms : ST) (P : Program) (C : CallF) (L0 : Value → Value → Value → Value → AHeap → K → Res) (a0 : Value) (H : AHeap) (K0 : K) : Res :=
enterK C F.delta_Valid [a0] H fun t8 h1 =>
bareK (xun P .not t8) h1 fun t9 h2 =>
mc t9 (fun k1 => k1 .ret [(2, (.slice none 0 0)), (3, (.int .i64 2))] h2) (fun k1 =>
k1 .normal [(0, a0)] h2) (seqK (fun tT h3 =>
bareK (lenS (get tT 0)) h3 fun t11 h4 =>
ms (fun k2 =>
L0 (.slice none 0 0) (get tT 0) t11 (.int .i64 0) h4 (blkK [4] 0 k2)) (seqK (fun tT_1 h5 =>
K0 .ret [(2, (get tT_1 4)), (3, (.int .i64 0))] h5) K0)) K0)

noncomputable def s_delta_Reverse_b0 (mg : GT) (mc : CT) (ms : ST) (P : Program) (C : CallF) (L0 : Value → Value → Value → Value → AHeap → K → Res) (v4 : Value) (v10 : Value) (v11 : Value) (v12 : Value) (H : AHeap) (k : K) : Res :=
bareK (xbin P .lss T.int (.tmp 12) (.tmp 11) v12 v11) H fun t13 h5 =>
mc t13 (fun k3 => k3 .normal [(4, v4), (10, v10), (11, v11), (12, v12)] h5) (fun k3 =>
k3 (.exit 0) [(13, t13), (4, v4), (10, v10), (11, v11), (12, v12)] h5) (seqK (fun tT h6 =>
ms (fun k4 =>
bareK (ixS 5 (get tT 10) (get tT 12)) h6 fun t14 h7 =>
bareK (ldN 5 h7 t14) h7 fun t15 h8 =>
bothK (newv T.api_Change (.agg #[(.string (mk [])), (.bool false), (.bool false), (.string (mk [])), (.string (mk []))]) h8) fun t6 h9 =>
quietK (stN 5 h9 t6 t15) fun _ h10 =>
bareK (ldN 5 h10 t6) h10 fun t17 h11 =>
enterK C F.delta_reversed [t17] h11 fun t18 h12 =>
bothK (bldL T.api_Change [(.string (mk [])), (.bool false), (.bool false), (.string (mk [])), (.string (mk []))] 1 [(0, t18)] h12) fun t19 h13 =>
bothK (app T.api_Change 5 56 (get tT 4) (srcS 5 t19 h13) h13) fun t20 h14 =>
k4 .normal [(4, t20), (10, (get tT 10)), (11, (get tT 11)), (12, (get tT 12))] h14) (seqK (fun tT_1 h15 =>
bareK (xbin P .add T.int (.tmp 12) (.const (.int .i64 1)) (get tT_1 12) (.int .i64 1)) h15 fun t21 h16 =>
k .normal [(4, (get tT_1 4)), (10, (get tT_1 10)), (11, (get tT_1 11)), (12, t21)] h16) (afterK [4, 10, 11, 12] k))) (afterK [4, 10, 11, 12] k))

theorem s_delta_Reverse_eq (M : CombL) (C : CallF) (LP : LoopH) (a0 : Value) (H : AHeap) : dBodyL M Try.prog hints C LP F.delta_Reverse [a0] H = s_delta_Reverse M.b.g M.c M.s Try.prog C (fun v4 v10 v11 v12 H k => loopL M Try.prog hints C LP F.delta_Reverse 0 [(4, v4), (10, v10), (11, v11), (12, v12)] H k) a0 H (endK Try.prog [.tmp 2, .tmp 3]) := by kernel_rfl

theorem s_delta_Reverse_b0_eq (M : CombL) (C : CallF) (LP : LoopH) (v4 : Value) (v10 : Value) (v11 : Value) (v12 : Value) (H : AHeap) (k : K) : bodyL M Try.prog hints C LP F.delta_Reverse 0 [(4, v4), (10, v10), (11, v11), (12, v12)] H (afterK [4, 10, 11, 12] k) = s_delta_Reverse_b0 M.b.g M.c M.s Try.prog C (fun v4 v10 v11 v12 H k => loopL M Try.prog hints C LP F.delta_Reverse 0 [(4, v4), (10, v10), (11, v11), (12, v12)] H k) v4 v10 v11 v12 H k := by kernel_rfl

/-! ticketline.delta.Merge -/

noncomputable def s_delta_Merge (mg : GT) (mc : CT) (ms : ST) (P : Program) (C : CallF) (a0 : Value) (a1 : Value) (H : AHeap) (K0 : K) : Res :=
enterK C F.delta_Conflicts [a0, a1] H fun t12 h1 =>
bareK (xextract t12 0) h1 fun t13 h2 =>
bareK (xextract t12 1) h2 fun t14 h3 =>
bareK (xbin P .neq T.api_Errno (.tmp 15) (.const (.int .i64 0)) t14 (.int .i64 0)) h3 fun t16 h4 =>
mc t16 (fun k1 => k1 .ret [(4, (.slice none 0 0)), (5, t14)] h4) (fun k1 =>
k1 .normal [(0, a0), (1, a1), (6, t13)] h4) (seqK (fun tT h5 =>
bothK (newv T.sl_api_Change (.slice none 0 0) h5) fun t8 h6 =>
enterK C F.delta_both [(get tT 0), (get tT 1), (.func (.func F.delta_Merge_1) #[] #[t8])] h6 fun t21 h7 =>
ms (fun k2 =>
bareK (ld1 h7 t8) h7 fun t23 h8 =>
bareK (lenS t23) h8 fun t24 h9 =>
bareK (xbin P .gtr T.int (.tmp 24) (.const (.int .i64 20000)) t24 (.int .i64 20000)) h9 fun t25 h10 =>
mc t25 (fun k3 => k3 .ret [(4, (.slice none 0 0)), (5, (.int .i64 5))] h10) (fun k3 =>
bareK (lenS (get tT 6)) h10 fun t28 h11 =>
bareK (xbin P .gtr T.int (.tmp 28) (.const (.int .i64 0)) t28 (.int .i64 0)) h11 fun t29 h12 =>
mc t29 (fun k4 => k4 .ret [(4, (.slice none 0 0)), (5, (.int .i64 11))] h12) (fun k4 =>
k4 .normal [(8, t8)] h12) (afterK [8] k3)) (blkK [8] 0 k2)) (seqK (fun tT_1 h13 =>
bareK (ld1 h13 (get tT_1 8)) h13 fun t30 h14 =>
enterK C F.slices_Clip_Change [t30] h14 fun t31 h15 =>
K0 .ret [(4, t31), (5, (.int .i64 0))] h15) K0)) K0)

theorem s_delta_Merge_eq (M : CombL) (C : CallF) (LP : LoopH) (a0 : Value) (a1 : Value) (H : AHeap) : dBodyL M Try.prog hints C LP F.delta_Merge [a0, a1] H = s_delta_Merge M.b.g M.c M.s Try.prog C a0 a1 H (endK Try.prog [.tmp 4, .tmp 5]) := by kernel_rfl

/-! ticketline.ticketlinelaw49.same -/

noncomputable def s_law_same (mg : GT) (mc : CT) (ms : ST) (P : Program) (C : CallF) (L0 : Value → Value → Value → AHeap → K → Res) (a0 : Value) (a1 : Value) (H : AHeap) (K0 : K) : Res :=
bareK (lenS a0) H fun t7 h1 =>
bareK (lenS a1) h1 fun t9 h2 =>
bareK (xbin P .neq T.int (.tmp 7) (.tmp 9) t7 t9) h2 fun t10 h3 =>
mc t10 (fun k1 => k1 .ret [(4, (.bool false))] h3) (fun k1 =>
k1 .normal [(0, a0), (1, a1)] h3) (seqK (fun tT h4 =>
ms (fun k2 =>
L0 (get tT 0) (get tT 1) (.int .i64 0) h4 (blkK [] 0 k2)) (seqK (fun tT_1 h5 =>
K0 .ret [(4, (.bool true))] h5) K0)) K0)

noncomputable def s_law_same_b0 (mg : GT) (mc : CT) (ms : ST) (P : Program) (C : CallF) (L0 : Value → Value → Value → AHeap → K → Res) (v0 : Value) (v1 : Value) (v5 : Value) (H : AHeap) (k : K) : Res :=
bareK (lenS v0) H fun t13 h5 =>
bareK (xbin P .lss T.int (.tmp 11) (.tmp 13) v5 t13) h5 fun t14 h6 =>
mc t14 (fun k3 => k3 .normal [(0, v0), (1, v1), (5, v5)] h6) (fun k3 =>
k3 (.exit 0) [(14, t14), (13, t13), (12, v0), (11, v5), (0, v0), (1, v1), (5, v5)] h6) (seqK (fun tT h7 =>
ms (fun k4 =>
bareK (ixS 5 (get tT 0) (get tT 5)) h7 fun t19 h8 =>
bareK (ldN 5 h8 t19) h8 fun t20 h9 =>
bareK (ixS 5 (get tT 1) (get tT 5)) h9 fun t23 h10 =>
bareK (ldN 5 h10 t23) h10 fun t24 h11 =>
bareK (xbin P .neq T.api_Change (.tmp 20) (.tmp 24) t20 t24) h11 fun t25 h12 =>
checkK true <|
mc t25 (fun k5 => k5 .ret [(4, (.bool false))] h12) (fun k5 =>
k5 .normal [(0, (get tT 0)), (1, (get tT 1)), (5, (get tT 5))] h12) (blkK [0, 1, 5] 1 k4)) (seqK (fun tT_1 h13 =>
bareK (xbin P .add T.int (.tmp 15) (.const (.int .i64 1)) (get tT_1 5) (.int .i64 1)) h13 fun t16 h14 =>
k .normal [(0, (get tT_1 0)), (1, (get tT_1 1)), (5, t16)] h14) (afterK [0, 1, 5] k))) (afterK [0, 1, 5] k))

theorem s_law_same_eq (M : CombL) (C : CallF) (LP : LoopH) (a0 : Value) (a1 : Value) (H : AHeap) : dBodyL M Try.prog hints C LP F.law_same [a0, a1] H = s_law_same M.b.g M.c M.s Try.prog C (fun v0 v1 v5 H k => loopL M Try.prog hints C LP F.law_same 0 [(0, v0), (1, v1), (5, v5)] H k) a0 a1 H (endK Try.prog [.tmp 4]) := by kernel_rfl

theorem s_law_same_b0_eq (M : CombL) (C : CallF) (LP : LoopH) (v0 : Value) (v1 : Value) (v5 : Value) (H : AHeap) (k : K) : bodyL M Try.prog hints C LP F.law_same 0 [(0, v0), (1, v1), (5, v5)] H (afterK [0, 1, 5] k) = s_law_same_b0 M.b.g M.c M.s Try.prog C (fun v0 v1 v5 H k => loopL M Try.prog hints C LP F.law_same 0 [(0, v0), (1, v1), (5, v5)] H k) v0 v1 v5 H k := by kernel_rfl

/-! ticketline.ticketlinelaw49.from -/

noncomputable def s_law_from (mg : GT) (mc : CT) (ms : ST) (P : Program) (C : CallF) (a0 : Value) (a1 : Value) (a2 : Value) (H : AHeap) (K0 : K) : Res :=
bothK (newv T.api_Change (.agg #[(.string (mk [])), (.bool false), (.bool false), (.string (mk [])), (.string (mk []))]) H) fun t6 h1 =>
bareK (bldS #[(.string (mk [])), (.bool false), (.bool false), (.string (mk [])), (.string (mk []))] [(0, 1), (1, 1), (2, 1), (3, 1), (4, 1)] [(0, a0), (1, (.bool true)), (2, (.bool true)), (3, a1), (4, a2)]) h1 fun t10 h2 =>
quietK (stN 5 h2 t6 t10) fun _ h3 =>
K0 .ret [(6, t6)] h3

theorem s_law_from_eq (M : CombL) (C : CallF) (LP : LoopH) (a0 : Value) (a1 : Value) (a2 : Value) (H : AHeap) : dBodyL M Try.prog hints C LP F.law_from [a0, a1, a2] H = s_law_from M.b.g M.c M.s Try.prog C a0 a1 a2 H (endK Try.prog [.cell 6 T.api_Change]) := by kernel_rfl

/-! ticketline.ticketlinelaw49.goes -/

noncomputable def s_law_goes (mg : GT) (mc : CT) (ms : ST) (P : Program) (C : CallF) (a0 : Value) (a1 : Value) (H : AHeap) (K0 : K) : Res :=
bothK (newv T.api_Change (.agg #[(.string (mk [])), (.bool false), (.bool false), (.string (mk [])), (.string (mk []))]) H) fun t4 h1 =>
bareK (bldS #[(.string (mk [])), (.bool false), (.bool false), (.string (mk [])), (.string (mk []))] [(0, 1), (1, 1), (2, 1), (3, 1), (4, 1)] [(0, a0), (1, (.bool true)), (3, a1)]) h1 fun t7 h2 =>
quietK (stN 5 h2 t4 t7) fun _ h3 =>
K0 .ret [(4, t4)] h3

theorem s_law_goes_eq (M : CombL) (C : CallF) (LP : LoopH) (a0 : Value) (a1 : Value) (H : AHeap) : dBodyL M Try.prog hints C LP F.law_goes [a0, a1] H = s_law_goes M.b.g M.c M.s Try.prog C a0 a1 H (endK Try.prog [.cell 4 T.api_Change]) := by kernel_rfl

/-! ticketline.delta.Together -/

noncomputable def s_delta_Together (mg : GT) (mc : CT) (ms : ST) (P : Program) (C : CallF) (a0 : Value) (a1 : Value) (H : AHeap) (K0 : K) : Res :=
enterK C F.delta_Valid [a0] H fun t9 h1 =>
bareK (xun P .not t9) h1 fun t10 h2 =>
mg t10 false (fun o1 => o1 a1 h2) h2 fun t12 h3 =>
mg t10 false (fun o2 => enterK C F.delta_Valid [t12] h3 o2) h3 fun t13 h4 =>
mg t10 false (fun o3 => bareK (xun P .not t13) h4 o3) h4 fun t14 h5 =>
pickK t10 (.bool true) t14 fun t15 =>
mc t15 (fun k4 => k4 .ret [(4, (.slice none 0 0)), (5, (.int .i64 2))] h5) (fun k4 =>
k4 .normal [(0, a0), (1, a1)] h5) (seqK (fun tT h6 =>
bothK (newv T.sl_api_Change (.slice none 0 0) h6) fun t6 h7 =>
bothK (newv T.bool (.bool false) h7) fun t7 h8 =>
quietK (st1 h8 t7 (.bool true)) fun _ h9 =>
enterK C F.delta_both [(get tT 0), (get tT 1), (.func (.func F.delta_Together_1) #[] #[t6, t7])] h9 fun t19 h10 =>
ms (fun k5 =>
bareK (ld1 h10 t7) h10 fun t21 h11 =>
bareK (xun P .not t21) h11 fun t22 h12 =>
mc t22 (fun k6 => k6 .ret [(4, (.slice none 0 0)), (5, (.int .i64 10))] h12) (fun k6 =>
bareK (ld1 h12 t6) h12 fun t24 h13 =>
bareK (lenS t24) h13 fun t25 h14 =>
bareK (xbin P .gtr T.int (.tmp 25) (.const (.int .i64 20000)) t25 (.int .i64 20000)) h14 fun t26 h15 =>
mc t26 (fun k7 => k7 .ret [(4, (.slice none 0 0)), (5, (.int .i64 5))] h15) (fun k7 =>
k7 .normal [(6, t6)] h15) (afterK [6] k6)) (blkK [6] 0 k5)) (seqK (fun tT_1 h16 =>
bareK (ld1 h16 (get tT_1 6)) h16 fun t27 h17 =>
K0 .ret [(4, t27), (5, (.int .i64 0))] h17) K0)) K0)

theorem s_delta_Together_eq (M : CombL) (C : CallF) (LP : LoopH) (a0 : Value) (a1 : Value) (H : AHeap) : dBodyL M Try.prog hints C LP F.delta_Together [a0, a1] H = s_delta_Together M.b.g M.c M.s Try.prog C a0 a1 H (endK Try.prog [.tmp 4, .tmp 5]) := by kernel_rfl

/-! ticketline.ticketlinelaw49.gives -/

noncomputable def s_law_gives (mg : GT) (mc : CT) (ms : ST) (P : Program) (C : CallF) (a0 : Value) (a1 : Value) (a2 : Value) (a3 : Value) (H : AHeap) (K0 : K) : Res :=
enterK C F.law_same [a0, a2] H fun t11 h1 =>
mg t11 true (fun o1 => o1 a1 h1) h1 fun t13 h2 =>
mg t11 true (fun o2 => o2 a3 h2) h2 fun t14 h3 =>
mg t11 true (fun o3 => bareK (xbin P .eql T.int (.tmp 13) (.tmp 14) t13 t14) h3 o3) h3 fun t15 h4 =>
pickK t11 t15 (.bool false) fun t16 =>
K0 .ret [(8, t16)] h4

theorem s_law_gives_eq (M : CombL) (C : CallF) (LP : LoopH) (a0 : Value) (a1 : Value) (a2 : Value) (a3 : Value) (H : AHeap) : dBodyL M Try.prog hints C LP F.law_gives [a0, a1, a2, a3] H = s_law_gives M.b.g M.c M.s Try.prog C a0 a1 a2 a3 H (endK Try.prog [.tmp 8]) := by kernel_rfl

/-! ticketline.delta.Conflicts -/

noncomputable def s_delta_Conflicts (mg : GT) (mc : CT) (ms : ST) (P : Program) (C : CallF) (a0 : Value) (a1 : Value) (H : AHeap) (K0 : K) : Res :=
enterK C F.delta_Valid [a0] H fun t8 h1 =>
bareK (xun P .not t8) h1 fun t9 h2 =>
mg t9 false (fun o1 => o1 a1 h2) h2 fun t11 h3 =>
mg t9 false (fun o2 => enterK C F.delta_Valid [t11] h3 o2) h3 fun t12 h4 =>
mg t9 false (fun o3 => bareK (xun P .not t12) h4 o3) h4 fun t13 h5 =>
pickK t9 (.bool true) t13 fun t14 =>
mc t14 (fun k4 => k4 .ret [(4, (.slice none 0 0)), (5, (.int .i64 2))] h5) (fun k4 =>
k4 .normal [(0, a0), (1, a1)] h5) (seqK (fun tT h6 =>
bothK (newv T.sl_string (.slice none 0 0) h6) fun t6 h7 =>
enterK C F.delta_both [(get tT 0), (get tT 1), (.func (.func F.delta_Conflicts_1) #[] #[t6])] h7 fun t18 h8 =>
bareK (ld1 h8 t6) h8 fun t19 h9 =>
K0 .ret [(4, t19), (5, (.int .i64 0))] h9) K0)

theorem s_delta_Conflicts_eq (M : CombL) (C : CallF) (LP : LoopH) (a0 : Value) (a1 : Value) (H : AHeap) : dBodyL M Try.prog hints C LP F.delta_Conflicts [a0, a1] H = s_delta_Conflicts M.b.g M.c M.s Try.prog C a0 a1 H (endK Try.prog [.tmp 4, .tmp 5]) := by kernel_rfl

/-! (*ticketline.model.Model).Pairs -/

noncomputable def s_model_Model_Pairs (mg : GT) (mc : CT) (ms : ST) (P : Program) (C : CallF) (a0 : Value) (H : AHeap) (K0 : K) : Res :=
bareK (xbin P .eql T.p_model_Model (.tmp 3) (.const (.pointer none)) a0 (.pointer none)) H fun t4 h1 =>
mc t4 (fun k1 => k1 .ret [(2, (.slice none 0 0))] h1) (fun k1 =>
k1 .normal [(0, a0)] h1) (seqK (fun tT h2 =>
bareK (xnilCheck (get tT 0)) h2 fun t6 h3 =>
bareK (fad 0 t6) h3 fun t7 h4 =>
bareK (ld1 h4 t7) h4 fun t8 h5 =>
enterK C F.slices_Clone_Pair [t8] h5 fun t9 h6 =>
K0 .ret [(2, t9)] h6) K0)

theorem s_model_Model_Pairs_eq (M : CombL) (C : CallF) (LP : LoopH) (a0 : Value) (H : AHeap) : dBodyL M Try.prog hints C LP F.model_Model_Pairs [a0] H = s_model_Model_Pairs M.b.g M.c M.s Try.prog C a0 H (endK Try.prog [.tmp 2]) := by kernel_rfl

/-! ticketline.delta.allowed -/

noncomputable def s_delta_allowed (mg : GT) (mc : CT) (ms : ST) (P : Program) (C : CallF) (a0 : Value) (a1 : Value) (H : AHeap) (K0 : K) : Res :=
bothK (newv T.model_Model (.agg #[(.slice none 0 0)]) H) fun t5 h1 =>
enterK C F.model_Model_Put [t5, a0, a1] h1 fun t8 h2 =>
bareK (xbin P .eql T.api_Errno (.tmp 8) (.const (.int .i64 0)) t8 (.int .i64 0)) h2 fun t9 h3 =>
K0 .ret [(4, t9)] h3

theorem s_delta_allowed_eq (M : CombL) (C : CallF) (LP : LoopH) (a0 : Value) (a1 : Value) (H : AHeap) : dBodyL M Try.prog hints C LP F.delta_allowed [a0, a1] H = s_delta_allowed M.b.g M.c M.s Try.prog C a0 a1 H (endK Try.prog [.tmp 4]) := by kernel_rfl

/-! ticketline.delta.same -/

noncomputable def s_delta_same (mg : GT) (mc : CT) (ms : ST) (P : Program) (C : CallF) (a0 : Value) (H : AHeap) (K0 : K) : Res :=
bothK (newv T.api_Change a0 H) fun t1 h1 =>
bareK (fad 1 t1) h1 fun t3 h2 =>
bareK (ld1 h2 t3) h2 fun t4 h3 =>
bareK (fad 2 t1) h3 fun t5 h4 =>
bareK (ld1 h4 t5) h4 fun t6 h5 =>
bareK (xbin P .eql T.bool (.tmp 4) (.tmp 6) t4 t6) h5 fun t7 h6 =>
mg t7 true (fun o1 => bareK (fad 3 t1) h6 o1) h6 fun t9 h7 =>
mg t7 true (fun o2 => bareK (ld1 h7 t9) h7 o2) h7 fun t10 h8 =>
mg t7 true (fun o3 => bareK (fad 4 t1) h8 o3) h8 fun t11 h9 =>
mg t7 true (fun o4 => bareK (ld1 h9 t11) h9 o4) h9 fun t12 h10 =>
mg t7 true (fun o5 => bareK (xbin P .eql T.string (.tmp 10) (.tmp 12) t10 t12) h10 o5) h10 fun t13 h11 =>
pickK t7 t13 (.bool false) fun t14 =>
K0 .ret [(2, t14)] h11

theorem s_delta_same_eq (M : CombL) (C : CallF) (LP : LoopH) (a0 : Value) (H : AHeap) : dBodyL M Try.prog hints C LP F.delta_same [a0] H = s_delta_same M.b.g M.c M.s Try.prog C a0 H (endK Try.prog [.tmp 2]) := by kernel_rfl

/-! slices.Equal[[]ticketline.api.Pair,ticketline.api.Pair] -/

noncomputable def s_slices_Equal_Pair (mg : GT) (mc : CT) (ms : ST) (P : Program) (C : CallF) (L0 : Value → Value → Value → Value → AHeap → K → Res) (a0 : Value) (a1 : Value) (H : AHeap) (K0 : K) : Res :=
bareK (lenS a0) H fun t7 h1 =>
bareK (lenS a1) h1 fun t9 h2 =>
bareK (xbin P .neq T.int (.tmp 7) (.tmp 9) t7 t9) h2 fun t10 h3 =>
mc t10 (fun k1 => k1 .ret [(4, (.bool false))] h3) (fun k1 =>
k1 .normal [(0, a0), (1, a1)] h3) (seqK (fun tT h4 =>
bareK (lenS (get tT 0)) h4 fun t12 h5 =>
ms (fun k2 =>
L0 (get tT 0) (get tT 1) t12 (.int .i64 0) h5 (blkK [] 0 k2)) (seqK (fun tT_1 h6 =>
K0 .ret [(4, (.bool true))] h6) K0)) K0)

noncomputable def s_slices_Equal_Pair_b0 (mg : GT) (mc : CT) (ms : ST) (P : Program) (C : CallF) (L0 : Value → Value → Value → Value → AHeap → K → Res) (v0 : Value) (v1 : Value) (v12 : Value) (v13 : Value) (H : AHeap) (k : K) : Res :=
bareK (xbin P .lss T.int (.tmp 13) (.tmp 12) v13 v12) H fun t14 h6 =>
mc t14 (fun k3 => k3 .normal [(0, v0), (1, v1), (12, v12), (13, v13)] h6) (fun k3 =>
k3 (.exit 0) [(14, t14), (0, v0), (1, v1), (12, v12), (13, v13)] h6) (seqK (fun tT h7 =>
ms (fun k4 =>
bareK (ixS 2 (get tT 0) (get tT 13)) h7 fun t18 h8 =>
bareK (ldN 2 h8 t18) h8 fun t19 h9 =>
bareK (ixS 2 (get tT 1) (get tT 13)) h9 fun t22 h10 =>
bareK (ldN 2 h10 t22) h10 fun t23 h11 =>
bareK (xbin P .neq T.api_Pair (.tmp 19) (.tmp 23) t19 t23) h11 fun t24 h12 =>
checkK true <|
mc t24 (fun k5 => k5 .ret [(4, (.bool false))] h12) (fun k5 =>
k5 .normal [(0, (get tT 0)), (1, (get tT 1)), (12, (get tT 12)), (13, (get tT 13))] h12) (blkK [0, 1, 12, 13] 1 k4)) (seqK (fun tT_1 h13 =>
bareK (xbin P .add T.int (.tmp 13) (.const (.int .i64 1)) (get tT_1 13) (.int .i64 1)) h13 fun t25 h14 =>
k .normal [(0, (get tT_1 0)), (1, (get tT_1 1)), (12, (get tT_1 12)), (13, t25)] h14) (afterK [0, 1, 12, 13] k))) (afterK [0, 1, 12, 13] k))

theorem s_slices_Equal_Pair_eq (M : CombL) (C : CallF) (LP : LoopH) (a0 : Value) (a1 : Value) (H : AHeap) : dBodyL M Try.prog hints C LP F.slices_Equal_Pair [a0, a1] H = s_slices_Equal_Pair M.b.g M.c M.s Try.prog C (fun v0 v1 v12 v13 H k => loopL M Try.prog hints C LP F.slices_Equal_Pair 0 [(0, v0), (1, v1), (12, v12), (13, v13)] H k) a0 a1 H (endK Try.prog [.tmp 4]) := by kernel_rfl

theorem s_slices_Equal_Pair_b0_eq (M : CombL) (C : CallF) (LP : LoopH) (v0 : Value) (v1 : Value) (v12 : Value) (v13 : Value) (H : AHeap) (k : K) : bodyL M Try.prog hints C LP F.slices_Equal_Pair 0 [(0, v0), (1, v1), (12, v12), (13, v13)] H (afterK [0, 1, 12, 13] k) = s_slices_Equal_Pair_b0 M.b.g M.c M.s Try.prog C (fun v0 v1 v12 v13 H k => loopL M Try.prog hints C LP F.slices_Equal_Pair 0 [(0, v0), (1, v1), (12, v12), (13, v13)] H k) v0 v1 v12 v13 H k := by kernel_rfl

/-! (*ticketline.model.Model).at -/

noncomputable def s_model_Model_at (mg : GT) (mc : CT) (ms : ST) (P : Program) (C : CallF) (a0 : Value) (a1 : Value) (a2 : Value) (H : AHeap) (K0 : K) : Res :=
bareK (xbin P .eql T.p_model_Model (.tmp 13) (.const (.pointer none)) a0 (.pointer none)) H fun t14 h1 =>
mc t14 (fun k1 => k1 .ret [(6, (.int .i64 0)), (7, (.bool false)), (8, (.int .i64 1))] h1) (fun k1 =>
k1 .normal [(0, a0), (1, a1), (2, a2)] h1) (seqK (fun tT h2 =>
enterK C F.model_check [(get tT 1), (get tT 2)] h2 fun t17 h3 =>
bareK (xbin P .neq T.api_Errno (.tmp 18) (.const (.int .i64 0)) t17 (.int .i64 0)) h3 fun t19 h4 =>
mc t19 (fun k2 => k2 .ret [(6, (.int .i64 0)), (7, (.bool false)), (8, t17)] h4) (fun k2 =>
k2 .normal [(0, (get tT 0)), (1, (get tT 1))] h4) (seqK (fun tT_1 h5 =>
callK P C (.func (.func F.model_Model_place) #[(get tT_1 0)] #[]) [(get tT_1 1)] h5 fun t26 h6 =>
bareK (xextract t26 0) h6 fun t27 h7 =>
bareK (xextract t26 1) h7 fun t28 h8 =>
K0 .ret [(6, t27), (7, t28), (8, (.int .i64 0))] h8) K0)) K0)

theorem s_model_Model_at_eq (M : CombL) (C : CallF) (LP : LoopH) (a0 : Value) (a1 : Value) (a2 : Value) (H : AHeap) : dBodyL M Try.prog hints C LP F.model_Model_at [a0, a1, a2] H = s_model_Model_at M.b.g M.c M.s Try.prog C a0 a1 a2 H (endK Try.prog [.tmp 6, .tmp 7, .tmp 8]) := by kernel_rfl

/-! slices.Clone[[]ticketline.api.Pair,ticketline.api.Pair] -/

noncomputable def s_slices_Clone_Pair (mg : GT) (mc : CT) (ms : ST) (P : Program) (C : CallF) (a0 : Value) (H : AHeap) (K0 : K) : Res :=
bareK (xbin P .eql T.sl_api_Pair (.tmp 3) (.const (.slice none 0 0)) a0 (.slice none 0 0)) H fun t4 h1 =>
mc t4 (fun k1 => k1 .ret [(2, (.slice none 0 0))] h1) (fun k1 =>
k1 .normal [(0, a0)] h1) (seqK (fun tT h2 =>
bothK (bldL T.api_Pair [(.string (mk [])), (.string (mk []))] 0 [] h2) fun t5 h3 =>
bothK (app T.api_Pair 2 32 t5 (srcS 2 (get tT 0) h3) h3) fun t7 h4 =>
K0 .ret [(2, t7)] h4) K0)

theorem s_slices_Clone_Pair_eq (M : CombL) (C : CallF) (LP : LoopH) (a0 : Value) (H : AHeap) : dBodyL M Try.prog hints C LP F.slices_Clone_Pair [a0] H = s_slices_Clone_Pair M.b.g M.c M.s Try.prog C a0 H (endK Try.prog [.tmp 2]) := by kernel_rfl

/-! (*ticketline.model.Model).place -/

noncomputable def s_model_Model_place (mg : GT) (mc : CT) (ms : ST) (P : Program) (C : CallF) (a0 : Value) (a1 : Value) (H : AHeap) (K0 : K) : Res :=
bareK (xnilCheck a0) H fun t7 h1 =>
bareK (fad 0 t7) h1 fun t8 h2 =>
bareK (ld1 h2 t8) h2 fun t9 h3 =>
enterK C F.slices_BinarySearchFunc_string [t9, a1, (.func (.func F.model_Model_place_1) #[] #[])] h3 fun t11 h4 =>
bareK (xextract t11 0) h4 fun t12 h5 =>
bareK (xextract t11 1) h5 fun t13 h6 =>
K0 .ret [(4, t12), (5, t13)] h6

theorem s_model_Model_place_eq (M : CombL) (C : CallF) (LP : LoopH) (a0 : Value) (a1 : Value) (H : AHeap) : dBodyL M Try.prog hints C LP F.model_Model_place [a0, a1] H = s_model_Model_place M.b.g M.c M.s Try.prog C a0 a1 H (endK Try.prog [.tmp 4, .tmp 5]) := by kernel_rfl

/-! slices.Delete[[]ticketline.api.Pair,ticketline.api.Pair] -/

noncomputable def s_slices_Delete_Pair (mg : GT) (mc : CT) (ms : ST) (P : Program) (C : CallF) (a0 : Value) (a1 : Value) (a2 : Value) (H : AHeap) (K0 : K) : Res :=
bareK (lenS a0) H fun t12 h1 =>
bareK (slS T.api_Pair 2 a0 (some a1) (some a2) (some t12) h1) h1 fun t13 h2 =>
bareK (xbin P .eql T.int (.tmp 14) (.tmp 15) a1 a2) h2 fun t16 h3 =>
mc t16 (fun k1 => k1 .ret [(6, a0)] h3) (fun k1 =>
k1 .normal [(0, a0), (1, a1), (2, a2)] h3) (seqK (fun tT h4 =>
bareK (lenS (get tT 0)) h4 fun t19 h5 =>
bareK (slS T.api_Pair 2 (get tT 0) none (some (get tT 1)) none h5) h5 fun t22 h6 =>
bareK (slS T.api_Pair 2 (get tT 0) (some (get tT 2)) none none h6) h6 fun t25 h7 =>
bothK (app T.api_Pair 2 32 t22 (srcS 2 t25 h7) h7) fun t26 h8 =>
checkK true <|
bareK (lenS t26) h8 fun t29 h9 =>
bareK (slS T.api_Pair 2 t26 (some t29) (some t19) none h9) h9 fun t31 h10 =>
bothK (xclear P [T.sl_api_Pair] t31 h10) fun _ h11 =>
K0 .ret [(6, t26)] h11) K0)

theorem s_slices_Delete_Pair_eq (M : CombL) (C : CallF) (LP : LoopH) (a0 : Value) (a1 : Value) (a2 : Value) (H : AHeap) : dBodyL M Try.prog hints C LP F.slices_Delete_Pair [a0, a1, a2] H = s_slices_Delete_Pair M.b.g M.c M.s Try.prog C a0 a1 a2 H (endK Try.prog [.tmp 6]) := by kernel_rfl

/-! (*ticketline.model.Model).set -/

noncomputable def s_model_Model_set (mg : GT) (mc : CT) (ms : ST) (P : Program) (C : CallF) (a0 : Value) (a1 : Value) (a2 : Value) (a3 : Value) (H : AHeap) (K0 : K) : Res :=
bothK (newv T.api_Pair a3 H) fun t7 h1 =>
ms (fun k1 =>
mc a2 (fun k2 => bareK (xnilCheck a0) h1 fun t23 h2 =>
bareK (fad 0 t23) h2 fun t24 h3 =>
bareK (ld1 h3 t24) h3 fun t25 h4 =>
bareK (ldN 2 h4 t7) h4 fun t27 h5 =>
bareK (ixS 2 t25 a1) h5 fun t28 h6 =>
quietK (stN 2 h6 t28 t27) fun _ h7 =>
checkK true <|
k2 .normal [] h7) (fun k2 =>
bareK (xnilCheck a0) h1 fun t31 h8 =>
bareK (fad 0 t31) h8 fun t32 h9 =>
bareK (ld1 h9 t32) h9 fun t33 h10 =>
bareK (lenS t33) h10 fun t34 h11 =>
bareK (xbin P .eql T.int (.tmp 34) (.const (.int .i64 20000)) t34 (.int .i64 20000)) h11 fun t35 h12 =>
mc t35 (fun k3 => k3 .ret [(8, (.int .i64 7))] h12) (fun k3 =>
bareK (xnilCheck a0) h12 fun t11 h13 =>
bareK (fad 0 t11) h13 fun t12 h14 =>
bareK (ld1 h14 t12) h14 fun t13 h15 =>
bareK (ldN 2 h15 t7) h15 fun t15 h16 =>
bothK (bldL T.api_Pair [(.string (mk [])), (.string (mk []))] 1 [(0, t15)] h16) fun t16 h17 =>
enterK C F.slices_Insert_Pair [t13, a1, t16] h17 fun t17 h18 =>
bareK (xnilCheck a0) h18 fun t18 h19 =>
bareK (fad 0 t18) h19 fun t19 h20 =>
quietK (st1 h20 t19 t17) fun _ h21 =>
checkK (okV (some true) none h17 h18 h12 h12 && true) <|
k3 .normal [] h21) (afterK [] k2)) (blkK [] 0 k1)) (seqK (fun tT h22 =>
K0 .ret [(8, (.int .i64 0))] h22) K0)

theorem s_model_Model_set_eq (M : CombL) (C : CallF) (LP : LoopH) (a0 : Value) (a1 : Value) (a2 : Value) (a3 : Value) (H : AHeap) : dBodyL M Try.prog hints C LP F.model_Model_set [a0, a1, a2, a3] H = s_model_Model_set M.b.g M.c M.s Try.prog C a0 a1 a2 a3 H (endK Try.prog [.tmp 8]) := by kernel_rfl

/-! ticketline.delta.both -/

noncomputable def s_delta_both (mg : GT) (mc : CT) (ms : ST) (P : Program) (C : CallF) (L0 : Value → Value → Value → AHeap → K → Res) (a0 : Value) (a1 : Value) (a2 : Value) (H : AHeap) (K0 : K) : Res :=
ms (fun k1 =>
L0 a0 a1 a2 H (blkK [] 0 k1)) K0

noncomputable def s_delta_both_b0 (mg : GT) (mc : CT) (ms : ST) (P : Program) (C : CallF) (L0 : Value → Value → Value → AHeap → K → Res) (v0 : Value) (v1 : Value) (v2 : Value) (H : AHeap) (k : K) : Res :=
bareK (lenS v0) H fun t11 h1 =>
bareK (xbin P .gtr T.int (.tmp 11) (.const (.int .i64 0)) t11 (.int .i64 0)) h1 fun t12 h2 =>
mg t12 false (fun o2 => o2 v1 h2) h2 fun t14 h3 =>
mg t12 false (fun o3 => bareK (lenS t14) h3 o3) h3 fun t15 h4 =>
mg t12 false (fun o4 => bareK (xbin P .gtr T.int (.tmp 15) (.const (.int .i64 0)) t15 (.int .i64 0)) h4 o4) h4 fun t16 h5 =>
pickK t12 (.bool true) t16 fun t17 =>
mc t17 (fun k5 => k5 .normal [(0, v0), (1, v1), (2, v2)] h5) (fun k5 =>
k5 (.exit 0) [(17, t17), (16, t16), (15, t15), (14, t14), (13, t12), (12, t12), (11, t11), (10, v0), (0, v0), (1, v1), (2, v2)] h5) (seqK (fun tT h6 =>
ms (fun k6 =>
bareK (lenS (get tT 0)) h6 fun t19 h7 =>
bareK (xbin P .gtr T.int (.tmp 19) (.const (.int .i64 0)) t19 (.int .i64 0)) h7 fun t20 h8 =>
mg t20 true (fun o7 => o7 (get tT 1) h8) h8 fun t22 h9 =>
mg t20 true (fun o8 => bareK (lenS t22) h9 o8) h9 fun t23 h10 =>
mg t20 true (fun o9 => bareK (xbin P .eql T.int (.tmp 23) (.const (.int .i64 0)) t23 (.int .i64 0)) h10 o9) h10 fun t24 h11 =>
mg t20 true (fun o10 => o10 t24 h11) h11 fun t25 h12 =>
mg t25 false (fun o11 => o11 (get tT 0) h12) h12 fun t26 h13 =>
mg t25 false (fun o12 => bareK (ixS 5 t26 (.int .i64 0)) h13 o12) h13 fun t27 h14 =>
mg t25 false (fun o13 => bareK (fad 0 t27) h14 o13) h14 fun t28 h15 =>
mg t25 false (fun o14 => bareK (ld1 h15 t28) h15 o14) h15 fun t29 h16 =>
mg t25 false (fun o15 => o15 (get tT 1) h16) h16 fun t30 h17 =>
mg t25 false (fun o16 => bareK (ixS 5 t30 (.int .i64 0)) h17 o16) h17 fun t31 h18 =>
mg t25 false (fun o17 => bareK (fad 0 t31) h18 o17) h18 fun t32 h19 =>
mg t25 false (fun o18 => bareK (ld1 h19 t32) h19 o18) h19 fun t33 h20 =>
mg t25 false (fun o19 => bareK (xbin P .leq T.string (.tmp 29) (.tmp 33) t29 t33) h20 o19) h20 fun t34 h21 =>
mg t20 true (fun o20 => pickK t25 (.bool true) t34 fun v => o20 v h21) h21 fun t35 h22 =>
pickK t20 t35 (.bool false) fun t36 =>
checkK true <|
bareK (lenS (get tT 1)) h22 fun t38 h23 =>
bareK (xbin P .gtr T.int (.tmp 38) (.const (.int .i64 0)) t38 (.int .i64 0)) h23 fun t39 h24 =>
mg t39 true (fun o21 => o21 (get tT 0) h24) h24 fun t41 h25 =>
mg t39 true (fun o22 => bareK (lenS t41) h25 o22) h25 fun t42 h26 =>
mg t39 true (fun o23 => bareK (xbin P .eql T.int (.tmp 42) (.const (.int .i64 0)) t42 (.int .i64 0)) h26 o23) h26 fun t43 h27 =>
mg t39 true (fun o24 => o24 t43 h27) h27 fun t44 h28 =>
mg t44 false (fun o25 => o25 (get tT 1) h28) h28 fun t45 h29 =>
mg t44 false (fun o26 => bareK (ixS 5 t45 (.int .i64 0)) h29 o26) h29 fun t46 h30 =>
mg t44 false (fun o27 => bareK (fad 0 t46) h30 o27) h30 fun t47 h31 =>
mg t44 false (fun o28 => bareK (ld1 h31 t47) h31 o28) h31 fun t48 h32 =>
mg t44 false (fun o29 => o29 (get tT 0) h32) h32 fun t49 h33 =>
mg t44 false (fun o30 => bareK (ixS 5 t49 (.int .i64 0)) h33 o30) h33 fun t50 h34 =>
mg t44 false (fun o31 => bareK (fad 0 t50) h34 o31) h34 fun t51 h35 =>
mg t44 false (fun o32 => bareK (ld1 h35 t51) h35 o32) h35 fun t52 h36 =>
mg t44 false (fun o33 => bareK (xbin P .leq T.string (.tmp 48) (.tmp 52) t48 t52) h36 o33) h36 fun t53 h37 =>
mg t39 true (fun o34 => pickK t44 (.bool true) t53 fun v => o34 v h37) h37 fun t54 h38 =>
pickK t39 t54 (.bool false) fun t55 =>
checkK true <|
bothK (newv T.api_Change (.agg #[(.string (mk [])), (.bool false), (.bool false), (.string (mk [])), (.string (mk []))]) h38) fun t8 h39 =>
bothK (newv T.api_Change (.agg #[(.string (mk [])), (.bool false), (.bool false), (.string (mk [])), (.string (mk []))]) h39) fun t9 h40 =>
mc t36 (fun k35 => bareK (ixS 5 (get tT 0) (.int .i64 0)) h40 fun t58 h41 =>
bareK (ldN 5 h41 t58) h41 fun t59 h42 =>
bareK (slS T.api_Change 5 (get tT 0) (some (.int .i64 1)) none none h42) h42 fun t61 h43 =>
quietK (stN 5 h43 t8 t59) fun _ h44 =>
checkK (okV (some true) none h43 h44 h42 h42 && (okV (some true) (blockOf (get tT 0)) h43 h44 h42 h43 && true)) <|
k35 .normal [(0, t61), (1, (get tT 1)), (2, (get tT 2)), (6, t36), (7, t55), (8, t8), (9, t9)] h44) (fun k35 =>
k35 .normal [(0, (get tT 0)), (1, (get tT 1)), (2, (get tT 2)), (6, t36), (7, t55), (8, t8), (9, t9)] h40) (seqK (fun tT_1 h45 =>
mc (get tT_1 7) (fun k36 => bareK (ixS 5 (get tT_1 1) (.int .i64 0)) h45 fun t64 h46 =>
bareK (ldN 5 h46 t64) h46 fun t65 h47 =>
bareK (slS T.api_Change 5 (get tT_1 1) (some (.int .i64 1)) none none h47) h47 fun t67 h48 =>
quietK (stN 5 h48 (get tT_1 9) t65) fun _ h49 =>
checkK (okV (some true) none h48 h49 h47 h47 && (okV (some true) (blockOf (get tT_1 1)) h48 h49 h47 h48 && true)) <|
k36 .normal [(0, (get tT_1 0)), (1, t67), (2, (get tT_1 2)), (6, (get tT_1 6)), (7, (get tT_1 7)), (8, (get tT_1 8)), (9, (get tT_1 9))] h49) (fun k36 =>
k36 .normal [(0, (get tT_1 0)), (1, (get tT_1 1)), (2, (get tT_1 2)), (6, (get tT_1 6)), (7, (get tT_1 7)), (8, (get tT_1 8)), (9, (get tT_1 9))] h45) (seqK (fun tT_2 h50 =>
bareK (ldN 5 h50 (get tT_2 8)) h50 fun t69 h51 =>
bareK (ldN 5 h51 (get tT_2 9)) h51 fun t70 h52 =>
callK P C (get tT_2 2) [t69, t70, (get tT_2 6), (get tT_2 7)] h52 fun t73 h53 =>
k6 .normal [(0, (get tT_2 0)), (1, (get tT_2 1)), (2, (get tT_2 2))] h53) (blkK [0, 1, 2] 1 k6))) (blkK [0, 1, 2] 1 k6))) (afterK [0, 1, 2] k)) (afterK [0, 1, 2] k))

theorem s_delta_both_eq (M : CombL) (C : CallF) (LP : LoopH) (a0 : Value) (a1 : Value) (a2 : Value) (H : AHeap) : dBodyL M Try.prog hints C LP F.delta_both [a0, a1, a2] H = s_delta_both M.b.g M.c M.s Try.prog C (fun v0 v1 v2 H k => loopL M Try.prog hints C LP F.delta_both 0 [(0, v0), (1, v1), (2, v2)] H k) a0 a1 a2 H (endK Try.prog []) := by kernel_rfl

theorem s_delta_both_b0_eq (M : CombL) (C : CallF) (LP : LoopH) (v0 : Value) (v1 : Value) (v2 : Value) (H : AHeap) (k : K) : bodyL M Try.prog hints C LP F.delta_both 0 [(0, v0), (1, v1), (2, v2)] H (afterK [0, 1, 2] k) = s_delta_both_b0 M.b.g M.c M.s Try.prog C (fun v0 v1 v2 H k => loopL M Try.prog hints C LP F.delta_both 0 [(0, v0), (1, v1), (2, v2)] H k) v0 v1 v2 H k := by kernel_rfl

/-! ticketline.delta.of -/

noncomputable def s_delta_of (mg : GT) (mc : CT) (ms : ST) (P : Program) (C : CallF) (L0 : Value → Value → Value → Value → AHeap → K → Res) (a0 : Value) (H : AHeap) (K0 : K) : Res :=
enterK C F.model_Model_Pairs [a0] H fun t7 h1 =>
bareK (lenS t7) h1 fun t8 h2 =>
ms (fun k1 =>
L0 (.slice none 0 0) t7 t8 (.int .i64 0) h2 (blkK [3] 0 k1)) (seqK (fun tT h3 =>
K0 .ret [(2, (get tT 3))] h3) K0)

noncomputable def s_delta_of_b0 (mg : GT) (mc : CT) (ms : ST) (P : Program) (C : CallF) (L0 : Value → Value → Value → Value → AHeap → K → Res) (v3 : Value) (v7 : Value) (v8 : Value) (v9 : Value) (H : AHeap) (k : K) : Res :=
bareK (xbin P .lss T.int (.tmp 9) (.tmp 8) v9 v8) H fun t10 h3 =>
mc t10 (fun k2 => k2 .normal [(3, v3), (7, v7), (8, v8), (9, v9)] h3) (fun k2 =>
k2 (.exit 0) [(10, t10), (3, v3), (7, v7), (8, v8), (9, v9)] h3) (seqK (fun tT h4 =>
ms (fun k3 =>
bareK (ixS 2 (get tT 7) (get tT 9)) h4 fun t11 h5 =>
bareK (ldN 2 h5 t11) h5 fun t12 h6 =>
bothK (newv T.api_Pair (.agg #[(.string (mk [])), (.string (mk []))]) h6) fun t5 h7 =>
quietK (stN 2 h7 t5 t12) fun _ h8 =>
bareK (fad 0 t5) h8 fun t14 h9 =>
bareK (ld1 h9 t14) h9 fun t15 h10 =>
bareK (fad 1 t5) h10 fun t16 h11 =>
bareK (ld1 h11 t16) h11 fun t17 h12 =>
bareK (bldS #[(.string (mk [])), (.bool false), (.bool false), (.string (mk [])), (.string (mk []))] [(0, 1), (1, 1), (2, 1), (3, 1), (4, 1)] [(0, t15), (2, (.bool true)), (4, t17)]) h12 fun t18 h13 =>
bothK (bldL T.api_Change [(.string (mk [])), (.bool false), (.bool false), (.string (mk [])), (.string (mk []))] 1 [(0, t18)] h13) fun t19 h14 =>
bothK (app T.api_Change 5 56 (get tT 3) (srcS 5 t19 h14) h14) fun t20 h15 =>
k3 .normal [(3, t20), (7, (get tT 7)), (8, (get tT 8)), (9, (get tT 9))] h15) (seqK (fun tT_1 h16 =>
bareK (xbin P .add T.int (.tmp 9) (.const (.int .i64 1)) (get tT_1 9) (.int .i64 1)) h16 fun t21 h17 =>
k .normal [(3, (get tT_1 3)), (7, (get tT_1 7)), (8, (get tT_1 8)), (9, t21)] h17) (afterK [3, 7, 8, 9] k))) (afterK [3, 7, 8, 9] k))

theorem s_delta_of_eq (M : CombL) (C : CallF) (LP : LoopH) (a0 : Value) (H : AHeap) : dBodyL M Try.prog hints C LP F.delta_of [a0] H = s_delta_of M.b.g M.c M.s Try.prog C (fun v3 v7 v8 v9 H k => loopL M Try.prog hints C LP F.delta_of 0 [(3, v3), (7, v7), (8, v8), (9, v9)] H k) a0 H (endK Try.prog [.tmp 2]) := by kernel_rfl

theorem s_delta_of_b0_eq (M : CombL) (C : CallF) (LP : LoopH) (v3 : Value) (v7 : Value) (v8 : Value) (v9 : Value) (H : AHeap) (k : K) : bodyL M Try.prog hints C LP F.delta_of 0 [(3, v3), (7, v7), (8, v8), (9, v9)] H (afterK [3, 7, 8, 9] k) = s_delta_of_b0 M.b.g M.c M.s Try.prog C (fun v3 v7 v8 v9 H k => loopL M Try.prog hints C LP F.delta_of 0 [(3, v3), (7, v7), (8, v8), (9, v9)] H k) v3 v7 v8 v9 H k := by kernel_rfl

/-! ticketline.delta.Of$1 -/

noncomputable def s_delta_Of_1 (mg : GT) (mc : CT) (ms : ST) (P : Program) (C : CallF) (a0 : Value) (a1 : Value) (a2 : Value) (a3 : Value) (a4 : Value) (H : AHeap) (K0 : K) : Res :=
bothK (newv T.api_Change a0 H) fun t5 h1 =>
bothK (newv T.api_Change a1 h1) fun t6 h2 =>
bareK (fad 0 t5) h2 fun t10 h3 =>
bareK (ld1 h3 t10) h3 fun t11 h4 =>
bareK (fad 0 t6) h4 fun t12 h5 =>
bareK (ld1 h5 t12) h5 fun t13 h6 =>
nextK C h6 (xbuiltin P .max [T.string, T.string] [t11, t13] h6) fun t14 h7 =>
bareK (fad 4 t5) h7 fun t17 h8 =>
bareK (ld1 h8 t17) h8 fun t18 h9 =>
bareK (fad 4 t6) h9 fun t19 h10 =>
bareK (ld1 h10 t19) h10 fun t20 h11 =>
bareK (bldS #[(.string (mk [])), (.bool false), (.bool false), (.string (mk [])), (.string (mk []))] [(0, 1), (1, 1), (2, 1), (3, 1), (4, 1)] [(0, t14), (1, a2), (2, a3), (3, t18), (4, t20)]) h11 fun t21 h12 =>
bothK (newv T.api_Change (.agg #[(.string (mk [])), (.bool false), (.bool false), (.string (mk [])), (.string (mk []))]) h12) fun t9 h13 =>
quietK (stN 5 h13 t9 t21) fun _ h14 =>
bareK (ldN 5 h14 t9) h14 fun t22 h15 =>
enterK C F.delta_same [t22] h15 fun t23 h16 =>
bareK (xun P .not t23) h16 fun t24 h17 =>
mc t24 (fun k1 => bareK (ld1 h17 a4) h17 fun t25 h18 =>
bareK (ldN 5 h18 t9) h18 fun t26 h19 =>
bothK (bldL T.api_Change [(.string (mk [])), (.bool false), (.bool false), (.string (mk [])), (.string (mk []))] 1 [(0, t26)] h19) fun t27 h20 =>
bothK (app T.api_Change 5 56 t25 (srcS 5 t27 h20) h20) fun t28 h21 =>
quietK (st1 h21 a4 t28) fun _ h22 =>
k1 .normal [] h22) (fun k1 =>
k1 .normal [] h17) K0

theorem s_delta_Of_1_eq (M : CombL) (C : CallF) (LP : LoopH) (a0 : Value) (a1 : Value) (a2 : Value) (a3 : Value) (a4 : Value) (H : AHeap) : dBodyL M Try.prog hints C LP F.delta_Of_1 [a0, a1, a2, a3, a4] H = s_delta_Of_1 M.b.g M.c M.s Try.prog C a0 a1 a2 a3 a4 H (endK Try.prog []) := by kernel_rfl

/-! ticketline.delta.reversed -/

noncomputable def s_delta_reversed (mg : GT) (mc : CT) (ms : ST) (P : Program) (C : CallF) (a0 : Value) (H : AHeap) (K0 : K) : Res :=
bothK (newv T.api_Change a0 H) fun t1 h1 =>
bothK (newv T.api_Change (.agg #[(.string (mk [])), (.bool false), (.bool false), (.string (mk [])), (.string (mk []))]) h1) fun t2 h2 =>
bareK (fad 0 t1) h2 fun t3 h3 =>
bareK (ld1 h3 t3) h3 fun t4 h4 =>
bareK (fad 2 t1) h4 fun t5 h5 =>
bareK (ld1 h5 t5) h5 fun t6 h6 =>
bareK (fad 1 t1) h6 fun t7 h7 =>
bareK (ld1 h7 t7) h7 fun t8 h8 =>
bareK (fad 4 t1) h8 fun t9 h9 =>
bareK (ld1 h9 t9) h9 fun t10 h10 =>
bareK (fad 3 t1) h10 fun t11 h11 =>
bareK (ld1 h11 t11) h11 fun t12 h12 =>
bareK (bldS #[(.string (mk [])), (.bool false), (.bool false), (.string (mk [])), (.string (mk []))] [(0, 1), (1, 1), (2, 1), (3, 1), (4, 1)] [(0, t4), (1, t6), (2, t8), (3, t10), (4, t12)]) h12 fun t13 h13 =>
quietK (stN 5 h13 t2 t13) fun _ h14 =>
K0 .ret [(2, t2)] h14

theorem s_delta_reversed_eq (M : CombL) (C : CallF) (LP : LoopH) (a0 : Value) (H : AHeap) : dBodyL M Try.prog hints C LP F.delta_reversed [a0] H = s_delta_reversed M.b.g M.c M.s Try.prog C a0 H (endK Try.prog [.cell 2 T.api_Change]) := by kernel_rfl

/-! ticketline.delta.Merge$1 -/

noncomputable def s_delta_Merge_1 (mg : GT) (mc : CT) (ms : ST) (P : Program) (C : CallF) (a0 : Value) (a1 : Value) (a2 : Value) (a3 : Value) (a4 : Value) (H : AHeap) (K0 : K) : Res :=
bothK (newv T.api_Change a0 H) fun t5 h1 =>
bothK (newv T.api_Change a1 h1) fun t6 h2 =>
mc a2 (fun k1 => bareK (ld1 h2 a4) h2 fun t10 h3 =>
bareK (ldN 5 h3 t5) h3 fun t11 h4 =>
bothK (bldL T.api_Change [(.string (mk [])), (.bool false), (.bool false), (.string (mk [])), (.string (mk []))] 1 [(0, t11)] h4) fun t12 h5 =>
bothK (app T.api_Change 5 56 t10 (srcS 5 t12 h5) h5) fun t13 h6 =>
quietK (st1 h6 a4 t13) fun _ h7 =>
k1 .normal [] h7) (fun k1 =>
bareK (ld1 h2 a4) h2 fun t14 h8 =>
bareK (ldN 5 h8 t6) h8 fun t15 h9 =>
bothK (bldL T.api_Change [(.string (mk [])), (.bool false), (.bool false), (.string (mk [])), (.string (mk []))] 1 [(0, t15)] h9) fun t16 h10 =>
bothK (app T.api_Change 5 56 t14 (srcS 5 t16 h10) h10) fun t17 h11 =>
quietK (st1 h11 a4 t17) fun _ h12 =>
k1 .normal [] h12) K0

theorem s_delta_Merge_1_eq (M : CombL) (C : CallF) (LP : LoopH) (a0 : Value) (a1 : Value) (a2 : Value) (a3 : Value) (a4 : Value) (H : AHeap) : dBodyL M Try.prog hints C LP F.delta_Merge_1 [a0, a1, a2, a3, a4] H = s_delta_Merge_1 M.b.g M.c M.s Try.prog C a0 a1 a2 a3 a4 H (endK Try.prog []) := by kernel_rfl

/-! slices.Clip[[]ticketline.api.Change,ticketline.api.Change] -/

noncomputable def s_slices_Clip_Change (mg : GT) (mc : CT) (ms : ST) (P : Program) (C : CallF) (a0 : Value) (H : AHeap) (K0 : K) : Res :=
bareK (lenS a0) H fun t5 h1 =>
bareK (lenS a0) h1 fun t7 h2 =>
bareK (slS T.api_Change 5 a0 none (some t5) (some t7) h2) h2 fun t8 h3 =>
K0 .ret [(2, t8)] h3

theorem s_slices_Clip_Change_eq (M : CombL) (C : CallF) (LP : LoopH) (a0 : Value) (H : AHeap) : dBodyL M Try.prog hints C LP F.slices_Clip_Change [a0] H = s_slices_Clip_Change M.b.g M.c M.s Try.prog C a0 H (endK Try.prog [.tmp 2]) := by kernel_rfl

/-! ticketline.delta.Together$1 -/

noncomputable def s_delta_Together_1 (mg : GT) (mc : CT) (ms : ST) (P : Program) (C : CallF) (a0 : Value) (a1 : Value) (a2 : Value) (a3 : Value) (a4 : Value) (a5 : Value) (H : AHeap) (K0 : K) : Res :=
bothK (newv T.api_Change a0 H) fun t6 h1 =>
bothK (newv T.api_Change a1 h1) fun t7 h2 =>
ms (fun k1 =>
bareK (xun P .not a3) h2 fun t31 h3 =>
mc t31 (fun k2 => bareK (ld1 h3 a4) h3 fun t32 h4 =>
bareK (ldN 5 h4 t6) h4 fun t33 h5 =>
bothK (bldL T.api_Change [(.string (mk [])), (.bool false), (.bool false), (.string (mk [])), (.string (mk []))] 1 [(0, t33)] h5) fun t34 h6 =>
bothK (app T.api_Change 5 56 t32 (srcS 5 t34 h6) h6) fun t35 h7 =>
quietK (st1 h7 a4 t35) fun _ h8 =>
k2 .normal [] h8) (fun k2 =>
bareK (xun P .not a2) h3 fun t38 h9 =>
mc t38 (fun k3 => bareK (ld1 h9 a4) h9 fun t39 h10 =>
bareK (ldN 5 h10 t7) h10 fun t40 h11 =>
bothK (bldL T.api_Change [(.string (mk [])), (.bool false), (.bool false), (.string (mk [])), (.string (mk []))] 1 [(0, t40)] h11) fun t41 h12 =>
bothK (app T.api_Change 5 56 t39 (srcS 5 t41 h12) h12) fun t42 h13 =>
quietK (st1 h13 a4 t42) fun _ h14 =>
k3 .normal [] h14) (fun k3 =>
bareK (fad 2 t6) h9 fun t44 h15 =>
bareK (ld1 h15 t44) h15 fun t45 h16 =>
bareK (fad 1 t7) h16 fun t46 h17 =>
bareK (ld1 h17 t46) h17 fun t47 h18 =>
bareK (xbin P .neq T.bool (.tmp 45) (.tmp 47) t45 t47) h18 fun t48 h19 =>
mg t48 false (fun o4 => bareK (fad 4 t6) h19 o4) h19 fun t50 h20 =>
mg t48 false (fun o5 => bareK (ld1 h20 t50) h20 o5) h20 fun t51 h21 =>
mg t48 false (fun o6 => bareK (fad 3 t7) h21 o6) h21 fun t52 h22 =>
mg t48 false (fun o7 => bareK (ld1 h22 t52) h22 o7) h22 fun t53 h23 =>
mg t48 false (fun o8 => bareK (xbin P .neq T.string (.tmp 51) (.tmp 53) t51 t53) h23 o8) h23 fun t54 h24 =>
pickK t48 (.bool true) t54 fun t55 =>
mc t55 (fun k9 => quietK (st1 h24 a5 (.bool false)) fun _ h25 =>
k9 .normal [] h25) (fun k9 =>
bareK (fad 0 t6) h24 fun t11 h26 =>
bareK (ld1 h26 t11) h26 fun t12 h27 =>
bareK (fad 1 t6) h27 fun t13 h28 =>
bareK (ld1 h28 t13) h28 fun t14 h29 =>
bareK (fad 2 t7) h29 fun t15 h30 =>
bareK (ld1 h30 t15) h30 fun t16 h31 =>
bareK (fad 3 t6) h31 fun t17 h32 =>
bareK (ld1 h32 t17) h32 fun t18 h33 =>
bareK (fad 4 t7) h33 fun t19 h34 =>
bareK (ld1 h34 t19) h34 fun t20 h35 =>
bareK (bldS #[(.string (mk [])), (.bool false), (.bool false), (.string (mk [])), (.string (mk []))] [(0, 1), (1, 1), (2, 1), (3, 1), (4, 1)] [(0, t12), (1, t14), (2, t16), (3, t18), (4, t20)]) h35 fun t21 h36 =>
bothK (newv T.api_Change (.agg #[(.string (mk [])), (.bool false), (.bool false), (.string (mk [])), (.string (mk []))]) h36) fun t10 h37 =>
quietK (stN 5 h37 t10 t21) fun _ h38 =>
bareK (ldN 5 h38 t10) h38 fun t22 h39 =>
enterK C F.delta_same [t22] h39 fun t23 h40 =>
bareK (xun P .not t23) h40 fun t24 h41 =>
mc t24 (fun k10 => bareK (ld1 h41 a4) h41 fun t25 h42 =>
bareK (ldN 5 h42 t10) h42 fun t26 h43 =>
bothK (bldL T.api_Change [(.string (mk [])), (.bool false), (.bool false), (.string (mk [])), (.string (mk []))] 1 [(0, t26)] h43) fun t27 h44 =>
bothK (app T.api_Change 5 56 t25 (srcS 5 t27 h44) h44) fun t28 h45 =>
quietK (st1 h45 a4 t28) fun _ h46 =>
k10 .normal [] h46) (fun k10 =>
k10 .normal [] h41) (afterK [] k9)) (afterK [] k3)) (afterK [] k2)) (blkK [] 0 k1)) K0

theorem s_delta_Together_1_eq (M : CombL) (C : CallF) (LP : LoopH) (a0 : Value) (a1 : Value) (a2 : Value) (a3 : Value) (a4 : Value) (a5 : Value) (H : AHeap) : dBodyL M Try.prog hints C LP F.delta_Together_1 [a0, a1, a2, a3, a4, a5] H = s_delta_Together_1 M.b.g M.c M.s Try.prog C a0 a1 a2 a3 a4 a5 H (endK Try.prog []) := by kernel_rfl

/-! ticketline.delta.Conflicts$1 -/

noncomputable def s_delta_Conflicts_1 (mg : GT) (mc : CT) (ms : ST) (P : Program) (C : CallF) (a0 : Value) (a1 : Value) (a2 : Value) (a3 : Value) (a4 : Value) (H : AHeap) (K0 : K) : Res :=
bothK (newv T.api_Change a0 H) fun t5 h1 =>
bothK (newv T.api_Change a1 h1) fun t6 h2 =>
mg a2 true (fun o1 => o1 a3 h2) h2 fun t11 h3 =>
pickK a2 t11 (.bool false) fun t12 =>
mg t12 true (fun o2 => bareK (ldN 5 h3 t5) h3 o2) h3 fun t14 h4 =>
mg t12 true (fun o3 => bareK (ldN 5 h4 t6) h4 o3) h4 fun t15 h5 =>
mg t12 true (fun o4 => bareK (xbin P .neq T.api_Change (.tmp 14) (.tmp 15) t14 t15) h5 o4) h5 fun t16 h6 =>
pickK t12 t16 (.bool false) fun t17 =>
mc t17 (fun k5 => bareK (ld1 h6 a4) h6 fun t18 h7 =>
bareK (fad 0 t5) h7 fun t19 h8 =>
bareK (ld1 h8 t19) h8 fun t20 h9 =>
bothK (bldL T.string [(.string (mk []))] 1 [(0, t20)] h9) fun t21 h10 =>
bothK (app T.string 1 16 t18 (srcS 1 t21 h10) h10) fun t22 h11 =>
quietK (st1 h11 a4 t22) fun _ h12 =>
k5 .normal [] h12) (fun k5 =>
k5 .normal [] h6) K0

theorem s_delta_Conflicts_1_eq (M : CombL) (C : CallF) (LP : LoopH) (a0 : Value) (a1 : Value) (a2 : Value) (a3 : Value) (a4 : Value) (H : AHeap) : dBodyL M Try.prog hints C LP F.delta_Conflicts_1 [a0, a1, a2, a3, a4] H = s_delta_Conflicts_1 M.b.g M.c M.s Try.prog C a0 a1 a2 a3 a4 H (endK Try.prog []) := by kernel_rfl

/-! ticketline.model.check -/

noncomputable def s_model_check (mg : GT) (mc : CT) (ms : ST) (P : Program) (C : CallF) (a0 : Value) (a1 : Value) (H : AHeap) (K0 : K) : Res :=
ms (fun k1 =>
bareK (xbin P .eql T.string (.tmp 6) (.const (.string (mk []))) a0 (.string (mk []))) H fun t7 h1 =>
mc t7 (fun k2 => k2 .ret [(4, (.int .i64 2))] h1) (fun k2 =>
bareK (lenT a0) h1 fun t10 h2 =>
bareK (xbin P .gtr T.int (.tmp 10) (.const (.int .i64 24)) t10 (.int .i64 24)) h2 fun t11 h3 =>
mg t11 false (fun o3 => o3 a1 h3) h3 fun t13 h4 =>
mg t11 false (fun o4 => enterK C F.slices_ContainsFunc_string [t13, (.func (.func F.model_check_1) #[] #[])] h4 o4) h4 fun t14 h5 =>
pickK t11 (.bool true) t14 fun t15 =>
mc t15 (fun k5 => k5 .ret [(4, (.int .i64 5))] h5) (fun k5 =>
k5 .normal [] h5) (afterK [] k2)) (blkK [] 0 k1)) (seqK (fun tT h6 =>
K0 .ret [(4, (.int .i64 0))] h6) K0)

theorem s_model_check_eq (M : CombL) (C : CallF) (LP : LoopH) (a0 : Value) (a1 : Value) (H : AHeap) : dBodyL M Try.prog hints C LP F.model_check [a0, a1] H = s_model_check M.b.g M.c M.s Try.prog C a0 a1 H (endK Try.prog [.tmp 4]) := by kernel_rfl

/-! slices.BinarySearchFunc[[]ticketline.api.Pair,ticketline.api.Pair,string] -/

noncomputable def s_slices_BinarySearchFunc_string (mg : GT) (mc : CT) (ms : ST) (P : Program) (C : CallF) (L0 : Value → Value → Value → Value → Value → Value → AHeap → K → Res) (a0 : Value) (a1 : Value) (a2 : Value) (H : AHeap) (K0 : K) : Res :=
bareK (lenS a0) H fun t13 h1 =>
ms (fun k1 =>
L0 a0 a1 a2 t13 (.int .i64 0) t13 h1 (blkK [0, 1, 2, 8, 9] 0 k1)) (seqK (fun tT h2 =>
bareK (xbin P .lss T.int (.tmp 36) (.tmp 37) (get tT 9) (get tT 8)) h2 fun t38 h3 =>
mg t38 true (fun o2 => o2 (get tT 2) h3) h3 fun t40 h4 =>
mg t38 true (fun o3 => o3 (get tT 0) h4) h4 fun t41 h5 =>
mg t38 true (fun o4 => o4 (get tT 9) h5) h5 fun t42 h6 =>
mg t38 true (fun o5 => bareK (ixS 2 t41 t42) h6 o5) h6 fun t43 h7 =>
mg t38 true (fun o6 => bareK (ldN 2 h7 t43) h7 o6) h7 fun t44 h8 =>
mg t38 true (fun o7 => o7 (get tT 1) h8) h8 fun t45 h9 =>
mg t38 true (fun o8 => callK P C t40 [t44, t45] h9 o8) h9 fun t46 h10 =>
mg t38 true (fun o9 => bareK (xbin P .eql T.int (.tmp 46) (.const (.int .i64 0)) t46 (.int .i64 0)) h10 o9) h10 fun t47 h11 =>
pickK t38 t47 (.bool false) fun t48 =>
K0 .ret [(6, (get tT 9)), (7, t48)] h11) K0)

noncomputable def s_slices_BinarySearchFunc_string_b0 (mg : GT) (mc : CT) (ms : ST) (P : Program) (C : CallF) (L0 : Value → Value → Value → Value → Value → Value → AHeap → K → Res) (v0 : Value) (v1 : Value) (v2 : Value) (v8 : Value) (v9 : Value) (v10 : Value) (H : AHeap) (k : K) : Res :=
bareK (xbin P .lss T.int (.tmp 15) (.tmp 16) v9 v10) H fun t17 h2 =>
mc t17 (fun k2 => k2 .normal [(0, v0), (1, v1), (2, v2), (8, v8), (9, v9), (10, v10)] h2) (fun k2 =>
k2 (.exit 0) [(17, t17), (16, v10), (15, v9), (0, v0), (1, v1), (2, v2), (8, v8), (9, v9), (10, v10)] h2) (seqK (fun tT h3 =>
ms (fun k3 =>
bareK (xbin P .add T.int (.tmp 18) (.tmp 19) (get tT 9) (get tT 10)) h3 fun t20 h4 =>
bothK (xconv P T.int T.uint t20 h4) fun t21 h5 =>
bareK (xbin P .shr T.uint (.tmp 21) (.const (.int .u64 1)) t21 (.int .u64 1)) h5 fun t22 h6 =>
bothK (xconv P T.uint T.int t22 h6) fun t23 h7 =>
bareK (ixS 2 (get tT 0) t23) h7 fun t27 h8 =>
bareK (ldN 2 h8 t27) h8 fun t28 h9 =>
callK P C (get tT 2) [t28, (get tT 1)] h9 fun t30 h10 =>
bareK (xbin P .lss T.int (.tmp 30) (.const (.int .i64 0)) t30 (.int .i64 0)) h10 fun t31 h11 =>
mc t31 (fun k4 => bareK (xbin P .add T.int (.tmp 32) (.const (.int .i64 1)) t23 (.int .i64 1)) h11 fun t33 h12 =>
k4 .normal [(0, (get tT 0)), (1, (get tT 1)), (2, (get tT 2)), (8, (get tT 8)), (9, t33), (10, (get tT 10))] h12) (fun k4 =>
k4 .normal [(0, (get tT 0)), (1, (get tT 1)), (2, (get tT 2)), (8, (get tT 8)), (9, (get tT 9)), (10, t23)] h11) (blkK [0, 1, 2, 8, 9, 10] 1 k3)) (afterK [0, 1, 2, 8, 9, 10] k)) (afterK [0, 1, 2, 8, 9, 10] k))

theorem s_slices_BinarySearchFunc_string_eq (M : CombL) (C : CallF) (LP : LoopH) (a0 : Value) (a1 : Value) (a2 : Value) (H : AHeap) : dBodyL M Try.prog hints C LP F.slices_BinarySearchFunc_string [a0, a1, a2] H = s_slices_BinarySearchFunc_string M.b.g M.c M.s Try.prog C (fun v0 v1 v2 v8 v9 v10 H k => loopL M Try.prog hints C LP F.slices_BinarySearchFunc_string 0 [(0, v0), (1, v1), (2, v2), (8, v8), (9, v9), (10, v10)] H k) a0 a1 a2 H (endK Try.prog [.tmp 6, .tmp 7]) := by kernel_rfl

theorem s_slices_BinarySearchFunc_string_b0_eq (M : CombL) (C : CallF) (LP : LoopH) (v0 : Value) (v1 : Value) (v2 : Value) (v8 : Value) (v9 : Value) (v10 : Value) (H : AHeap) (k : K) : bodyL M Try.prog hints C LP F.slices_BinarySearchFunc_string 0 [(0, v0), (1, v1), (2, v2), (8, v8), (9, v9), (10, v10)] H (afterK [0, 1, 2, 8, 9, 10] k) = s_slices_BinarySearchFunc_string_b0 M.b.g M.c M.s Try.prog C (fun v0 v1 v2 v8 v9 v10 H k => loopL M Try.prog hints C LP F.slices_BinarySearchFunc_string 0 [(0, v0), (1, v1), (2, v2), (8, v8), (9, v9), (10, v10)] H k) v0 v1 v2 v8 v9 v10 H k := by kernel_rfl

/-! (*ticketline.model.Model).place$1 -/

noncomputable def s_model_Model_place_1 (mg : GT) (mc : CT) (ms : ST) (P : Program) (C : CallF) (a0 : Value) (a1 : Value) (H : AHeap) (K0 : K) : Res :=
bothK (newv T.api_Pair a0 H) fun t2 h1 =>
bareK (fad 0 t2) h1 fun t5 h2 =>
bareK (ld1 h2 t5) h2 fun t6 h3 =>
enterK C F.keys_Compare [t6, a1] h3 fun t8 h4 =>
K0 .ret [(4, t8)] h4

theorem s_model_Model_place_1_eq (M : CombL) (C : CallF) (LP : LoopH) (a0 : Value) (a1 : Value) (H : AHeap) : dBodyL M Try.prog hints C LP F.model_Model_place_1 [a0, a1] H = s_model_Model_place_1 M.b.g M.c M.s Try.prog C a0 a1 H (endK Try.prog [.tmp 4]) := by kernel_rfl

/-! ticketline.keys.Compare -/

noncomputable def s_keys_Compare (mg : GT) (mc : CT) (ms : ST) (P : Program) (C : CallF) (a0 : Value) (a1 : Value) (H : AHeap) (K0 : K) : Res :=
enterK C F.strings_Compare [a0, a1] H fun t7 h1 =>
K0 .ret [(4, t7)] h1

theorem s_keys_Compare_eq (M : CombL) (C : CallF) (LP : LoopH) (a0 : Value) (a1 : Value) (H : AHeap) : dBodyL M Try.prog hints C LP F.keys_Compare [a0, a1] H = s_keys_Compare M.b.g M.c M.s Try.prog C a0 a1 H (endK Try.prog [.tmp 4]) := by kernel_rfl

/-! slices.Insert[[]ticketline.api.Pair,ticketline.api.Pair] -/

noncomputable def s_slices_Insert_Pair (mg : GT) (mc : CT) (ms : ST) (P : Program) (C : CallF) (a0 : Value) (a1 : Value) (a2 : Value) (H : AHeap) (K0 : K) : Res :=
bareK (slS T.api_Pair 2 a0 (some a1) none none H) H fun t12 h1 =>
bareK (lenS a2) h1 fun t14 h2 =>
bareK (xbin P .eql T.int (.tmp 15) (.const (.int .i64 0)) t14 (.int .i64 0)) h2 fun t16 h3 =>
mc t16 (fun k1 => k1 .ret [(6, a0)] h3) (fun k1 =>
k1 .normal [(0, a0), (1, a1), (2, a2), (7, t14)] h3) (seqK (fun tT h4 =>
bareK (lenS (get tT 0)) h4 fun t19 h5 =>
bareK (xbin P .eql T.int (.tmp 20) (.tmp 21) (get tT 1) t19) h5 fun t22 h6 =>
mc t22 (fun k2 => bothK (app T.api_Pair 2 32 (get tT 0) (srcS 2 (get tT 2) h6) h6) fun t25 h7 =>
k2 .ret [(6, t25)] h7) (fun k2 =>
k2 .normal [(0, (get tT 0)), (1, (get tT 1)), (2, (get tT 2)), (7, (get tT 7)), (8, t19)] h6) (seqK (fun tT_1 h8 =>
bareK (xbin P .add T.int (.tmp 26) (.tmp 27) (get tT_1 8) (get tT_1 7)) h8 fun t28 h9 =>
nextK C h9 (xbuiltin P .cap [T.sl_api_Pair] [(get tT_1 0)] h9) fun t30 h10 =>
bareK (xbin P .gtr T.int (.tmp 28) (.tmp 30) t28 t30) h10 fun t31 h11 =>
mc t31 (fun k3 => bareK (slS T.api_Pair 2 (get tT_1 0) none (some (get tT_1 1)) none h11) h11 fun t34 h12 =>
bareK (xbin P .add T.int (.tmp 35) (.tmp 36) (get tT_1 8) (get tT_1 7)) h12 fun t37 h13 =>
bareK (xbin P .sub T.int (.tmp 37) (.tmp 38) t37 (get tT_1 1)) h13 fun t39 h14 =>
bothK (app T.api_Pair 2 32 t34 (srcZ [(.string (mk [])), (.string (mk []))] 32 t39) h14) fun t40 h15 =>
bareK (slS T.api_Pair 2 t40 (some (get tT_1 1)) none none h15) h15 fun t43 h16 =>
bothK (cpy 2 t43 (get tT_1 2) h16) fun t45 h17 =>
bareK (xbin P .add T.int (.tmp 47) (.tmp 48) (get tT_1 1) (get tT_1 7)) h17 fun t49 h18 =>
bareK (slS T.api_Pair 2 t40 (some t49) none none h18) h18 fun t50 h19 =>
bareK (slS T.api_Pair 2 (get tT_1 0) (some (get tT_1 1)) none none h19) h19 fun t53 h20 =>
bothK (cpy 2 t50 t53 h20) fun t54 h21 =>
checkK true <|
k3 .ret [(6, t40)] h21) (fun k3 =>
k3 .normal [(0, (get tT_1 0)), (1, (get tT_1 1)), (2, (get tT_1 2)), (7, (get tT_1 7)), (8, (get tT_1 8))] h11) (seqK (fun tT_2 h22 =>
bareK (xbin P .add T.int (.tmp 57) (.tmp 58) (get tT_2 8) (get tT_2 7)) h22 fun t59 h23 =>
bareK (slS T.api_Pair 2 (get tT_2 0) none (some t59) none h23) h23 fun t60 h24 =>
bareK (xbin P .add T.int (.tmp 63) (.tmp 64) (get tT_2 1) (get tT_2 7)) h24 fun t65 h25 =>
bareK (slS T.api_Pair 2 t60 (some t65) none none h25) h25 fun t66 h26 =>
bareK (xext P Try.f67 [(get tT_2 2), t66] h26) h26 fun t67 h27 =>
bareK (xun P .not t67) h27 fun t68 h28 =>
mc t68 (fun k4 => bareK (xbin P .add T.int (.tmp 70) (.tmp 71) (get tT_2 1) (get tT_2 7)) h28 fun t72 h29 =>
bareK (slS T.api_Pair 2 t60 (some t72) none none h29) h29 fun t73 h30 =>
bareK (slS T.api_Pair 2 t60 (some (get tT_2 1)) none none h30) h30 fun t76 h31 =>
bothK (cpy 2 t73 t76 h31) fun t77 h32 =>
checkK true <|
bareK (slS T.api_Pair 2 t60 (some (get tT_2 1)) none none h32) h32 fun t80 h33 =>
bothK (cpy 2 t80 (get tT_2 2) h33) fun t82 h34 =>
k4 .ret [(6, t60)] h34) (fun k4 =>
k4 .normal [(0, t60), (1, (get tT_2 1)), (2, (get tT_2 2)), (7, (get tT_2 7)), (8, (get tT_2 8))] h28) (seqK (fun tT_3 h35 =>
bareK (slS T.api_Pair 2 (get tT_3 0) (some (get tT_3 8)) none none h35) h35 fun t86 h36 =>
bothK (cpy 2 t86 (get tT_3 2) h36) fun t88 h37 =>
bareK (slS T.api_Pair 2 (get tT_3 0) (some (get tT_3 1)) none none h37) h37 fun t91 h38 =>
enterK C F.slices_rotateRight_Pair [t91, (get tT_3 7)] h38 fun t93 h39 =>
K0 .ret [(6, (get tT_3 0))] h39) K0)) K0)) K0)) K0)

theorem s_slices_Insert_Pair_eq (M : CombL) (C : CallF) (LP : LoopH) (a0 : Value) (a1 : Value) (a2 : Value) (H : AHeap) : dBodyL M Try.prog hints C LP F.slices_Insert_Pair [a0, a1, a2] H = s_slices_Insert_Pair M.b.g M.c M.s Try.prog C a0 a1 a2 H (endK Try.prog [.tmp 6]) := by kernel_rfl

/-! slices.ContainsFunc[[]string,string] -/

noncomputable def s_slices_ContainsFunc_string (mg : GT) (mc : CT) (ms : ST) (P : Program) (C : CallF) (a0 : Value) (a1 : Value) (H : AHeap) (K0 : K) : Res :=
enterK C F.slices_IndexFunc_string [a0, a1] H fun t7 h1 =>
bareK (xbin P .geq T.int (.tmp 7) (.const (.int .i64 0)) t7 (.int .i64 0)) h1 fun t8 h2 =>
K0 .ret [(4, t8)] h2

theorem s_slices_ContainsFunc_string_eq (M : CombL) (C : CallF) (LP : LoopH) (a0 : Value) (a1 : Value) (H : AHeap) : dBodyL M Try.prog hints C LP F.slices_ContainsFunc_string [a0, a1] H = s_slices_ContainsFunc_string M.b.g M.c M.s Try.prog C a0 a1 H (endK Try.prog [.tmp 4]) := by kernel_rfl

/-! ticketline.model.check$1 -/

noncomputable def s_model_check_1 (mg : GT) (mc : CT) (ms : ST) (P : Program) (C : CallF) (a0 : Value) (H : AHeap) (K0 : K) : Res :=
bareK (lenT a0) H fun t4 h1 =>
bareK (xbin P .gtr T.int (.tmp 4) (.const (.int .i64 40)) t4 (.int .i64 40)) h1 fun t5 h2 =>
K0 .ret [(2, t5)] h2

theorem s_model_check_1_eq (M : CombL) (C : CallF) (LP : LoopH) (a0 : Value) (H : AHeap) : dBodyL M Try.prog hints C LP F.model_check_1 [a0] H = s_model_check_1 M.b.g M.c M.s Try.prog C a0 H (endK Try.prog [.tmp 2]) := by kernel_rfl

/-! strings.Compare -/

noncomputable def s_strings_Compare (mg : GT) (mc : CT) (ms : ST) (P : Program) (C : CallF) (a0 : Value) (a1 : Value) (H : AHeap) (K0 : K) : Res :=
enterK C F.internal_bytealg_CompareString [a0, a1] H fun t7 h1 =>
K0 .ret [(4, t7)] h1

theorem s_strings_Compare_eq (M : CombL) (C : CallF) (LP : LoopH) (a0 : Value) (a1 : Value) (H : AHeap) : dBodyL M Try.prog hints C LP F.strings_Compare [a0, a1] H = s_strings_Compare M.b.g M.c M.s Try.prog C a0 a1 H (endK Try.prog [.tmp 4]) := by kernel_rfl

/-! slices.rotateRight[ticketline.api.Pair] -/

noncomputable def s_slices_rotateRight_Pair (mg : GT) (mc : CT) (ms : ST) (P : Program) (C : CallF) (a0 : Value) (a1 : Value) (H : AHeap) (K0 : K) : Res :=
bareK (lenS a0) H fun t6 h1 =>
bareK (xbin P .sub T.int (.tmp 6) (.tmp 7) t6 a1) h1 fun t8 h2 =>
enterK C F.slices_rotateLeft_Pair [a0, t8] h2 fun t9 h3 =>
K0 .normal [(9, t9), (8, t8), (7, a1), (6, t6), (5, a0), (4, a0), (0, a0), (1, a1)] h3

theorem s_slices_rotateRight_Pair_eq (M : CombL) (C : CallF) (LP : LoopH) (a0 : Value) (a1 : Value) (H : AHeap) : dBodyL M Try.prog hints C LP F.slices_rotateRight_Pair [a0, a1] H = s_slices_rotateRight_Pair M.b.g M.c M.s Try.prog C a0 a1 H (endK Try.prog []) := by kernel_rfl

/-! slices.IndexFunc[[]string,string] -/

noncomputable def s_slices_IndexFunc_string (mg : GT) (mc : CT) (ms : ST) (P : Program) (C : CallF) (L0 : Value → Value → Value → Value → AHeap → K → Res) (a0 : Value) (a1 : Value) (H : AHeap) (K0 : K) : Res :=
bareK (lenS a0) H fun t7 h1 =>
ms (fun k1 =>
L0 a0 a1 t7 (.int .i64 0) h1 (blkK [] 0 k1)) (seqK (fun tT h2 =>
K0 .ret [(4, (.int .i64 (-1)))] h2) K0)

noncomputable def s_slices_IndexFunc_string_b0 (mg : GT) (mc : CT) (ms : ST) (P : Program) (C : CallF) (L0 : Value → Value → Value → Value → AHeap → K → Res) (v0 : Value) (v1 : Value) (v7 : Value) (v8 : Value) (H : AHeap) (k : K) : Res :=
bareK (xbin P .lss T.int (.tmp 8) (.tmp 7) v8 v7) H fun t9 h2 =>
mc t9 (fun k2 => k2 .normal [(0, v0), (1, v1), (7, v7), (8, v8)] h2) (fun k2 =>
k2 (.exit 0) [(9, t9), (0, v0), (1, v1), (7, v7), (8, v8)] h2) (seqK (fun tT h3 =>
ms (fun k3 =>
bareK (ixS 1 (get tT 0) (get tT 8)) h3 fun t14 h4 =>
bareK (ld1 h4 t14) h4 fun t15 h5 =>
callK P C (get tT 1) [t15] h5 fun t16 h6 =>
mc t16 (fun k4 => k4 .ret [(4, (get tT 8))] h6) (fun k4 =>
k4 .normal [(0, (get tT 0)), (1, (get tT 1)), (7, (get tT 7)), (8, (get tT 8))] h6) (blkK [0, 1, 7, 8] 1 k3)) (seqK (fun tT_1 h7 =>
bareK (xbin P .add T.int (.tmp 8) (.const (.int .i64 1)) (get tT_1 8) (.int .i64 1)) h7 fun t18 h8 =>
k .normal [(0, (get tT_1 0)), (1, (get tT_1 1)), (7, (get tT_1 7)), (8, t18)] h8) (afterK [0, 1, 7, 8] k))) (afterK [0, 1, 7, 8] k))

theorem s_slices_IndexFunc_string_eq (M : CombL) (C : CallF) (LP : LoopH) (a0 : Value) (a1 : Value) (H : AHeap) : dBodyL M Try.prog hints C LP F.slices_IndexFunc_string [a0, a1] H = s_slices_IndexFunc_string M.b.g M.c M.s Try.prog C (fun v0 v1 v7 v8 H k => loopL M Try.prog hints C LP F.slices_IndexFunc_string 0 [(0, v0), (1, v1), (7, v7), (8, v8)] H k) a0 a1 H (endK Try.prog [.tmp 4]) := by kernel_rfl

theorem s_slices_IndexFunc_string_b0_eq (M : CombL) (C : CallF) (LP : LoopH) (v0 : Value) (v1 : Value) (v7 : Value) (v8 : Value) (H : AHeap) (k : K) : bodyL M Try.prog hints C LP F.slices_IndexFunc_string 0 [(0, v0), (1, v1), (7, v7), (8, v8)] H (afterK [0, 1, 7, 8] k) = s_slices_IndexFunc_string_b0 M.b.g M.c M.s Try.prog C (fun v0 v1 v7 v8 H k => loopL M Try.prog hints C LP F.slices_IndexFunc_string 0 [(0, v0), (1, v1), (7, v7), (8, v8)] H k) v0 v1 v7 v8 H k := by kernel_rfl

/-! internal.bytealg.CompareString -/

noncomputable def s_internal_bytealg_CompareString (mg : GT) (mc : CT) (ms : ST) (P : Program) (C : CallF) (a0 : Value) (a1 : Value) (H : AHeap) (K0 : K) : Res :=
bareK (xext P Try.f72 [a0, a1] H) H fun t7 h1 =>
K0 .ret [(4, t7)] h1

theorem s_internal_bytealg_CompareString_eq (M : CombL) (C : CallF) (LP : LoopH) (a0 : Value) (a1 : Value) (H : AHeap) : dBodyL M Try.prog hints C LP F.internal_bytealg_CompareString [a0, a1] H = s_internal_bytealg_CompareString M.b.g M.c M.s Try.prog C a0 a1 H (endK Try.prog [.tmp 4]) := by kernel_rfl

/-! slices.rotateLeft[ticketline.api.Pair] -/

noncomputable def s_slices_rotateLeft_Pair (mg : GT) (mc : CT) (ms : ST) (P : Program) (C : CallF) (a0 : Value) (a1 : Value) (H : AHeap) (K0 : K) : Res :=
bareK (slS T.api_Pair 2 a0 none (some a1) none H) H fun t6 h1 =>
enterK C F.slices_Reverse_Pair [t6] h1 fun t7 h2 =>
bareK (slS T.api_Pair 2 a0 (some a1) none none h2) h2 fun t10 h3 =>
enterK C F.slices_Reverse_Pair [t10] h3 fun t11 h4 =>
enterK C F.slices_Reverse_Pair [a0] h4 fun t13 h5 =>
K0 .normal [(13, t13), (12, a0), (11, t11), (10, t10), (9, a1), (8, a0), (7, t7), (6, t6), (5, a1), (4, a0), (0, a0), (1, a1)] h5

theorem s_slices_rotateLeft_Pair_eq (M : CombL) (C : CallF) (LP : LoopH) (a0 : Value) (a1 : Value) (H : AHeap) : dBodyL M Try.prog hints C LP F.slices_rotateLeft_Pair [a0, a1] H = s_slices_rotateLeft_Pair M.b.g M.c M.s Try.prog C a0 a1 H (endK Try.prog []) := by kernel_rfl

/-! slices.Reverse[[]ticketline.api.Pair,ticketline.api.Pair] -/

noncomputable def s_slices_Reverse_Pair (mg : GT) (mc : CT) (ms : ST) (P : Program) (C : CallF) (L0 : Value → Value → Value → AHeap → K → Res) (a0 : Value) (H : AHeap) (K0 : K) : Res :=
bareK (lenS a0) H fun t5 h1 =>
bareK (xbin P .sub T.int (.tmp 5) (.const (.int .i64 1)) t5 (.int .i64 1)) h1 fun t6 h2 =>
ms (fun k1 =>
L0 a0 (.int .i64 0) t6 h2 (blkK [] 0 k1)) K0

noncomputable def s_slices_Reverse_Pair_b0 (mg : GT) (mc : CT) (ms : ST) (P : Program) (C : CallF) (L0 : Value → Value → Value → AHeap → K → Res) (v0 : Value) (v2 : Value) (v3 : Value) (H : AHeap) (k : K) : Res :=
bareK (xbin P .lss T.int (.tmp 7) (.tmp 8) v2 v3) H fun t9 h3 =>
mc t9 (fun k2 => k2 .normal [(0, v0), (2, v2), (3, v3)] h3) (fun k2 =>
k2 (.exit 0) [(9, t9), (8, v3), (7, v2), (0, v0), (2, v2), (3, v3)] h3) (seqK (fun tT h4 =>
ms (fun k3 =>
bareK (ixS 2 (get tT 0) (get tT 3)) h4 fun t20 h5 =>
bareK (ldN 2 h5 t20) h5 fun t21 h6 =>
bareK (ixS 2 (get tT 0) (get tT 2)) h6 fun t24 h7 =>
bareK (ldN 2 h7 t24) h7 fun t25 h8 =>
bareK (ixS 2 (get tT 0) (get tT 2)) h8 fun t26 h9 =>
quietK (stN 2 h9 t26 t21) fun _ h10 =>
bareK (ixS 2 (get tT 0) (get tT 3)) h10 fun t27 h11 =>
quietK (stN 2 h11 t27 t25) fun _ h12 =>
checkK (okV (some true) none h9 h10 h4 h4 && (okV (some true) none h9 h10 h4 h4 && true)) <|
k3 .normal [(0, (get tT 0)), (2, (get tT 2)), (3, (get tT 3))] h12) (seqK (fun tT_1 h13 =>
bareK (xbin P .add T.int (.tmp 10) (.const (.int .i64 1)) (get tT_1 2) (.int .i64 1)) h13 fun t11 h14 =>
bareK (xbin P .sub T.int (.tmp 12) (.const (.int .i64 1)) (get tT_1 3) (.int .i64 1)) h14 fun t13 h15 =>
k .normal [(0, (get tT_1 0)), (2, t11), (3, t13)] h15) (afterK [0, 2, 3] k))) (afterK [0, 2, 3] k))

theorem s_slices_Reverse_Pair_eq (M : CombL) (C : CallF) (LP : LoopH) (a0 : Value) (H : AHeap) : dBodyL M Try.prog hints C LP F.slices_Reverse_Pair [a0] H = s_slices_Reverse_Pair M.b.g M.c M.s Try.prog C (fun v0 v2 v3 H k => loopL M Try.prog hints C LP F.slices_Reverse_Pair 0 [(0, v0), (2, v2), (3, v3)] H k) a0 H (endK Try.prog []) := by kernel_rfl

theorem s_slices_Reverse_Pair_b0_eq (M : CombL) (C : CallF) (LP : LoopH) (v0 : Value) (v2 : Value) (v3 : Value) (H : AHeap) (k : K) : bodyL M Try.prog hints C LP F.slices_Reverse_Pair 0 [(0, v0), (2, v2), (3, v3)] H (afterK [0, 2, 3] k) = s_slices_Reverse_Pair_b0 M.b.g M.c M.s Try.prog C (fun v0 v2 v3 H k => loopL M Try.prog hints C LP F.slices_Reverse_Pair 0 [(0, v0), (2, v2), (3, v3)] H k) v0 v2 v3 H k := by kernel_rfl

end Go.Proofs.Ytlbieadnfgfhlaa

/-
  The equations of the seat's functions over calls in the limit (a program of ours printed it).
  Conditions: none. By an AI agent.
-/
set_option linter.unusedVariables false
namespace Go.Proofs.Ytlbieadnfgfhlaa
open Go Eng

theorem u_int : Try.prog.underlying T.int = Try.prog.underlying 3 := rfl
theorem u_bool : Try.prog.underlying T.bool = Try.prog.underlying 4 := rfl
theorem u_string : Try.prog.underlying T.string = Try.prog.underlying 9 := rfl
theorem u_sl_api_Change : Try.prog.underlying T.sl_api_Change = Try.prog.underlying 22 := rfl
theorem u_api_Change : Try.prog.underlying T.api_Change = Try.prog.underlying 26 := rfl
theorem u_sl_string : Try.prog.underlying T.sl_string = Try.prog.underlying 31 := rfl
theorem u_p_model_Model : Try.prog.underlying T.p_model_Model = Try.prog.underlying 38 := rfl
theorem u_api_Pair : Try.prog.underlying T.api_Pair = Try.prog.underlying 41 := rfl
theorem u_sl_api_Pair : Try.prog.underlying T.sl_api_Pair = Try.prog.underlying 42 := rfl
theorem u_api_Errno : Try.prog.underlying T.api_Errno = Try.prog.underlying 43 := rfl
theorem u_model_Model : Try.prog.underlying T.model_Model = Try.prog.underlying 69 := rfl
theorem u_uint : Try.prog.underlying T.uint = Try.prog.underlying 92 := rfl
@[go_sem] theorem x_int_uint {n : Int} {H : AHeap} : xconv Try.prog T.int T.uint (.int .i64 n) H = some (.int .u64 (IntKind.wrap .u64 n), H) := xconv_int (P := Try.prog) (s := 3) (t := 92) Try.underlying3 Try.underlying92
@[go_sem] theorem x_uint_int {n : Int} {H : AHeap} : xconv Try.prog T.uint T.int (.int .u64 n) H = some (.int .i64 (IntKind.wrap .i64 n), H) := xconv_int (P := Try.prog) (s := 92) (t := 3) Try.underlying92 Try.underlying3
theorem c_model_Model_Len {call : CallF} {x c : Array Value} {args : List Value} {H : AHeap} {k : Value → AHeap → Res} : callK Try.prog call (.func (.func F.model_Model_Len) x c) args H k = enterK call F.model_Model_Len (x.toList ++ args ++ c.toList) H k := by kernel_rfl
theorem c_model_Model_place {call : CallF} {x c : Array Value} {args : List Value} {H : AHeap} {k : Value → AHeap → Res} : callK Try.prog call (.func (.func F.model_Model_place) x c) args H k = enterK call F.model_Model_place (x.toList ++ args ++ c.toList) H k := by kernel_rfl
theorem c_delta_Of_1 {call : CallF} {x c : Array Value} {args : List Value} {H : AHeap} {k : Value → AHeap → Res} : callK Try.prog call (.func (.func F.delta_Of_1) x c) args H k = enterK call F.delta_Of_1 (x.toList ++ args ++ c.toList) H k := by kernel_rfl
theorem c_delta_Merge_1 {call : CallF} {x c : Array Value} {args : List Value} {H : AHeap} {k : Value → AHeap → Res} : callK Try.prog call (.func (.func F.delta_Merge_1) x c) args H k = enterK call F.delta_Merge_1 (x.toList ++ args ++ c.toList) H k := by kernel_rfl
theorem c_delta_Together_1 {call : CallF} {x c : Array Value} {args : List Value} {H : AHeap} {k : Value → AHeap → Res} : callK Try.prog call (.func (.func F.delta_Together_1) x c) args H k = enterK call F.delta_Together_1 (x.toList ++ args ++ c.toList) H k := by kernel_rfl
theorem c_delta_Conflicts_1 {call : CallF} {x c : Array Value} {args : List Value} {H : AHeap} {k : Value → AHeap → Res} : callK Try.prog call (.func (.func F.delta_Conflicts_1) x c) args H k = enterK call F.delta_Conflicts_1 (x.toList ++ args ++ c.toList) H k := by kernel_rfl
theorem c_model_Model_place_1 {call : CallF} {x c : Array Value} {args : List Value} {H : AHeap} {k : Value → AHeap → Res} : callK Try.prog call (.func (.func F.model_Model_place_1) x c) args H k = enterK call F.model_Model_place_1 (x.toList ++ args ++ c.toList) H k := by kernel_rfl
theorem c_model_check_1 {call : CallF} {x c : Array Value} {args : List Value} {H : AHeap} {k : Value → AHeap → Res} : callK Try.prog call (.func (.func F.model_check_1) x c) args H k = enterK call F.model_check_1 (x.toList ++ args ++ c.toList) H k := by kernel_rfl

noncomputable def l_law_small_0 (v0 : Value) (v3 : Value) (H : AHeap) (k : K) : Res := loopL stdL Try.prog hints CC limLP F.law_small 0 [(0, v0), (3, v3)] H k
theorem r_law_small_0 (v0 : Value) (v3 : Value) (H : AHeap) (k : K) : l_law_small_0 v0 v3 H k = s_law_small_b0 guardK condL shareL Try.prog CC l_law_small_0 v0 v3 H (seqK (fun T H => l_law_small_0 (get T 0) (get T 3) H k) k) := ((loopL_next (by kernel_rfl) rfl H k).trans (s_law_small_b0_eq stdL CC limLP v0 v3 H _)).trans (by kernel_rfl)
theorem d_law_small (a0 : Value) (H : AHeap) {r : Value × AHeap} (h : s_law_small guardK condL shareL Try.prog CC l_law_small_0 a0 H (endK Try.prog [.tmp 2]) = some r) : CC F.law_small [a0] H = some (tidy H r) := D_body (by kernel_rfl) ((s_law_small_eq stdL CC limLP a0 H).trans (Eq.trans (show s_law_small stdL.b.g stdL.c stdL.s Try.prog CC (fun v0 v3 H k => loopL stdL Try.prog hints CC limLP F.law_small 0 [(0, v0), (3, v3)] H k) a0 H (endK Try.prog [.tmp 2]) = s_law_small guardK condL shareL Try.prog CC l_law_small_0 a0 H (endK Try.prog [.tmp 2]) by kernel_rfl) h))

noncomputable def l_law_find_0 (v0 : Value) (v1 : Value) (v4 : Value) (v6 : Value) (H : AHeap) (k : K) : Res := loopL stdL Try.prog hints CC limLP F.law_find 0 [(0, v0), (1, v1), (4, v4), (6, v6)] H k
theorem r_law_find_0 (v0 : Value) (v1 : Value) (v4 : Value) (v6 : Value) (H : AHeap) (k : K) : l_law_find_0 v0 v1 v4 v6 H k = s_law_find_b0 guardK condL shareL Try.prog CC l_law_find_0 v0 v1 v4 v6 H (seqK (fun T H => l_law_find_0 (get T 0) (get T 1) (get T 4) (get T 6) H k) k) := ((loopL_next (by kernel_rfl) rfl H k).trans (s_law_find_b0_eq stdL CC limLP v0 v1 v4 v6 H _)).trans (by kernel_rfl)
theorem d_law_find (a0 : Value) (a1 : Value) (H : AHeap) {r : Value × AHeap} (h : s_law_find guardK condL shareL Try.prog CC l_law_find_0 a0 a1 H (endK Try.prog [.cell 4 T.api_Change, .tmp 5]) = some r) : CC F.law_find [a0, a1] H = some (tidy H r) := D_body (by kernel_rfl) ((s_law_find_eq stdL CC limLP a0 a1 H).trans (Eq.trans (show s_law_find stdL.b.g stdL.c stdL.s Try.prog CC (fun v0 v1 v4 v6 H k => loopL stdL Try.prog hints CC limLP F.law_find 0 [(0, v0), (1, v1), (4, v4), (6, v6)] H k) a0 a1 H (endK Try.prog [.cell 4 T.api_Change, .tmp 5]) = s_law_find guardK condL shareL Try.prog CC l_law_find_0 a0 a1 H (endK Try.prog [.cell 4 T.api_Change, .tmp 5]) by kernel_rfl) h))

noncomputable def l_law_valid_0 (v0 : Value) (v3 : Value) (H : AHeap) (k : K) : Res := loopL stdL Try.prog hints CC limLP F.law_valid 0 [(0, v0), (3, v3)] H k
theorem r_law_valid_0 (v0 : Value) (v3 : Value) (H : AHeap) (k : K) : l_law_valid_0 v0 v3 H k = s_law_valid_b0 guardK condL shareL Try.prog CC l_law_valid_0 v0 v3 H (seqK (fun T H => l_law_valid_0 (get T 0) (get T 3) H k) k) := ((loopL_next (by kernel_rfl) rfl H k).trans (s_law_valid_b0_eq stdL CC limLP v0 v3 H _)).trans (by kernel_rfl)
theorem d_law_valid (a0 : Value) (H : AHeap) {r : Value × AHeap} (h : s_law_valid guardK condL shareL Try.prog CC l_law_valid_0 a0 H (endK Try.prog [.tmp 2]) = some r) : CC F.law_valid [a0] H = some (tidy H r) := D_body (by kernel_rfl) ((s_law_valid_eq stdL CC limLP a0 H).trans (Eq.trans (show s_law_valid stdL.b.g stdL.c stdL.s Try.prog CC (fun v0 v3 H k => loopL stdL Try.prog hints CC limLP F.law_valid 0 [(0, v0), (3, v3)] H k) a0 H (endK Try.prog [.tmp 2]) = s_law_valid guardK condL shareL Try.prog CC l_law_valid_0 a0 H (endK Try.prog [.tmp 2]) by kernel_rfl) h))

theorem d_law_togethers (a0 : Value) (a1 : Value) (a2 : Value) (a3 : Value) (H : AHeap) {r : Value × AHeap} (h : s_law_togethers guardK condL shareL Try.prog CC a0 a1 a2 a3 H (endK Try.prog [.tmp 8]) = some r) : CC F.law_togethers [a0, a1, a2, a3] H = some (tidy H r) := D_body (by kernel_rfl) ((s_law_togethers_eq stdL CC limLP a0 a1 a2 a3 H).trans (Eq.trans (show s_law_togethers stdL.b.g stdL.c stdL.s Try.prog CC a0 a1 a2 a3 H (endK Try.prog [.tmp 8]) = s_law_togethers guardK condL shareL Try.prog CC a0 a1 a2 a3 H (endK Try.prog [.tmp 8]) by kernel_rfl) h))

theorem d_law_merges (a0 : Value) (a1 : Value) (a2 : Value) (a3 : Value) (H : AHeap) {r : Value × AHeap} (h : s_law_merges guardK condL shareL Try.prog CC a0 a1 a2 a3 H (endK Try.prog [.tmp 8]) = some r) : CC F.law_merges [a0, a1, a2, a3] H = some (tidy H r) := D_body (by kernel_rfl) ((s_law_merges_eq stdL CC limLP a0 a1 a2 a3 H).trans (Eq.trans (show s_law_merges stdL.b.g stdL.c stdL.s Try.prog CC a0 a1 a2 a3 H (endK Try.prog [.tmp 8]) = s_law_merges guardK condL shareL Try.prog CC a0 a1 a2 a3 H (endK Try.prog [.tmp 8]) by kernel_rfl) h))

noncomputable def l_law_conflicts_0 (v2 : Value) (v9 : Value) (v11 : Value) (H : AHeap) (k : K) : Res := loopL stdL Try.prog hints CC limLP F.law_conflicts 0 [(2, v2), (9, v9), (11, v11)] H k
theorem r_law_conflicts_0 (v2 : Value) (v9 : Value) (v11 : Value) (H : AHeap) (k : K) : l_law_conflicts_0 v2 v9 v11 H k = s_law_conflicts_b0 guardK condL shareL Try.prog CC l_law_conflicts_0 v2 v9 v11 H (seqK (fun T H => l_law_conflicts_0 (get T 2) (get T 9) (get T 11) H k) k) := ((loopL_next (by kernel_rfl) rfl H k).trans (s_law_conflicts_b0_eq stdL CC limLP v2 v9 v11 H _)).trans (by kernel_rfl)
theorem d_law_conflicts (a0 : Value) (a1 : Value) (a2 : Value) (a3 : Value) (H : AHeap) {r : Value × AHeap} (h : s_law_conflicts guardK condL shareL Try.prog CC l_law_conflicts_0 a0 a1 a2 a3 H (endK Try.prog [.tmp 8]) = some r) : CC F.law_conflicts [a0, a1, a2, a3] H = some (tidy H r) := D_body (by kernel_rfl) ((s_law_conflicts_eq stdL CC limLP a0 a1 a2 a3 H).trans (Eq.trans (show s_law_conflicts stdL.b.g stdL.c stdL.s Try.prog CC (fun v2 v9 v11 H k => loopL stdL Try.prog hints CC limLP F.law_conflicts 0 [(2, v2), (9, v9), (11, v11)] H k) a0 a1 a2 a3 H (endK Try.prog [.tmp 8]) = s_law_conflicts guardK condL shareL Try.prog CC l_law_conflicts_0 a0 a1 a2 a3 H (endK Try.prog [.tmp 8]) by kernel_rfl) h))

noncomputable def l_law_keys_0 (v0 : Value) (v1 : Value) (v5 : Value) (v6 : Value) (H : AHeap) (k : K) : Res := loopL stdL Try.prog hints CC limLP F.law_keys 0 [(0, v0), (1, v1), (5, v5), (6, v6)] H k
noncomputable def l_law_keys_1 (v1 : Value) (v5 : Value) (v7 : Value) (H : AHeap) (k : K) : Res := loopL stdL Try.prog hints CC limLP F.law_keys 1 [(1, v1), (5, v5), (7, v7)] H k
noncomputable def l_law_keys_2 (v8 : Value) (v9 : Value) (v10 : Value) (H : AHeap) (k : K) : Res := loopL stdL Try.prog hints CC limLP F.law_keys 2 [(8, v8), (9, v9), (10, v10)] H k
theorem r_law_keys_0 (v0 : Value) (v1 : Value) (v5 : Value) (v6 : Value) (H : AHeap) (k : K) : l_law_keys_0 v0 v1 v5 v6 H k = s_law_keys_b0 guardK condL shareL Try.prog CC l_law_keys_0 l_law_keys_1 l_law_keys_2 v0 v1 v5 v6 H (seqK (fun T H => l_law_keys_0 (get T 0) (get T 1) (get T 5) (get T 6) H k) k) := ((loopL_next (by kernel_rfl) rfl H k).trans (s_law_keys_b0_eq stdL CC limLP v0 v1 v5 v6 H _)).trans (by kernel_rfl)
theorem r_law_keys_1 (v1 : Value) (v5 : Value) (v7 : Value) (H : AHeap) (k : K) : l_law_keys_1 v1 v5 v7 H k = s_law_keys_b1 guardK condL shareL Try.prog CC l_law_keys_0 l_law_keys_1 l_law_keys_2 v1 v5 v7 H (seqK (fun T H => l_law_keys_1 (get T 1) (get T 5) (get T 7) H k) k) := ((loopL_next (by kernel_rfl) rfl H k).trans (s_law_keys_b1_eq stdL CC limLP v1 v5 v7 H _)).trans (by kernel_rfl)
theorem r_law_keys_2 (v8 : Value) (v9 : Value) (v10 : Value) (H : AHeap) (k : K) : l_law_keys_2 v8 v9 v10 H k = s_law_keys_b2 guardK condL shareL Try.prog CC l_law_keys_0 l_law_keys_1 l_law_keys_2 v8 v9 v10 H (seqK (fun T H => l_law_keys_2 (get T 8) (get T 9) (get T 10) H k) k) := ((loopL_next (by kernel_rfl) rfl H k).trans (s_law_keys_b2_eq stdL CC limLP v8 v9 v10 H _)).trans (by kernel_rfl)
theorem d_law_keys (a0 : Value) (a1 : Value) (H : AHeap) {r : Value × AHeap} (h : s_law_keys guardK condL shareL Try.prog CC l_law_keys_0 l_law_keys_1 l_law_keys_2 a0 a1 H (endK Try.prog [.tmp 4]) = some r) : CC F.law_keys [a0, a1] H = some (tidy H r) := D_body (by kernel_rfl) ((s_law_keys_eq stdL CC limLP a0 a1 H).trans (Eq.trans (show s_law_keys stdL.b.g stdL.c stdL.s Try.prog CC (fun v0 v1 v5 v6 H k => loopL stdL Try.prog hints CC limLP F.law_keys 0 [(0, v0), (1, v1), (5, v5), (6, v6)] H k) (fun v1 v5 v7 H k => loopL stdL Try.prog hints CC limLP F.law_keys 1 [(1, v1), (5, v5), (7, v7)] H k) (fun v8 v9 v10 H k => loopL stdL Try.prog hints CC limLP F.law_keys 2 [(8, v8), (9, v9), (10, v10)] H k) a0 a1 H (endK Try.prog [.tmp 4]) = s_law_keys guardK condL shareL Try.prog CC l_law_keys_0 l_law_keys_1 l_law_keys_2 a0 a1 H (endK Try.prog [.tmp 4]) by kernel_rfl) h))

theorem d_law_none (a0 : Value) (H : AHeap) {r : Value × AHeap} (h : s_law_none guardK condL shareL Try.prog CC a0 H (endK Try.prog [.tmp 2]) = some r) : CC F.law_none [a0] H = some (tidy H r) := D_body (by kernel_rfl) ((s_law_none_eq stdL CC limLP a0 H).trans (Eq.trans (show s_law_none stdL.b.g stdL.c stdL.s Try.prog CC a0 H (endK Try.prog [.tmp 2]) = s_law_none guardK condL shareL Try.prog CC a0 H (endK Try.prog [.tmp 2]) by kernel_rfl) h))

theorem d_law_comes (a0 : Value) (a1 : Value) (H : AHeap) {r : Value × AHeap} (h : s_law_comes guardK condL shareL Try.prog CC a0 a1 H (endK Try.prog [.cell 4 T.api_Change]) = some r) : CC F.law_comes [a0, a1] H = some (tidy H r) := D_body (by kernel_rfl) ((s_law_comes_eq stdL CC limLP a0 a1 H).trans (Eq.trans (show s_law_comes stdL.b.g stdL.c stdL.s Try.prog CC a0 a1 H (endK Try.prog [.cell 4 T.api_Change]) = s_law_comes guardK condL shareL Try.prog CC a0 a1 H (endK Try.prog [.cell 4 T.api_Change]) by kernel_rfl) h))

noncomputable def l_delta_Valid_0 (v0 : Value) (v8 : Value) (v9 : Value) (v10 : Value) (H : AHeap) (k : K) : Res := loopL stdL Try.prog hints CC limLP F.delta_Valid 0 [(0, v0), (8, v8), (9, v9), (10, v10)] H k
theorem r_delta_Valid_0 (v0 : Value) (v8 : Value) (v9 : Value) (v10 : Value) (H : AHeap) (k : K) : l_delta_Valid_0 v0 v8 v9 v10 H k = s_delta_Valid_b0 guardK condL shareL Try.prog CC l_delta_Valid_0 v0 v8 v9 v10 H (seqK (fun T H => l_delta_Valid_0 (get T 0) (get T 8) (get T 9) (get T 10) H k) k) := ((loopL_next (by kernel_rfl) rfl H k).trans (s_delta_Valid_b0_eq stdL CC limLP v0 v8 v9 v10 H _)).trans (by kernel_rfl)
theorem d_delta_Valid (a0 : Value) (H : AHeap) {r : Value × AHeap} (h : s_delta_Valid guardK condL shareL Try.prog CC l_delta_Valid_0 a0 H (endK Try.prog [.tmp 2]) = some r) : CC F.delta_Valid [a0] H = some (tidy H r) := D_body (by kernel_rfl) ((s_delta_Valid_eq stdL CC limLP a0 H).trans (Eq.trans (show s_delta_Valid stdL.b.g stdL.c stdL.s Try.prog CC (fun v0 v8 v9 v10 H k => loopL stdL Try.prog hints CC limLP F.delta_Valid 0 [(0, v0), (8, v8), (9, v9), (10, v10)] H k) a0 H (endK Try.prog [.tmp 2]) = s_delta_Valid guardK condL shareL Try.prog CC l_delta_Valid_0 a0 H (endK Try.prog [.tmp 2]) by kernel_rfl) h))

theorem d_law_reverses (a0 : Value) (a1 : Value) (a2 : Value) (H : AHeap) {r : Value × AHeap} (h : s_law_reverses guardK condL shareL Try.prog CC a0 a1 a2 H (endK Try.prog [.tmp 6]) = some r) : CC F.law_reverses [a0, a1, a2] H = some (tidy H r) := D_body (by kernel_rfl) ((s_law_reverses_eq stdL CC limLP a0 a1 a2 H).trans (Eq.trans (show s_law_reverses stdL.b.g stdL.c stdL.s Try.prog CC a0 a1 a2 H (endK Try.prog [.tmp 6]) = s_law_reverses guardK condL shareL Try.prog CC a0 a1 a2 H (endK Try.prog [.tmp 6]) by kernel_rfl) h))

noncomputable def l_law_filled_0 (v0 : Value) (v3 : Value) (v4 : Value) (H : AHeap) (k : K) : Res := loopL stdL Try.prog hints CC limLP F.law_filled 0 [(0, v0), (3, v3), (4, v4)] H k
theorem r_law_filled_0 (v0 : Value) (v3 : Value) (v4 : Value) (H : AHeap) (k : K) : l_law_filled_0 v0 v3 v4 H k = s_law_filled_b0 guardK condL shareL Try.prog CC l_law_filled_0 v0 v3 v4 H (seqK (fun T H => l_law_filled_0 (get T 0) (get T 3) (get T 4) H k) k) := ((loopL_next (by kernel_rfl) rfl H k).trans (s_law_filled_b0_eq stdL CC limLP v0 v3 v4 H _)).trans (by kernel_rfl)
theorem d_law_filled (a0 : Value) (H : AHeap) {r : Value × AHeap} (h : s_law_filled guardK condL shareL Try.prog CC l_law_filled_0 a0 H (endK Try.prog [.tmp 2]) = some r) : CC F.law_filled [a0] H = some (tidy H r) := D_body (by kernel_rfl) ((s_law_filled_eq stdL CC limLP a0 H).trans (Eq.trans (show s_law_filled stdL.b.g stdL.c stdL.s Try.prog CC (fun v0 v3 v4 H k => loopL stdL Try.prog hints CC limLP F.law_filled 0 [(0, v0), (3, v3), (4, v4)] H k) a0 H (endK Try.prog [.tmp 2]) = s_law_filled guardK condL shareL Try.prog CC l_law_filled_0 a0 H (endK Try.prog [.tmp 2]) by kernel_rfl) h))

noncomputable def l_delta_Apply_0 (v0 : Value) (v1 : Value) (v5 : Value) (v26 : Value) (v27 : Value) (v28 : Value) (H : AHeap) (k : K) : Res := loopL stdL Try.prog hints CC limLP F.delta_Apply 0 [(0, v0), (1, v1), (5, v5), (26, v26), (27, v27), (28, v28)] H k
noncomputable def l_delta_Apply_1 (v0 : Value) (v1 : Value) (v51 : Value) (v52 : Value) (v53 : Value) (H : AHeap) (k : K) : Res := loopL stdL Try.prog hints CC limLP F.delta_Apply 1 [(0, v0), (1, v1), (51, v51), (52, v52), (53, v53)] H k
noncomputable def l_delta_Apply_2 (v0 : Value) (v65 : Value) (v66 : Value) (v67 : Value) (H : AHeap) (k : K) : Res := loopL stdL Try.prog hints CC limLP F.delta_Apply 2 [(0, v0), (65, v65), (66, v66), (67, v67)] H k
theorem r_delta_Apply_0 (v0 : Value) (v1 : Value) (v5 : Value) (v26 : Value) (v27 : Value) (v28 : Value) (H : AHeap) (k : K) : l_delta_Apply_0 v0 v1 v5 v26 v27 v28 H k = s_delta_Apply_b0 guardK condL shareL Try.prog CC l_delta_Apply_0 l_delta_Apply_1 l_delta_Apply_2 v0 v1 v5 v26 v27 v28 H (seqK (fun T H => l_delta_Apply_0 (get T 0) (get T 1) (get T 5) (get T 26) (get T 27) (get T 28) H k) k) := ((loopL_next (by kernel_rfl) rfl H k).trans (s_delta_Apply_b0_eq stdL CC limLP v0 v1 v5 v26 v27 v28 H _)).trans (by kernel_rfl)
theorem r_delta_Apply_1 (v0 : Value) (v1 : Value) (v51 : Value) (v52 : Value) (v53 : Value) (H : AHeap) (k : K) : l_delta_Apply_1 v0 v1 v51 v52 v53 H k = s_delta_Apply_b1 guardK condL shareL Try.prog CC l_delta_Apply_0 l_delta_Apply_1 l_delta_Apply_2 v0 v1 v51 v52 v53 H (seqK (fun T H => l_delta_Apply_1 (get T 0) (get T 1) (get T 51) (get T 52) (get T 53) H k) k) := ((loopL_next (by kernel_rfl) rfl H k).trans (s_delta_Apply_b1_eq stdL CC limLP v0 v1 v51 v52 v53 H _)).trans (by kernel_rfl)
theorem r_delta_Apply_2 (v0 : Value) (v65 : Value) (v66 : Value) (v67 : Value) (H : AHeap) (k : K) : l_delta_Apply_2 v0 v65 v66 v67 H k = s_delta_Apply_b2 guardK condL shareL Try.prog CC l_delta_Apply_0 l_delta_Apply_1 l_delta_Apply_2 v0 v65 v66 v67 H (seqK (fun T H => l_delta_Apply_2 (get T 0) (get T 65) (get T 66) (get T 67) H k) k) := ((loopL_next (by kernel_rfl) rfl H k).trans (s_delta_Apply_b2_eq stdL CC limLP v0 v65 v66 v67 H _)).trans (by kernel_rfl)
theorem d_delta_Apply (a0 : Value) (a1 : Value) (H : AHeap) {r : Value × AHeap} (h : s_delta_Apply guardK condL shareL Try.prog CC l_delta_Apply_0 l_delta_Apply_1 l_delta_Apply_2 a0 a1 H (endK Try.prog [.tmp 4]) = some r) : CC F.delta_Apply [a0, a1] H = some (tidy H r) := D_body (by kernel_rfl) ((s_delta_Apply_eq stdL CC limLP a0 a1 H).trans (Eq.trans (show s_delta_Apply stdL.b.g stdL.c stdL.s Try.prog CC (fun v0 v1 v5 v26 v27 v28 H k => loopL stdL Try.prog hints CC limLP F.delta_Apply 0 [(0, v0), (1, v1), (5, v5), (26, v26), (27, v27), (28, v28)] H k) (fun v0 v1 v51 v52 v53 H k => loopL stdL Try.prog hints CC limLP F.delta_Apply 1 [(0, v0), (1, v1), (51, v51), (52, v52), (53, v53)] H k) (fun v0 v65 v66 v67 H k => loopL stdL Try.prog hints CC limLP F.delta_Apply 2 [(0, v0), (65, v65), (66, v66), (67, v67)] H k) a0 a1 H (endK Try.prog [.tmp 4]) = s_delta_Apply guardK condL shareL Try.prog CC l_delta_Apply_0 l_delta_Apply_1 l_delta_Apply_2 a0 a1 H (endK Try.prog [.tmp 4]) by kernel_rfl) h))

theorem d_model_Model_Len (a0 : Value) (H : AHeap) {r : Value × AHeap} (h : s_model_Model_Len guardK condL shareL Try.prog CC a0 H (endK Try.prog [.tmp 2]) = some r) : CC F.model_Model_Len [a0] H = some (tidy H r) := D_body (by kernel_rfl) ((s_model_Model_Len_eq stdL CC limLP a0 H).trans (Eq.trans (show s_model_Model_Len stdL.b.g stdL.c stdL.s Try.prog CC a0 H (endK Try.prog [.tmp 2]) = s_model_Model_Len guardK condL shareL Try.prog CC a0 H (endK Try.prog [.tmp 2]) by kernel_rfl) h))

noncomputable def l_law_pairs_0 (v0 : Value) (v1 : Value) (v5 : Value) (H : AHeap) (k : K) : Res := loopL stdL Try.prog hints CC limLP F.law_pairs 0 [(0, v0), (1, v1), (5, v5)] H k
theorem r_law_pairs_0 (v0 : Value) (v1 : Value) (v5 : Value) (H : AHeap) (k : K) : l_law_pairs_0 v0 v1 v5 H k = s_law_pairs_b0 guardK condL shareL Try.prog CC l_law_pairs_0 v0 v1 v5 H (seqK (fun T H => l_law_pairs_0 (get T 0) (get T 1) (get T 5) H k) k) := ((loopL_next (by kernel_rfl) rfl H k).trans (s_law_pairs_b0_eq stdL CC limLP v0 v1 v5 H _)).trans (by kernel_rfl)
theorem d_law_pairs (a0 : Value) (a1 : Value) (H : AHeap) {r : Value × AHeap} (h : s_law_pairs guardK condL shareL Try.prog CC l_law_pairs_0 a0 a1 H (endK Try.prog [.tmp 4]) = some r) : CC F.law_pairs [a0, a1] H = some (tidy H r) := D_body (by kernel_rfl) ((s_law_pairs_eq stdL CC limLP a0 a1 H).trans (Eq.trans (show s_law_pairs stdL.b.g stdL.c stdL.s Try.prog CC (fun v0 v1 v5 H k => loopL stdL Try.prog hints CC limLP F.law_pairs 0 [(0, v0), (1, v1), (5, v5)] H k) a0 a1 H (endK Try.prog [.tmp 4]) = s_law_pairs guardK condL shareL Try.prog CC l_law_pairs_0 a0 a1 H (endK Try.prog [.tmp 4]) by kernel_rfl) h))

noncomputable def l_law_between_0 (v0 : Value) (v1 : Value) (v5 : Value) (v6 : Value) (v7 : Value) (H : AHeap) (k : K) : Res := loopL stdL Try.prog hints CC limLP F.law_between 0 [(0, v0), (1, v1), (5, v5), (6, v6), (7, v7)] H k
noncomputable def l_law_between_1 (v0 : Value) (v1 : Value) (v6 : Value) (v8 : Value) (v9 : Value) (H : AHeap) (k : K) : Res := loopL stdL Try.prog hints CC limLP F.law_between 1 [(0, v0), (1, v1), (6, v6), (8, v8), (9, v9)] H k
theorem r_law_between_0 (v0 : Value) (v1 : Value) (v5 : Value) (v6 : Value) (v7 : Value) (H : AHeap) (k : K) : l_law_between_0 v0 v1 v5 v6 v7 H k = s_law_between_b0 guardK condL shareL Try.prog CC l_law_between_0 l_law_between_1 v0 v1 v5 v6 v7 H (seqK (fun T H => l_law_between_0 (get T 0) (get T 1) (get T 5) (get T 6) (get T 7) H k) k) := ((loopL_next (by kernel_rfl) rfl H k).trans (s_law_between_b0_eq stdL CC limLP v0 v1 v5 v6 v7 H _)).trans (by kernel_rfl)
theorem r_law_between_1 (v0 : Value) (v1 : Value) (v6 : Value) (v8 : Value) (v9 : Value) (H : AHeap) (k : K) : l_law_between_1 v0 v1 v6 v8 v9 H k = s_law_between_b1 guardK condL shareL Try.prog CC l_law_between_0 l_law_between_1 v0 v1 v6 v8 v9 H (seqK (fun T H => l_law_between_1 (get T 0) (get T 1) (get T 6) (get T 8) (get T 9) H k) k) := ((loopL_next (by kernel_rfl) rfl H k).trans (s_law_between_b1_eq stdL CC limLP v0 v1 v6 v8 v9 H _)).trans (by kernel_rfl)
theorem d_law_between (a0 : Value) (a1 : Value) (H : AHeap) {r : Value × AHeap} (h : s_law_between guardK condL shareL Try.prog CC l_law_between_0 l_law_between_1 a0 a1 H (endK Try.prog [.tmp 4]) = some r) : CC F.law_between [a0, a1] H = some (tidy H r) := D_body (by kernel_rfl) ((s_law_between_eq stdL CC limLP a0 a1 H).trans (Eq.trans (show s_law_between stdL.b.g stdL.c stdL.s Try.prog CC (fun v0 v1 v5 v6 v7 H k => loopL stdL Try.prog hints CC limLP F.law_between 0 [(0, v0), (1, v1), (5, v5), (6, v6), (7, v7)] H k) (fun v0 v1 v6 v8 v9 H k => loopL stdL Try.prog hints CC limLP F.law_between 1 [(0, v0), (1, v1), (6, v6), (8, v8), (9, v9)] H k) a0 a1 H (endK Try.prog [.tmp 4]) = s_law_between guardK condL shareL Try.prog CC l_law_between_0 l_law_between_1 a0 a1 H (endK Try.prog [.tmp 4]) by kernel_rfl) h))

theorem d_law_ofs (a0 : Value) (a1 : Value) (a2 : Value) (a3 : Value) (H : AHeap) {r : Value × AHeap} (h : s_law_ofs guardK condL shareL Try.prog CC a0 a1 a2 a3 H (endK Try.prog [.tmp 8]) = some r) : CC F.law_ofs [a0, a1, a2, a3] H = some (tidy H r) := D_body (by kernel_rfl) ((s_law_ofs_eq stdL CC limLP a0 a1 a2 a3 H).trans (Eq.trans (show s_law_ofs stdL.b.g stdL.c stdL.s Try.prog CC a0 a1 a2 a3 H (endK Try.prog [.tmp 8]) = s_law_ofs guardK condL shareL Try.prog CC a0 a1 a2 a3 H (endK Try.prog [.tmp 8]) by kernel_rfl) h))

theorem d_model_Equal (a0 : Value) (a1 : Value) (H : AHeap) {r : Value × AHeap} (h : s_model_Equal guardK condL shareL Try.prog CC a0 a1 H (endK Try.prog [.tmp 4]) = some r) : CC F.model_Equal [a0, a1] H = some (tidy H r) := D_body (by kernel_rfl) ((s_model_Equal_eq stdL CC limLP a0 a1 H).trans (Eq.trans (show s_model_Equal stdL.b.g stdL.c stdL.s Try.prog CC a0 a1 H (endK Try.prog [.tmp 4]) = s_model_Equal guardK condL shareL Try.prog CC a0 a1 H (endK Try.prog [.tmp 4]) by kernel_rfl) h))

theorem d_model_Model_Get (a0 : Value) (a1 : Value) (H : AHeap) {r : Value × AHeap} (h : s_model_Model_Get guardK condL shareL Try.prog CC a0 a1 H (endK Try.prog [.tmp 4, .tmp 5]) = some r) : CC F.model_Model_Get [a0, a1] H = some (tidy H r) := D_body (by kernel_rfl) ((s_model_Model_Get_eq stdL CC limLP a0 a1 H).trans (Eq.trans (show s_model_Model_Get stdL.b.g stdL.c stdL.s Try.prog CC a0 a1 H (endK Try.prog [.tmp 4, .tmp 5]) = s_model_Model_Get guardK condL shareL Try.prog CC a0 a1 H (endK Try.prog [.tmp 4, .tmp 5]) by kernel_rfl) h))

noncomputable def l_delta_Fits_0 (v0 : Value) (v16 : Value) (v17 : Value) (v18 : Value) (H : AHeap) (k : K) : Res := loopL stdL Try.prog hints CC limLP F.delta_Fits 0 [(0, v0), (16, v16), (17, v17), (18, v18)] H k
theorem r_delta_Fits_0 (v0 : Value) (v16 : Value) (v17 : Value) (v18 : Value) (H : AHeap) (k : K) : l_delta_Fits_0 v0 v16 v17 v18 H k = s_delta_Fits_b0 guardK condL shareL Try.prog CC l_delta_Fits_0 v0 v16 v17 v18 H (seqK (fun T H => l_delta_Fits_0 (get T 0) (get T 16) (get T 17) (get T 18) H k) k) := ((loopL_next (by kernel_rfl) rfl H k).trans (s_delta_Fits_b0_eq stdL CC limLP v0 v16 v17 v18 H _)).trans (by kernel_rfl)
theorem d_delta_Fits (a0 : Value) (a1 : Value) (H : AHeap) {r : Value × AHeap} (h : s_delta_Fits guardK condL shareL Try.prog CC l_delta_Fits_0 a0 a1 H (endK Try.prog [.tmp 4]) = some r) : CC F.delta_Fits [a0, a1] H = some (tidy H r) := D_body (by kernel_rfl) ((s_delta_Fits_eq stdL CC limLP a0 a1 H).trans (Eq.trans (show s_delta_Fits stdL.b.g stdL.c stdL.s Try.prog CC (fun v0 v16 v17 v18 H k => loopL stdL Try.prog hints CC limLP F.delta_Fits 0 [(0, v0), (16, v16), (17, v17), (18, v18)] H k) a0 a1 H (endK Try.prog [.tmp 4]) = s_delta_Fits guardK condL shareL Try.prog CC l_delta_Fits_0 a0 a1 H (endK Try.prog [.tmp 4]) by kernel_rfl) h))

noncomputable def l_law_fits_0 (v0 : Value) (v1 : Value) (v5 : Value) (H : AHeap) (k : K) : Res := loopL stdL Try.prog hints CC limLP F.law_fits 0 [(0, v0), (1, v1), (5, v5)] H k
theorem r_law_fits_0 (v0 : Value) (v1 : Value) (v5 : Value) (H : AHeap) (k : K) : l_law_fits_0 v0 v1 v5 H k = s_law_fits_b0 guardK condL shareL Try.prog CC l_law_fits_0 v0 v1 v5 H (seqK (fun T H => l_law_fits_0 (get T 0) (get T 1) (get T 5) H k) k) := ((loopL_next (by kernel_rfl) rfl H k).trans (s_law_fits_b0_eq stdL CC limLP v0 v1 v5 H _)).trans (by kernel_rfl)
theorem d_law_fits (a0 : Value) (a1 : Value) (H : AHeap) {r : Value × AHeap} (h : s_law_fits guardK condL shareL Try.prog CC l_law_fits_0 a0 a1 H (endK Try.prog [.tmp 4]) = some r) : CC F.law_fits [a0, a1] H = some (tidy H r) := D_body (by kernel_rfl) ((s_law_fits_eq stdL CC limLP a0 a1 H).trans (Eq.trans (show s_law_fits stdL.b.g stdL.c stdL.s Try.prog CC (fun v0 v1 v5 H k => loopL stdL Try.prog hints CC limLP F.law_fits 0 [(0, v0), (1, v1), (5, v5)] H k) a0 a1 H (endK Try.prog [.tmp 4]) = s_law_fits guardK condL shareL Try.prog CC l_law_fits_0 a0 a1 H (endK Try.prog [.tmp 4]) by kernel_rfl) h))

theorem d_model_Model_Copy (a0 : Value) (H : AHeap) {r : Value × AHeap} (h : s_model_Model_Copy guardK condL shareL Try.prog CC a0 H (endK Try.prog [.tmp 2]) = some r) : CC F.model_Model_Copy [a0] H = some (tidy H r) := D_body (by kernel_rfl) ((s_model_Model_Copy_eq stdL CC limLP a0 H).trans (Eq.trans (show s_model_Model_Copy stdL.b.g stdL.c stdL.s Try.prog CC a0 H (endK Try.prog [.tmp 2]) = s_model_Model_Copy guardK condL shareL Try.prog CC a0 H (endK Try.prog [.tmp 2]) by kernel_rfl) h))

theorem d_model_Model_Delete (a0 : Value) (a1 : Value) (H : AHeap) {r : Value × AHeap} (h : s_model_Model_Delete guardK condL shareL Try.prog CC a0 a1 H (endK Try.prog [.tmp 4, .tmp 5]) = some r) : CC F.model_Model_Delete [a0, a1] H = some (tidy H r) := D_body (by kernel_rfl) ((s_model_Model_Delete_eq stdL CC limLP a0 a1 H).trans (Eq.trans (show s_model_Model_Delete stdL.b.g stdL.c stdL.s Try.prog CC a0 a1 H (endK Try.prog [.tmp 4, .tmp 5]) = s_model_Model_Delete guardK condL shareL Try.prog CC a0 a1 H (endK Try.prog [.tmp 4, .tmp 5]) by kernel_rfl) h))

theorem d_model_Model_Put (a0 : Value) (a1 : Value) (a2 : Value) (H : AHeap) {r : Value × AHeap} (h : s_model_Model_Put guardK condL shareL Try.prog CC a0 a1 a2 H (endK Try.prog [.tmp 6]) = some r) : CC F.model_Model_Put [a0, a1, a2] H = some (tidy H r) := D_body (by kernel_rfl) ((s_model_Model_Put_eq stdL CC limLP a0 a1 a2 H).trans (Eq.trans (show s_model_Model_Put stdL.b.g stdL.c stdL.s Try.prog CC a0 a1 a2 H (endK Try.prog [.tmp 6]) = s_model_Model_Put guardK condL shareL Try.prog CC a0 a1 a2 H (endK Try.prog [.tmp 6]) by kernel_rfl) h))

theorem d_delta_Of (a0 : Value) (a1 : Value) (H : AHeap) {r : Value × AHeap} (h : s_delta_Of guardK condL shareL Try.prog CC a0 a1 H (endK Try.prog [.tmp 4, .tmp 5]) = some r) : CC F.delta_Of [a0, a1] H = some (tidy H r) := D_body (by kernel_rfl) ((s_delta_Of_eq stdL CC limLP a0 a1 H).trans (Eq.trans (show s_delta_Of stdL.b.g stdL.c stdL.s Try.prog CC a0 a1 H (endK Try.prog [.tmp 4, .tmp 5]) = s_delta_Of guardK condL shareL Try.prog CC a0 a1 H (endK Try.prog [.tmp 4, .tmp 5]) by kernel_rfl) h))

noncomputable def l_delta_Reverse_0 (v4 : Value) (v10 : Value) (v11 : Value) (v12 : Value) (H : AHeap) (k : K) : Res := loopL stdL Try.prog hints CC limLP F.delta_Reverse 0 [(4, v4), (10, v10), (11, v11), (12, v12)] H k
theorem r_delta_Reverse_0 (v4 : Value) (v10 : Value) (v11 : Value) (v12 : Value) (H : AHeap) (k : K) : l_delta_Reverse_0 v4 v10 v11 v12 H k = s_delta_Reverse_b0 guardK condL shareL Try.prog CC l_delta_Reverse_0 v4 v10 v11 v12 H (seqK (fun T H => l_delta_Reverse_0 (get T 4) (get T 10) (get T 11) (get T 12) H k) k) := ((loopL_next (by kernel_rfl) rfl H k).trans (s_delta_Reverse_b0_eq stdL CC limLP v4 v10 v11 v12 H _)).trans (by kernel_rfl)
theorem d_delta_Reverse (a0 : Value) (H : AHeap) {r : Value × AHeap} (h : s_delta_Reverse guardK condL shareL Try.prog CC l_delta_Reverse_0 a0 H (endK Try.prog [.tmp 2, .tmp 3]) = some r) : CC F.delta_Reverse [a0] H = some (tidy H r) := D_body (by kernel_rfl) ((s_delta_Reverse_eq stdL CC limLP a0 H).trans (Eq.trans (show s_delta_Reverse stdL.b.g stdL.c stdL.s Try.prog CC (fun v4 v10 v11 v12 H k => loopL stdL Try.prog hints CC limLP F.delta_Reverse 0 [(4, v4), (10, v10), (11, v11), (12, v12)] H k) a0 H (endK Try.prog [.tmp 2, .tmp 3]) = s_delta_Reverse guardK condL shareL Try.prog CC l_delta_Reverse_0 a0 H (endK Try.prog [.tmp 2, .tmp 3]) by kernel_rfl) h))

theorem d_delta_Merge (a0 : Value) (a1 : Value) (H : AHeap) {r : Value × AHeap} (h : s_delta_Merge guardK condL shareL Try.prog CC a0 a1 H (endK Try.prog [.tmp 4, .tmp 5]) = some r) : CC F.delta_Merge [a0, a1] H = some (tidy H r) := D_body (by kernel_rfl) ((s_delta_Merge_eq stdL CC limLP a0 a1 H).trans (Eq.trans (show s_delta_Merge stdL.b.g stdL.c stdL.s Try.prog CC a0 a1 H (endK Try.prog [.tmp 4, .tmp 5]) = s_delta_Merge guardK condL shareL Try.prog CC a0 a1 H (endK Try.prog [.tmp 4, .tmp 5]) by kernel_rfl) h))

noncomputable def l_law_same_0 (v0 : Value) (v1 : Value) (v5 : Value) (H : AHeap) (k : K) : Res := loopL stdL Try.prog hints CC limLP F.law_same 0 [(0, v0), (1, v1), (5, v5)] H k
theorem r_law_same_0 (v0 : Value) (v1 : Value) (v5 : Value) (H : AHeap) (k : K) : l_law_same_0 v0 v1 v5 H k = s_law_same_b0 guardK condL shareL Try.prog CC l_law_same_0 v0 v1 v5 H (seqK (fun T H => l_law_same_0 (get T 0) (get T 1) (get T 5) H k) k) := ((loopL_next (by kernel_rfl) rfl H k).trans (s_law_same_b0_eq stdL CC limLP v0 v1 v5 H _)).trans (by kernel_rfl)
theorem d_law_same (a0 : Value) (a1 : Value) (H : AHeap) {r : Value × AHeap} (h : s_law_same guardK condL shareL Try.prog CC l_law_same_0 a0 a1 H (endK Try.prog [.tmp 4]) = some r) : CC F.law_same [a0, a1] H = some (tidy H r) := D_body (by kernel_rfl) ((s_law_same_eq stdL CC limLP a0 a1 H).trans (Eq.trans (show s_law_same stdL.b.g stdL.c stdL.s Try.prog CC (fun v0 v1 v5 H k => loopL stdL Try.prog hints CC limLP F.law_same 0 [(0, v0), (1, v1), (5, v5)] H k) a0 a1 H (endK Try.prog [.tmp 4]) = s_law_same guardK condL shareL Try.prog CC l_law_same_0 a0 a1 H (endK Try.prog [.tmp 4]) by kernel_rfl) h))

theorem d_law_from (a0 : Value) (a1 : Value) (a2 : Value) (H : AHeap) {r : Value × AHeap} (h : s_law_from guardK condL shareL Try.prog CC a0 a1 a2 H (endK Try.prog [.cell 6 T.api_Change]) = some r) : CC F.law_from [a0, a1, a2] H = some (tidy H r) := D_body (by kernel_rfl) ((s_law_from_eq stdL CC limLP a0 a1 a2 H).trans (Eq.trans (show s_law_from stdL.b.g stdL.c stdL.s Try.prog CC a0 a1 a2 H (endK Try.prog [.cell 6 T.api_Change]) = s_law_from guardK condL shareL Try.prog CC a0 a1 a2 H (endK Try.prog [.cell 6 T.api_Change]) by kernel_rfl) h))

theorem d_law_goes (a0 : Value) (a1 : Value) (H : AHeap) {r : Value × AHeap} (h : s_law_goes guardK condL shareL Try.prog CC a0 a1 H (endK Try.prog [.cell 4 T.api_Change]) = some r) : CC F.law_goes [a0, a1] H = some (tidy H r) := D_body (by kernel_rfl) ((s_law_goes_eq stdL CC limLP a0 a1 H).trans (Eq.trans (show s_law_goes stdL.b.g stdL.c stdL.s Try.prog CC a0 a1 H (endK Try.prog [.cell 4 T.api_Change]) = s_law_goes guardK condL shareL Try.prog CC a0 a1 H (endK Try.prog [.cell 4 T.api_Change]) by kernel_rfl) h))

theorem d_delta_Together (a0 : Value) (a1 : Value) (H : AHeap) {r : Value × AHeap} (h : s_delta_Together guardK condL shareL Try.prog CC a0 a1 H (endK Try.prog [.tmp 4, .tmp 5]) = some r) : CC F.delta_Together [a0, a1] H = some (tidy H r) := D_body (by kernel_rfl) ((s_delta_Together_eq stdL CC limLP a0 a1 H).trans (Eq.trans (show s_delta_Together stdL.b.g stdL.c stdL.s Try.prog CC a0 a1 H (endK Try.prog [.tmp 4, .tmp 5]) = s_delta_Together guardK condL shareL Try.prog CC a0 a1 H (endK Try.prog [.tmp 4, .tmp 5]) by kernel_rfl) h))

theorem d_law_gives (a0 : Value) (a1 : Value) (a2 : Value) (a3 : Value) (H : AHeap) {r : Value × AHeap} (h : s_law_gives guardK condL shareL Try.prog CC a0 a1 a2 a3 H (endK Try.prog [.tmp 8]) = some r) : CC F.law_gives [a0, a1, a2, a3] H = some (tidy H r) := D_body (by kernel_rfl) ((s_law_gives_eq stdL CC limLP a0 a1 a2 a3 H).trans (Eq.trans (show s_law_gives stdL.b.g stdL.c stdL.s Try.prog CC a0 a1 a2 a3 H (endK Try.prog [.tmp 8]) = s_law_gives guardK condL shareL Try.prog CC a0 a1 a2 a3 H (endK Try.prog [.tmp 8]) by kernel_rfl) h))

theorem d_delta_Conflicts (a0 : Value) (a1 : Value) (H : AHeap) {r : Value × AHeap} (h : s_delta_Conflicts guardK condL shareL Try.prog CC a0 a1 H (endK Try.prog [.tmp 4, .tmp 5]) = some r) : CC F.delta_Conflicts [a0, a1] H = some (tidy H r) := D_body (by kernel_rfl) ((s_delta_Conflicts_eq stdL CC limLP a0 a1 H).trans (Eq.trans (show s_delta_Conflicts stdL.b.g stdL.c stdL.s Try.prog CC a0 a1 H (endK Try.prog [.tmp 4, .tmp 5]) = s_delta_Conflicts guardK condL shareL Try.prog CC a0 a1 H (endK Try.prog [.tmp 4, .tmp 5]) by kernel_rfl) h))

theorem d_model_Model_Pairs (a0 : Value) (H : AHeap) {r : Value × AHeap} (h : s_model_Model_Pairs guardK condL shareL Try.prog CC a0 H (endK Try.prog [.tmp 2]) = some r) : CC F.model_Model_Pairs [a0] H = some (tidy H r) := D_body (by kernel_rfl) ((s_model_Model_Pairs_eq stdL CC limLP a0 H).trans (Eq.trans (show s_model_Model_Pairs stdL.b.g stdL.c stdL.s Try.prog CC a0 H (endK Try.prog [.tmp 2]) = s_model_Model_Pairs guardK condL shareL Try.prog CC a0 H (endK Try.prog [.tmp 2]) by kernel_rfl) h))

theorem d_delta_allowed (a0 : Value) (a1 : Value) (H : AHeap) {r : Value × AHeap} (h : s_delta_allowed guardK condL shareL Try.prog CC a0 a1 H (endK Try.prog [.tmp 4]) = some r) : CC F.delta_allowed [a0, a1] H = some (tidy H r) := D_body (by kernel_rfl) ((s_delta_allowed_eq stdL CC limLP a0 a1 H).trans (Eq.trans (show s_delta_allowed stdL.b.g stdL.c stdL.s Try.prog CC a0 a1 H (endK Try.prog [.tmp 4]) = s_delta_allowed guardK condL shareL Try.prog CC a0 a1 H (endK Try.prog [.tmp 4]) by kernel_rfl) h))

theorem d_delta_same (a0 : Value) (H : AHeap) {r : Value × AHeap} (h : s_delta_same guardK condL shareL Try.prog CC a0 H (endK Try.prog [.tmp 2]) = some r) : CC F.delta_same [a0] H = some (tidy H r) := D_body (by kernel_rfl) ((s_delta_same_eq stdL CC limLP a0 H).trans (Eq.trans (show s_delta_same stdL.b.g stdL.c stdL.s Try.prog CC a0 H (endK Try.prog [.tmp 2]) = s_delta_same guardK condL shareL Try.prog CC a0 H (endK Try.prog [.tmp 2]) by kernel_rfl) h))

noncomputable def l_slices_Equal_Pair_0 (v0 : Value) (v1 : Value) (v12 : Value) (v13 : Value) (H : AHeap) (k : K) : Res := loopL stdL Try.prog hints CC limLP F.slices_Equal_Pair 0 [(0, v0), (1, v1), (12, v12), (13, v13)] H k
theorem r_slices_Equal_Pair_0 (v0 : Value) (v1 : Value) (v12 : Value) (v13 : Value) (H : AHeap) (k : K) : l_slices_Equal_Pair_0 v0 v1 v12 v13 H k = s_slices_Equal_Pair_b0 guardK condL shareL Try.prog CC l_slices_Equal_Pair_0 v0 v1 v12 v13 H (seqK (fun T H => l_slices_Equal_Pair_0 (get T 0) (get T 1) (get T 12) (get T 13) H k) k) := ((loopL_next (by kernel_rfl) rfl H k).trans (s_slices_Equal_Pair_b0_eq stdL CC limLP v0 v1 v12 v13 H _)).trans (by kernel_rfl)
theorem d_slices_Equal_Pair (a0 : Value) (a1 : Value) (H : AHeap) {r : Value × AHeap} (h : s_slices_Equal_Pair guardK condL shareL Try.prog CC l_slices_Equal_Pair_0 a0 a1 H (endK Try.prog [.tmp 4]) = some r) : CC F.slices_Equal_Pair [a0, a1] H = some (tidy H r) := D_body (by kernel_rfl) ((s_slices_Equal_Pair_eq stdL CC limLP a0 a1 H).trans (Eq.trans (show s_slices_Equal_Pair stdL.b.g stdL.c stdL.s Try.prog CC (fun v0 v1 v12 v13 H k => loopL stdL Try.prog hints CC limLP F.slices_Equal_Pair 0 [(0, v0), (1, v1), (12, v12), (13, v13)] H k) a0 a1 H (endK Try.prog [.tmp 4]) = s_slices_Equal_Pair guardK condL shareL Try.prog CC l_slices_Equal_Pair_0 a0 a1 H (endK Try.prog [.tmp 4]) by kernel_rfl) h))

theorem d_model_Model_at (a0 : Value) (a1 : Value) (a2 : Value) (H : AHeap) {r : Value × AHeap} (h : s_model_Model_at guardK condL shareL Try.prog CC a0 a1 a2 H (endK Try.prog [.tmp 6, .tmp 7, .tmp 8]) = some r) : CC F.model_Model_at [a0, a1, a2] H = some (tidy H r) := D_body (by kernel_rfl) ((s_model_Model_at_eq stdL CC limLP a0 a1 a2 H).trans (Eq.trans (show s_model_Model_at stdL.b.g stdL.c stdL.s Try.prog CC a0 a1 a2 H (endK Try.prog [.tmp 6, .tmp 7, .tmp 8]) = s_model_Model_at guardK condL shareL Try.prog CC a0 a1 a2 H (endK Try.prog [.tmp 6, .tmp 7, .tmp 8]) by kernel_rfl) h))

theorem d_slices_Clone_Pair (a0 : Value) (H : AHeap) {r : Value × AHeap} (h : s_slices_Clone_Pair guardK condL shareL Try.prog CC a0 H (endK Try.prog [.tmp 2]) = some r) : CC F.slices_Clone_Pair [a0] H = some (tidy H r) := D_body (by kernel_rfl) ((s_slices_Clone_Pair_eq stdL CC limLP a0 H).trans (Eq.trans (show s_slices_Clone_Pair stdL.b.g stdL.c stdL.s Try.prog CC a0 H (endK Try.prog [.tmp 2]) = s_slices_Clone_Pair guardK condL shareL Try.prog CC a0 H (endK Try.prog [.tmp 2]) by kernel_rfl) h))

theorem d_model_Model_place (a0 : Value) (a1 : Value) (H : AHeap) {r : Value × AHeap} (h : s_model_Model_place guardK condL shareL Try.prog CC a0 a1 H (endK Try.prog [.tmp 4, .tmp 5]) = some r) : CC F.model_Model_place [a0, a1] H = some (tidy H r) := D_body (by kernel_rfl) ((s_model_Model_place_eq stdL CC limLP a0 a1 H).trans (Eq.trans (show s_model_Model_place stdL.b.g stdL.c stdL.s Try.prog CC a0 a1 H (endK Try.prog [.tmp 4, .tmp 5]) = s_model_Model_place guardK condL shareL Try.prog CC a0 a1 H (endK Try.prog [.tmp 4, .tmp 5]) by kernel_rfl) h))

theorem d_slices_Delete_Pair (a0 : Value) (a1 : Value) (a2 : Value) (H : AHeap) {r : Value × AHeap} (h : s_slices_Delete_Pair guardK condL shareL Try.prog CC a0 a1 a2 H (endK Try.prog [.tmp 6]) = some r) : CC F.slices_Delete_Pair [a0, a1, a2] H = some (tidy H r) := D_body (by kernel_rfl) ((s_slices_Delete_Pair_eq stdL CC limLP a0 a1 a2 H).trans (Eq.trans (show s_slices_Delete_Pair stdL.b.g stdL.c stdL.s Try.prog CC a0 a1 a2 H (endK Try.prog [.tmp 6]) = s_slices_Delete_Pair guardK condL shareL Try.prog CC a0 a1 a2 H (endK Try.prog [.tmp 6]) by kernel_rfl) h))

theorem d_model_Model_set (a0 : Value) (a1 : Value) (a2 : Value) (a3 : Value) (H : AHeap) {r : Value × AHeap} (h : s_model_Model_set guardK condL shareL Try.prog CC a0 a1 a2 a3 H (endK Try.prog [.tmp 8]) = some r) : CC F.model_Model_set [a0, a1, a2, a3] H = some (tidy H r) := D_body (by kernel_rfl) ((s_model_Model_set_eq stdL CC limLP a0 a1 a2 a3 H).trans (Eq.trans (show s_model_Model_set stdL.b.g stdL.c stdL.s Try.prog CC a0 a1 a2 a3 H (endK Try.prog [.tmp 8]) = s_model_Model_set guardK condL shareL Try.prog CC a0 a1 a2 a3 H (endK Try.prog [.tmp 8]) by kernel_rfl) h))

noncomputable def l_delta_both_0 (v0 : Value) (v1 : Value) (v2 : Value) (H : AHeap) (k : K) : Res := loopL stdL Try.prog hints CC limLP F.delta_both 0 [(0, v0), (1, v1), (2, v2)] H k
theorem r_delta_both_0 (v0 : Value) (v1 : Value) (v2 : Value) (H : AHeap) (k : K) : l_delta_both_0 v0 v1 v2 H k = s_delta_both_b0 guardK condL shareL Try.prog CC l_delta_both_0 v0 v1 v2 H (seqK (fun T H => l_delta_both_0 (get T 0) (get T 1) (get T 2) H k) k) := ((loopL_next (by kernel_rfl) rfl H k).trans (s_delta_both_b0_eq stdL CC limLP v0 v1 v2 H _)).trans (by kernel_rfl)
theorem d_delta_both (a0 : Value) (a1 : Value) (a2 : Value) (H : AHeap) {r : Value × AHeap} (h : s_delta_both guardK condL shareL Try.prog CC l_delta_both_0 a0 a1 a2 H (endK Try.prog []) = some r) : CC F.delta_both [a0, a1, a2] H = some (tidy H r) := D_body (by kernel_rfl) ((s_delta_both_eq stdL CC limLP a0 a1 a2 H).trans (Eq.trans (show s_delta_both stdL.b.g stdL.c stdL.s Try.prog CC (fun v0 v1 v2 H k => loopL stdL Try.prog hints CC limLP F.delta_both 0 [(0, v0), (1, v1), (2, v2)] H k) a0 a1 a2 H (endK Try.prog []) = s_delta_both guardK condL shareL Try.prog CC l_delta_both_0 a0 a1 a2 H (endK Try.prog []) by kernel_rfl) h))

noncomputable def l_delta_of_0 (v3 : Value) (v7 : Value) (v8 : Value) (v9 : Value) (H : AHeap) (k : K) : Res := loopL stdL Try.prog hints CC limLP F.delta_of 0 [(3, v3), (7, v7), (8, v8), (9, v9)] H k
theorem r_delta_of_0 (v3 : Value) (v7 : Value) (v8 : Value) (v9 : Value) (H : AHeap) (k : K) : l_delta_of_0 v3 v7 v8 v9 H k = s_delta_of_b0 guardK condL shareL Try.prog CC l_delta_of_0 v3 v7 v8 v9 H (seqK (fun T H => l_delta_of_0 (get T 3) (get T 7) (get T 8) (get T 9) H k) k) := ((loopL_next (by kernel_rfl) rfl H k).trans (s_delta_of_b0_eq stdL CC limLP v3 v7 v8 v9 H _)).trans (by kernel_rfl)
theorem d_delta_of (a0 : Value) (H : AHeap) {r : Value × AHeap} (h : s_delta_of guardK condL shareL Try.prog CC l_delta_of_0 a0 H (endK Try.prog [.tmp 2]) = some r) : CC F.delta_of [a0] H = some (tidy H r) := D_body (by kernel_rfl) ((s_delta_of_eq stdL CC limLP a0 H).trans (Eq.trans (show s_delta_of stdL.b.g stdL.c stdL.s Try.prog CC (fun v3 v7 v8 v9 H k => loopL stdL Try.prog hints CC limLP F.delta_of 0 [(3, v3), (7, v7), (8, v8), (9, v9)] H k) a0 H (endK Try.prog [.tmp 2]) = s_delta_of guardK condL shareL Try.prog CC l_delta_of_0 a0 H (endK Try.prog [.tmp 2]) by kernel_rfl) h))

theorem d_delta_Of_1 (a0 : Value) (a1 : Value) (a2 : Value) (a3 : Value) (a4 : Value) (H : AHeap) {r : Value × AHeap} (h : s_delta_Of_1 guardK condL shareL Try.prog CC a0 a1 a2 a3 a4 H (endK Try.prog []) = some r) : CC F.delta_Of_1 [a0, a1, a2, a3, a4] H = some (tidy H r) := D_body (by kernel_rfl) ((s_delta_Of_1_eq stdL CC limLP a0 a1 a2 a3 a4 H).trans (Eq.trans (show s_delta_Of_1 stdL.b.g stdL.c stdL.s Try.prog CC a0 a1 a2 a3 a4 H (endK Try.prog []) = s_delta_Of_1 guardK condL shareL Try.prog CC a0 a1 a2 a3 a4 H (endK Try.prog []) by kernel_rfl) h))

theorem d_delta_reversed (a0 : Value) (H : AHeap) {r : Value × AHeap} (h : s_delta_reversed guardK condL shareL Try.prog CC a0 H (endK Try.prog [.cell 2 T.api_Change]) = some r) : CC F.delta_reversed [a0] H = some (tidy H r) := D_body (by kernel_rfl) ((s_delta_reversed_eq stdL CC limLP a0 H).trans (Eq.trans (show s_delta_reversed stdL.b.g stdL.c stdL.s Try.prog CC a0 H (endK Try.prog [.cell 2 T.api_Change]) = s_delta_reversed guardK condL shareL Try.prog CC a0 H (endK Try.prog [.cell 2 T.api_Change]) by kernel_rfl) h))

theorem d_delta_Merge_1 (a0 : Value) (a1 : Value) (a2 : Value) (a3 : Value) (a4 : Value) (H : AHeap) {r : Value × AHeap} (h : s_delta_Merge_1 guardK condL shareL Try.prog CC a0 a1 a2 a3 a4 H (endK Try.prog []) = some r) : CC F.delta_Merge_1 [a0, a1, a2, a3, a4] H = some (tidy H r) := D_body (by kernel_rfl) ((s_delta_Merge_1_eq stdL CC limLP a0 a1 a2 a3 a4 H).trans (Eq.trans (show s_delta_Merge_1 stdL.b.g stdL.c stdL.s Try.prog CC a0 a1 a2 a3 a4 H (endK Try.prog []) = s_delta_Merge_1 guardK condL shareL Try.prog CC a0 a1 a2 a3 a4 H (endK Try.prog []) by kernel_rfl) h))

theorem d_slices_Clip_Change (a0 : Value) (H : AHeap) {r : Value × AHeap} (h : s_slices_Clip_Change guardK condL shareL Try.prog CC a0 H (endK Try.prog [.tmp 2]) = some r) : CC F.slices_Clip_Change [a0] H = some (tidy H r) := D_body (by kernel_rfl) ((s_slices_Clip_Change_eq stdL CC limLP a0 H).trans (Eq.trans (show s_slices_Clip_Change stdL.b.g stdL.c stdL.s Try.prog CC a0 H (endK Try.prog [.tmp 2]) = s_slices_Clip_Change guardK condL shareL Try.prog CC a0 H (endK Try.prog [.tmp 2]) by kernel_rfl) h))

theorem d_delta_Together_1 (a0 : Value) (a1 : Value) (a2 : Value) (a3 : Value) (a4 : Value) (a5 : Value) (H : AHeap) {r : Value × AHeap} (h : s_delta_Together_1 guardK condL shareL Try.prog CC a0 a1 a2 a3 a4 a5 H (endK Try.prog []) = some r) : CC F.delta_Together_1 [a0, a1, a2, a3, a4, a5] H = some (tidy H r) := D_body (by kernel_rfl) ((s_delta_Together_1_eq stdL CC limLP a0 a1 a2 a3 a4 a5 H).trans (Eq.trans (show s_delta_Together_1 stdL.b.g stdL.c stdL.s Try.prog CC a0 a1 a2 a3 a4 a5 H (endK Try.prog []) = s_delta_Together_1 guardK condL shareL Try.prog CC a0 a1 a2 a3 a4 a5 H (endK Try.prog []) by kernel_rfl) h))

theorem d_delta_Conflicts_1 (a0 : Value) (a1 : Value) (a2 : Value) (a3 : Value) (a4 : Value) (H : AHeap) {r : Value × AHeap} (h : s_delta_Conflicts_1 guardK condL shareL Try.prog CC a0 a1 a2 a3 a4 H (endK Try.prog []) = some r) : CC F.delta_Conflicts_1 [a0, a1, a2, a3, a4] H = some (tidy H r) := D_body (by kernel_rfl) ((s_delta_Conflicts_1_eq stdL CC limLP a0 a1 a2 a3 a4 H).trans (Eq.trans (show s_delta_Conflicts_1 stdL.b.g stdL.c stdL.s Try.prog CC a0 a1 a2 a3 a4 H (endK Try.prog []) = s_delta_Conflicts_1 guardK condL shareL Try.prog CC a0 a1 a2 a3 a4 H (endK Try.prog []) by kernel_rfl) h))

theorem d_model_check (a0 : Value) (a1 : Value) (H : AHeap) {r : Value × AHeap} (h : s_model_check guardK condL shareL Try.prog CC a0 a1 H (endK Try.prog [.tmp 4]) = some r) : CC F.model_check [a0, a1] H = some (tidy H r) := D_body (by kernel_rfl) ((s_model_check_eq stdL CC limLP a0 a1 H).trans (Eq.trans (show s_model_check stdL.b.g stdL.c stdL.s Try.prog CC a0 a1 H (endK Try.prog [.tmp 4]) = s_model_check guardK condL shareL Try.prog CC a0 a1 H (endK Try.prog [.tmp 4]) by kernel_rfl) h))

noncomputable def l_slices_BinarySearchFunc_string_0 (v0 : Value) (v1 : Value) (v2 : Value) (v8 : Value) (v9 : Value) (v10 : Value) (H : AHeap) (k : K) : Res := loopL stdL Try.prog hints CC limLP F.slices_BinarySearchFunc_string 0 [(0, v0), (1, v1), (2, v2), (8, v8), (9, v9), (10, v10)] H k
theorem r_slices_BinarySearchFunc_string_0 (v0 : Value) (v1 : Value) (v2 : Value) (v8 : Value) (v9 : Value) (v10 : Value) (H : AHeap) (k : K) : l_slices_BinarySearchFunc_string_0 v0 v1 v2 v8 v9 v10 H k = s_slices_BinarySearchFunc_string_b0 guardK condL shareL Try.prog CC l_slices_BinarySearchFunc_string_0 v0 v1 v2 v8 v9 v10 H (seqK (fun T H => l_slices_BinarySearchFunc_string_0 (get T 0) (get T 1) (get T 2) (get T 8) (get T 9) (get T 10) H k) k) := ((loopL_next (by kernel_rfl) rfl H k).trans (s_slices_BinarySearchFunc_string_b0_eq stdL CC limLP v0 v1 v2 v8 v9 v10 H _)).trans (by kernel_rfl)
theorem d_slices_BinarySearchFunc_string (a0 : Value) (a1 : Value) (a2 : Value) (H : AHeap) {r : Value × AHeap} (h : s_slices_BinarySearchFunc_string guardK condL shareL Try.prog CC l_slices_BinarySearchFunc_string_0 a0 a1 a2 H (endK Try.prog [.tmp 6, .tmp 7]) = some r) : CC F.slices_BinarySearchFunc_string [a0, a1, a2] H = some (tidy H r) := D_body (by kernel_rfl) ((s_slices_BinarySearchFunc_string_eq stdL CC limLP a0 a1 a2 H).trans (Eq.trans (show s_slices_BinarySearchFunc_string stdL.b.g stdL.c stdL.s Try.prog CC (fun v0 v1 v2 v8 v9 v10 H k => loopL stdL Try.prog hints CC limLP F.slices_BinarySearchFunc_string 0 [(0, v0), (1, v1), (2, v2), (8, v8), (9, v9), (10, v10)] H k) a0 a1 a2 H (endK Try.prog [.tmp 6, .tmp 7]) = s_slices_BinarySearchFunc_string guardK condL shareL Try.prog CC l_slices_BinarySearchFunc_string_0 a0 a1 a2 H (endK Try.prog [.tmp 6, .tmp 7]) by kernel_rfl) h))

theorem d_model_Model_place_1 (a0 : Value) (a1 : Value) (H : AHeap) {r : Value × AHeap} (h : s_model_Model_place_1 guardK condL shareL Try.prog CC a0 a1 H (endK Try.prog [.tmp 4]) = some r) : CC F.model_Model_place_1 [a0, a1] H = some (tidy H r) := D_body (by kernel_rfl) ((s_model_Model_place_1_eq stdL CC limLP a0 a1 H).trans (Eq.trans (show s_model_Model_place_1 stdL.b.g stdL.c stdL.s Try.prog CC a0 a1 H (endK Try.prog [.tmp 4]) = s_model_Model_place_1 guardK condL shareL Try.prog CC a0 a1 H (endK Try.prog [.tmp 4]) by kernel_rfl) h))

theorem d_keys_Compare (a0 : Value) (a1 : Value) (H : AHeap) {r : Value × AHeap} (h : s_keys_Compare guardK condL shareL Try.prog CC a0 a1 H (endK Try.prog [.tmp 4]) = some r) : CC F.keys_Compare [a0, a1] H = some (tidy H r) := D_body (by kernel_rfl) ((s_keys_Compare_eq stdL CC limLP a0 a1 H).trans (Eq.trans (show s_keys_Compare stdL.b.g stdL.c stdL.s Try.prog CC a0 a1 H (endK Try.prog [.tmp 4]) = s_keys_Compare guardK condL shareL Try.prog CC a0 a1 H (endK Try.prog [.tmp 4]) by kernel_rfl) h))

theorem d_slices_ContainsFunc_string (a0 : Value) (a1 : Value) (H : AHeap) {r : Value × AHeap} (h : s_slices_ContainsFunc_string guardK condL shareL Try.prog CC a0 a1 H (endK Try.prog [.tmp 4]) = some r) : CC F.slices_ContainsFunc_string [a0, a1] H = some (tidy H r) := D_body (by kernel_rfl) ((s_slices_ContainsFunc_string_eq stdL CC limLP a0 a1 H).trans (Eq.trans (show s_slices_ContainsFunc_string stdL.b.g stdL.c stdL.s Try.prog CC a0 a1 H (endK Try.prog [.tmp 4]) = s_slices_ContainsFunc_string guardK condL shareL Try.prog CC a0 a1 H (endK Try.prog [.tmp 4]) by kernel_rfl) h))

theorem d_model_check_1 (a0 : Value) (H : AHeap) {r : Value × AHeap} (h : s_model_check_1 guardK condL shareL Try.prog CC a0 H (endK Try.prog [.tmp 2]) = some r) : CC F.model_check_1 [a0] H = some (tidy H r) := D_body (by kernel_rfl) ((s_model_check_1_eq stdL CC limLP a0 H).trans (Eq.trans (show s_model_check_1 stdL.b.g stdL.c stdL.s Try.prog CC a0 H (endK Try.prog [.tmp 2]) = s_model_check_1 guardK condL shareL Try.prog CC a0 H (endK Try.prog [.tmp 2]) by kernel_rfl) h))

theorem d_strings_Compare (a0 : Value) (a1 : Value) (H : AHeap) {r : Value × AHeap} (h : s_strings_Compare guardK condL shareL Try.prog CC a0 a1 H (endK Try.prog [.tmp 4]) = some r) : CC F.strings_Compare [a0, a1] H = some (tidy H r) := D_body (by kernel_rfl) ((s_strings_Compare_eq stdL CC limLP a0 a1 H).trans (Eq.trans (show s_strings_Compare stdL.b.g stdL.c stdL.s Try.prog CC a0 a1 H (endK Try.prog [.tmp 4]) = s_strings_Compare guardK condL shareL Try.prog CC a0 a1 H (endK Try.prog [.tmp 4]) by kernel_rfl) h))

theorem d_slices_rotateRight_Pair (a0 : Value) (a1 : Value) (H : AHeap) {r : Value × AHeap} (h : s_slices_rotateRight_Pair guardK condL shareL Try.prog CC a0 a1 H (endK Try.prog []) = some r) : CC F.slices_rotateRight_Pair [a0, a1] H = some (tidy H r) := D_body (by kernel_rfl) ((s_slices_rotateRight_Pair_eq stdL CC limLP a0 a1 H).trans (Eq.trans (show s_slices_rotateRight_Pair stdL.b.g stdL.c stdL.s Try.prog CC a0 a1 H (endK Try.prog []) = s_slices_rotateRight_Pair guardK condL shareL Try.prog CC a0 a1 H (endK Try.prog []) by kernel_rfl) h))

noncomputable def l_slices_IndexFunc_string_0 (v0 : Value) (v1 : Value) (v7 : Value) (v8 : Value) (H : AHeap) (k : K) : Res := loopL stdL Try.prog hints CC limLP F.slices_IndexFunc_string 0 [(0, v0), (1, v1), (7, v7), (8, v8)] H k
theorem r_slices_IndexFunc_string_0 (v0 : Value) (v1 : Value) (v7 : Value) (v8 : Value) (H : AHeap) (k : K) : l_slices_IndexFunc_string_0 v0 v1 v7 v8 H k = s_slices_IndexFunc_string_b0 guardK condL shareL Try.prog CC l_slices_IndexFunc_string_0 v0 v1 v7 v8 H (seqK (fun T H => l_slices_IndexFunc_string_0 (get T 0) (get T 1) (get T 7) (get T 8) H k) k) := ((loopL_next (by kernel_rfl) rfl H k).trans (s_slices_IndexFunc_string_b0_eq stdL CC limLP v0 v1 v7 v8 H _)).trans (by kernel_rfl)
theorem d_slices_IndexFunc_string (a0 : Value) (a1 : Value) (H : AHeap) {r : Value × AHeap} (h : s_slices_IndexFunc_string guardK condL shareL Try.prog CC l_slices_IndexFunc_string_0 a0 a1 H (endK Try.prog [.tmp 4]) = some r) : CC F.slices_IndexFunc_string [a0, a1] H = some (tidy H r) := D_body (by kernel_rfl) ((s_slices_IndexFunc_string_eq stdL CC limLP a0 a1 H).trans (Eq.trans (show s_slices_IndexFunc_string stdL.b.g stdL.c stdL.s Try.prog CC (fun v0 v1 v7 v8 H k => loopL stdL Try.prog hints CC limLP F.slices_IndexFunc_string 0 [(0, v0), (1, v1), (7, v7), (8, v8)] H k) a0 a1 H (endK Try.prog [.tmp 4]) = s_slices_IndexFunc_string guardK condL shareL Try.prog CC l_slices_IndexFunc_string_0 a0 a1 H (endK Try.prog [.tmp 4]) by kernel_rfl) h))

theorem d_internal_bytealg_CompareString (a0 : Value) (a1 : Value) (H : AHeap) {r : Value × AHeap} (h : s_internal_bytealg_CompareString guardK condL shareL Try.prog CC a0 a1 H (endK Try.prog [.tmp 4]) = some r) : CC F.internal_bytealg_CompareString [a0, a1] H = some (tidy H r) := D_body (by kernel_rfl) ((s_internal_bytealg_CompareString_eq stdL CC limLP a0 a1 H).trans (Eq.trans (show s_internal_bytealg_CompareString stdL.b.g stdL.c stdL.s Try.prog CC a0 a1 H (endK Try.prog [.tmp 4]) = s_internal_bytealg_CompareString guardK condL shareL Try.prog CC a0 a1 H (endK Try.prog [.tmp 4]) by kernel_rfl) h))

theorem d_slices_rotateLeft_Pair (a0 : Value) (a1 : Value) (H : AHeap) {r : Value × AHeap} (h : s_slices_rotateLeft_Pair guardK condL shareL Try.prog CC a0 a1 H (endK Try.prog []) = some r) : CC F.slices_rotateLeft_Pair [a0, a1] H = some (tidy H r) := D_body (by kernel_rfl) ((s_slices_rotateLeft_Pair_eq stdL CC limLP a0 a1 H).trans (Eq.trans (show s_slices_rotateLeft_Pair stdL.b.g stdL.c stdL.s Try.prog CC a0 a1 H (endK Try.prog []) = s_slices_rotateLeft_Pair guardK condL shareL Try.prog CC a0 a1 H (endK Try.prog []) by kernel_rfl) h))

noncomputable def l_slices_Reverse_Pair_0 (v0 : Value) (v2 : Value) (v3 : Value) (H : AHeap) (k : K) : Res := loopL stdL Try.prog hints CC limLP F.slices_Reverse_Pair 0 [(0, v0), (2, v2), (3, v3)] H k
theorem r_slices_Reverse_Pair_0 (v0 : Value) (v2 : Value) (v3 : Value) (H : AHeap) (k : K) : l_slices_Reverse_Pair_0 v0 v2 v3 H k = s_slices_Reverse_Pair_b0 guardK condL shareL Try.prog CC l_slices_Reverse_Pair_0 v0 v2 v3 H (seqK (fun T H => l_slices_Reverse_Pair_0 (get T 0) (get T 2) (get T 3) H k) k) := ((loopL_next (by kernel_rfl) rfl H k).trans (s_slices_Reverse_Pair_b0_eq stdL CC limLP v0 v2 v3 H _)).trans (by kernel_rfl)
theorem d_slices_Reverse_Pair (a0 : Value) (H : AHeap) {r : Value × AHeap} (h : s_slices_Reverse_Pair guardK condL shareL Try.prog CC l_slices_Reverse_Pair_0 a0 H (endK Try.prog []) = some r) : CC F.slices_Reverse_Pair [a0] H = some (tidy H r) := D_body (by kernel_rfl) ((s_slices_Reverse_Pair_eq stdL CC limLP a0 H).trans (Eq.trans (show s_slices_Reverse_Pair stdL.b.g stdL.c stdL.s Try.prog CC (fun v0 v2 v3 H k => loopL stdL Try.prog hints CC limLP F.slices_Reverse_Pair 0 [(0, v0), (2, v2), (3, v3)] H k) a0 H (endK Try.prog []) = s_slices_Reverse_Pair guardK condL shareL Try.prog CC l_slices_Reverse_Pair_0 a0 H (endK Try.prog []) by kernel_rfl) h))

end Go.Proofs.Ytlbieadnfgfhlaa

/-
  The engine, part 23: lists that lie in rows of cells: reading, slicing, appending.
  Conditions: none. By an AI agent.
-/
namespace Go.Proofs.Ytlbieadnfgfhlaa.Eng
open Go
set_option linter.unusedVariables false
set_option linter.unusedSimpArgs false

/-- How an element lies in cells. -/
structure Enc (α : Type) where
  w : Nat
  enc : α → List Value
  len : ∀ a, (enc a).length = w
  pos : 0 < w
  one : ∀ a, (enc a).all one = true

namespace Enc
variable {α : Type} (E : Enc α)

def cells (l : List α) : List Value := l.flatMap E.enc
@[simp] theorem cells_nil : E.cells [] = [] := rfl
@[simp] theorem cells_cons (a : α) (l : List α) : E.cells (a :: l) = E.enc a ++ E.cells l := rfl
theorem cells_append (l m : List α) : E.cells (l ++ m) = E.cells l ++ E.cells m := by simp [cells]
@[simp] theorem cells_len : ∀ (l : List α), (E.cells l).length = l.length * E.w
  | [] => by simp
  | a :: l => by simp [E.len, cells_len l, Nat.add_mul]; omega
theorem cells_one : ∀ (l : List α), (E.cells l).all Eng.one = true
  | [] => rfl
  | a :: l => by rw [cells_cons, List.all_append, E.one, cells_one l]; rfl
theorem cells_drop : ∀ (l : List α) (i : Nat), (E.cells l).drop (i * E.w) = E.cells (l.drop i)
  | l, 0 => by simp
  | [], i + 1 => by simp
  | a :: l, i + 1 => by
    rw [cells_cons, List.drop_append, E.len, List.drop_eq_nil_of_le (by rw [E.len, Nat.add_mul]; omega)]
    rw [show (i + 1) * E.w - E.w = i * E.w by rw [Nat.add_mul]; omega, cells_drop l i]
    simp
theorem cells_take : ∀ (l : List α) (i : Nat), (E.cells l).take (i * E.w) = E.cells (l.take i)
  | l, 0 => by simp
  | [], i + 1 => by simp
  | a :: l, i + 1 => by
    rw [cells_cons, List.take_append, E.len, List.take_of_length_le (by rw [E.len, Nat.add_mul]; omega)]
    rw [show (i + 1) * E.w - E.w = i * E.w by rw [Nat.add_mul]; omega, cells_take l i]
    simp
theorem cells_elem (l : List α) (i : Nat) (h : i < l.length) : ((E.cells l).drop (i * E.w)).take E.w = E.enc l[i] := by
  rw [cells_drop, List.drop_eq_getElem_cons h, cells_cons, List.take_append, E.len, Nat.sub_self, List.take_zero, List.append_nil, List.take_of_length_le (by rw [E.len]; exact Nat.le_refl _)]
end Enc

variable {P : Program} {α : Type} {E : Enc α} {H H' : AHeap} {v : Value} {l : List α} {e : TypeId}

/-- A slice that reads as a list. -/
def Rd (E : Enc α) (H : AHeap) (v : Value) (l : List α) : Prop :=
  (l = [] ∧ v = .slice none 0 0) ∨ (l = [] ∧ ∃ a k, v = .slice (some a) 0 k ∧ a.spot = none) ∨
  ∃ b o c, v = .slice (some ⟨b, o, none⟩) l.length c ∧ l ≠ [] ∧ b < H.n ∧ cutB (H.f b) o (l.length * E.w) = some (E.cells l)

/-- The block of a slice that has elements. -/
def Off (S : Nat → Prop) (v : Value) : Prop := ∀ b, blockOf v = some b → ¬ S b

theorem Rd.keep {S : Nat → Prop} (r : Rd E H v l) (h : Fr S H H') (hs : Off S v) : Rd E H' v l := by
  rcases r with r | r | ⟨b, o, c, rfl, hl, hb, hc⟩
  · exact .inl r
  · exact .inr (.inl r)
  · exact .inr (.inr ⟨b, o, c, rfl, hl, Nat.lt_of_lt_of_le hb h.n, by rw [h.f hb (hs b rfl)]; exact hc⟩)
theorem Rd.still (r : Rd E H v l) (h : Still H H') : Rd E H' v l := r.keep h fun _ _ h => h

theorem cutB_sub {k : Blk} {o n : Nat} {xs : List Value} (h : cutB k o n = some xs) {i m : Nat} (hi : i + m ≤ n) : cutB k (o + i) m = some ((xs.drop i).take m) := by
  unfold cutB at h ⊢
  cases k with
  | cells ys e rw =>
    simp only at h ⊢
    split at h
    · cases h
      rw [if_pos (by omega), List.drop_take, List.take_take, List.drop_drop, Nat.min_eq_left (by omega)]
    · cases h
  | _ => cases h

theorem cutB_len {k : Blk} {o n : Nat} {xs : List Value} (h : cutB k o n = some xs) : xs.length = n := by
  unfold cutB at h
  cases k with
  | cells ys e rw =>
    simp only at h
    split at h
    · cases h
      simp; omega
    · cases h
  | _ => cases h

theorem cutB_cell {k : Blk} {o n : Nat} {xs : List Value} (h : cutB k o n = some xs) {i : Nat} (hi : i < n) : cellB k (o + i) = xs[i]? := by
  unfold cutB at h
  unfold cellB
  cases k with
  | cells ys e rw =>
    simp only at h ⊢
    split at h
    · cases h
      rw [List.getElem?_take_of_lt hi, List.getElem?_drop]
    · cases h
  | _ => cases h

/-- Its elements, one by one. -/
theorem Rd.elem (r : Rd E H v l) {i : Nat} (hi : i < l.length) : ∃ b o c, v = .slice (some ⟨b, o, none⟩) l.length c ∧ b < H.n ∧ cutB (H.f b) (o + i * E.w) E.w = some (E.enc l[i]) := by
  rcases r with ⟨rfl, _⟩ | ⟨rfl, _⟩ | ⟨b, o, c, hv, hl, hb, hc⟩
  · simp at hi
  · simp at hi
  · refine ⟨b, o, c, hv, hb, ?_⟩
    rw [cutB_sub hc (i := i * E.w) (m := E.w) (by have := Nat.mul_le_mul_right E.w hi; rw [Nat.succ_mul] at this; exact this), E.cells_elem l i hi]

theorem Rd.shape (r : Rd E H v l) : ∃ a c, v = .slice a l.length c := by
  rcases r with ⟨rfl, rfl⟩ | ⟨rfl, a, k, rfl, _⟩ | ⟨b, o, c, rfl, hl, hb, hc⟩ <;> exact ⟨_, _, rfl⟩

theorem Rd.lenS (r : Rd E H v l) : Eng.lenS v = some (.int .i64 l.length) := by
  obtain ⟨a, c, rfl⟩ := r.shape
  rfl

/-- What append takes of it. -/
theorem Rd.src (r : Rd E H v l) {sz : Nat} (hsz : sz = E.w) : srcS sz v H = some (l.length, E.cells l) := by
  subst hsz
  rcases r with ⟨rfl, rfl⟩ | ⟨rfl, ⟨b, o, s⟩, k, rfl, hs⟩ | ⟨b, o, c, rfl, hl, hb, hc⟩
  · rfl
  · simp only at hs
    subst hs
    rfl
  · unfold srcS
    have h0 : l.length ≠ 0 := fun h => hl (List.length_eq_zero_iff.1 h)
    simp only [h0, if_false, cut_b, hc, Option.map_some]

@[go_sem] theorem ixS_int {sz b o len code : Nat} {i : Int} {q : IntKind} (h : 0 ≤ i ∧ i < (len : Int)) : ixS sz (.slice (some ⟨b, o, none⟩) len code) (.int q i) = some (.pointer (some ⟨b, o + i.toNat * sz, none⟩)) := by
  unfold ixS
  simp only
  rw [if_pos h]
theorem ixS_nat {sz b o len code k : Nat} {q : IntKind} (h : k < len) : ixS sz (.slice (some ⟨b, o, none⟩) len code) (.int q (k : Int)) = some (.pointer (some ⟨b, o + k * sz, none⟩)) := by
  rw [ixS_int ⟨by omega, by omega⟩, Int.toNat_natCast]
attribute [go_sem] Int.toNat_natCast Nat.zero_mul Nat.mul_one

theorem Rd.ix (r : Rd E H v l) {i : Nat} (hi : i < l.length) {q : IntKind} : ∃ b o, ixS E.w v (.int q (i : Int)) = some (.pointer (some ⟨b, o, none⟩)) ∧ b < H.n ∧ cutB (H.f b) o E.w = some (E.enc l[i]) ∧ blockOf v = some b := by
  obtain ⟨b, o, c, rfl, hb, hc⟩ := r.elem hi
  exact ⟨b, o + i * E.w, ixS_nat hi, hb, hc, rfl⟩

/-! ### Rows that are the function's own, and may grow -/

/-- A list in a row of its own that ends with the row's end; or an empty one. -/
def Own (E : Enc α) (H : AHeap) (e : TypeId) (v : Value) (l : List α) : Prop :=
  (l = [] ∧ v = .slice none 0 0) ∨ (l = [] ∧ ∃ a, v = .slice (some a) 0 0 ∧ a.spot = none ∧ a.block < H.n) ∨
  ∃ b o c xs, v = .slice (some ⟨b, o, none⟩) l.length (2 * c + 1) ∧ l.length ≤ c ∧ b < H.n ∧ H.f b = .cells xs e true ∧ o + c * E.w = xs.length ∧ (xs.drop o).take (l.length * E.w) = E.cells l

theorem Own.rd (r : Own E H e v l) : Rd E H v l := by
  rcases r with r | ⟨hl, a, h, hs, _⟩ | ⟨b, o, c, xs, rfl, hl, hb, hf, ho, hx⟩
  · exact .inl r
  · exact .inr (.inl ⟨hl, a, 0, h, hs⟩)
  · by_cases h0 : l = []
    · subst h0; exact .inr (.inl ⟨rfl, _, _, rfl, rfl⟩)
    · refine .inr (.inr ⟨b, o, _, rfl, h0, hb, ?_⟩)
      rw [hf]
      unfold cutB
      simp only
      rw [if_pos (by have := Nat.mul_le_mul_right E.w hl; omega), hx]

theorem Own.keep {S : Nat → Prop} (r : Own E H e v l) (h : Fr S H H') (hs : Off S v) : Own E H' e v l := by
  rcases r with r | ⟨hl, a, hv, hsp, hb⟩ | ⟨b, o, c, xs, rfl, hl, hb, hf, ho, hx⟩
  · exact .inl r
  · exact .inr (.inl ⟨hl, a, hv, hsp, Nat.lt_of_lt_of_le hb h.n⟩)
  · exact .inr (.inr ⟨b, o, c, xs, rfl, hl, Nat.lt_of_lt_of_le hb h.n, by rw [h.f hb (hs b rfl)]; exact hf, ho, hx⟩)
theorem Own.cell (r : Own E H e v l) : Eng.one v = true := by
  rcases r with ⟨_, rfl⟩ | ⟨_, a, rfl, _, hb⟩ | ⟨b', o, c, xs, rfl, _, hb, _⟩ <;> rfl
theorem Own.blk (r : Own E H e v l) {b : Nat} (h : blockOf v = some b) : b < H.n := by
  rcases r with ⟨_, rfl⟩ | ⟨_, a, rfl, _, hb⟩ | ⟨b', o, c, xs, rfl, _, hb, _⟩
  · cases h
  · cases h; exact hb
  · cases h; exact hb
theorem Own.still (r : Own E H e v l) (h : Still H H') : Own E H' e v l := r.keep h fun _ _ h => h

/-- Only its block, or one that is new, may be turned when it grows. -/
def OnlyOf (v : Value) : Nat → Prop := fun b => blockOf v = some b

theorem Fr.kill (H : AHeap) (b : Nat) : Fr (fun c => c = b) H (H.set b .dead) := (Fr.refl H).set b _ fun _ => rfl

/-- Appending to a list of its own. -/
theorem Own.app (r : Own E H e v l) {m : List α} (hm : m ≠ []) {sz bytes : Nat} (hsz : sz = E.w) (hb : (l.length + m.length) * bytes ≤ 140737488355328) (hn : l.length + m.length ≤ 140737488355328)
    {src : Option (Nat × List Value)} (hsrc : src = some (m.length, E.cells m)) :
    ∃ v' H', Eng.app e sz bytes v src H = some (v', H') ∧ Own E H' e v' (l ++ m) ∧ Fr (OnlyOf v) H H' ∧ (blockOf v' = blockOf v ∨ blockOf v' = some H.n) ∧ gr 9 v' = false := by
  subst hsz hsrc
  have hm0 : m.length ≠ 0 := fun h => hm (List.length_eq_zero_iff.1 h)
  have hbig : ¬ ((l.length + m.length) * bytes > 140737488355328 ∨ l.length + m.length > 140737488355328) := by omega
  have hone := E.cells_one m
  rcases r with ⟨rfl, rfl⟩ | ⟨rfl, ⟨b, o, s⟩, rfl, hs, hbb⟩ | ⟨b, o, c, xs, rfl, hl, hbn, hf, ho, hx⟩
  · refine ⟨.slice (some ⟨H.n, 0, none⟩) m.length (2 * m.length + 1), H.push (.cells (E.cells m) e true), ?_, ?_, (Fr.refl H).push _, .inr rfl, rfl⟩
    · simp only [List.length_nil, Nat.zero_add] at hbig
      simp only [Eng.app, Option.bind_some, hm0, if_false, Nat.zero_add, hbig, Nat.zero_div, Nat.le_zero_eq, hone, Bool.true_eq_false, oldOf, if_true, Nat.zero_mod, Option.map_some, List.nil_append]
    · refine .inr (.inr ⟨H.n, 0, m.length, E.cells m, by simp, by simp, by simp, by simp, by simp, ?_⟩)
      simp only [List.drop_zero, List.nil_append]
      rw [List.take_of_length_le (by simp)]
  · simp only at hs
    subst hs
    refine ⟨.slice (some ⟨H.n, 0, none⟩) m.length (2 * m.length + 1), H.push (.cells (E.cells m) e true), ?_, ?_, (Fr.refl H).push _, .inr rfl, rfl⟩
    · simp only [List.length_nil, Nat.zero_add] at hbig
      simp only [Eng.app, Option.bind_some, hm0, if_false, Nat.zero_add, hbig, Nat.zero_div, Nat.le_zero_eq, hone, Bool.true_eq_false, oldOf, if_true, Nat.zero_mod, Option.map_some, List.nil_append]
    · refine .inr (.inr ⟨H.n, 0, m.length, E.cells m, by simp, by simp, by simp, by simp, by simp, ?_⟩)
      simp only [List.drop_zero, List.nil_append]
      rw [List.take_of_length_le (by simp)]
  · have hc2 : (2 * c + 1) / 2 = c := by omega
    have hc3 : (2 * c + 1) % 2 = 1 := by omega
    have hmulc := Nat.mul_le_mul_right E.w hl
    by_cases hroom : l.length + m.length ≤ c
    · have hmul := Nat.mul_le_mul_right E.w hroom
      rw [Nat.add_mul] at hmul
      refine ⟨.slice (some ⟨b, o, none⟩) (l.length + m.length) (2 * c + 1), H.set b (.cells (spl xs (o + l.length * E.w) (E.cells m)) e true), ?_, ?_, (Fr.refl H).set b _ fun _ => rfl, .inl rfl, rfl⟩
      · simp only [Eng.app, Option.bind_some, hm0, if_false, hbig, hc2, hroom, if_true, stL_b, hf]
        rw [wrL_c (by simp; omega) hone]
        rfl
      · refine .inr (.inr ⟨b, o, c, _, by simp, by simp; omega, by simpa using hbn, set_f_eq, ?_, ?_⟩)
        · rw [spl_length, ho]
        · apply List.ext_getElem?
          intro j
          rw [List.length_append, Nat.add_mul]
          by_cases hj : j < l.length * E.w + m.length * E.w
          · rw [List.getElem?_take_of_lt hj, List.getElem?_drop, spl_get _ _ _ _ (by simp; omega), E.cells_append, List.getElem?_append, E.cells_len, E.cells_len]
            by_cases h1 : j < l.length * E.w
            · rw [if_neg (by omega), if_pos h1, ← hx, List.getElem?_take_of_lt h1, List.getElem?_drop]
            · rw [if_pos (by omega), if_neg h1, show o + j - (o + l.length * E.w) = j - l.length * E.w by omega]
          · rw [List.getElem?_eq_none (by simp; omega), List.getElem?_eq_none (by simp [Nat.add_mul]; omega)]
    · refine ⟨.slice (some ⟨H.n, 0, none⟩) (l.length + m.length) (2 * (l.length + m.length) + 1), (H.set b .dead).push (.cells (E.cells l ++ E.cells m) e true), ?_, ?_, Fr.push (Fr.set (S := OnlyOf (.slice (some ⟨b, o, none⟩) l.length (2 * c + 1))) (Fr.refl H) b _ (fun _ => rfl)) _, .inr rfl, rfl⟩
      · have hold : oldOf E.w l.length H (some ⟨b, o, none⟩) = some (E.cells l) := by
          unfold oldOf
          split
          · rename_i h0; rw [List.length_eq_zero_iff.1 h0]; rfl
          · simp only [cut_b, hf]
            rw [cutB_c (by omega), hx]
        have hkill : kill H e c E.w (some ⟨b, o, none⟩) = some (H.set b .dead) := by
          unfold kill
          simp only [hf, true_and, ho, if_true]
        simp only [Eng.app, Option.bind_some, hm0, if_false, hbig, hc2, hroom, hone, Bool.true_eq_false, hold, hc3, Nat.one_ne_zero, hkill, Option.map_some, set_n']
      · refine .inr (.inr ⟨H.n, 0, l.length + m.length, E.cells l ++ E.cells m, by simp, by simp, by simp, push_f_eq rfl, by simp [Nat.add_mul], ?_⟩)
        simp only [List.drop_zero]
        rw [List.take_of_length_le (by simp [Nat.add_mul]), E.cells_append]

/-- Cutting off the front. -/
theorem Own.drop (r : Own E H e v l) {sz : Nat} (hsz : sz = E.w) {i : Nat} (hi : i ≤ l.length) {q : IntKind} : ∃ v', slS e sz v (some (.int q (i : Int))) none none H = some v' ∧ Own E H e v' (l.drop i) ∧ blockOf v' = blockOf v := by
  subst hsz
  rcases r with ⟨rfl, rfl⟩ | ⟨rfl, ⟨b, o, s⟩, rfl, hs, hbb⟩ | ⟨b, o, c, xs, rfl, hl, hbn, hf, ho, hx⟩
  · simp only [List.length_nil, Nat.le_zero_eq] at hi
    subst hi
    exact ⟨.slice none 0 0, rfl, .inl ⟨by simp, rfl⟩, rfl⟩
  · simp only at hs
    subst hs
    simp only [List.length_nil, Nat.le_zero_eq] at hi
    subst hi
    exact ⟨.slice (some ⟨b, o, none⟩) 0 0, by simp [slS, highOf, lowOf, bnd], .inr (.inl ⟨by simp, _, rfl, rfl, hbb⟩), rfl⟩
  · have hc2 : (2 * c + 1) / 2 = c := by omega
    have hmul := Nat.mul_le_mul_right E.w hl
    have hmi := Nat.mul_le_mul_right E.w hi
    refine ⟨.slice (some ⟨b, o + i * E.w, none⟩) (l.length - i) (2 * (c - i) + 1), ?_, .inr (.inr ⟨b, o + i * E.w, c - i, xs, by simp, by simp; omega, hbn, hf, by rw [Nat.sub_mul]; omega, ?_⟩), rfl⟩
    · simp only [slS, highOf, lowOf, bnd, hc2, Option.bind_some, show (0 : Int) ≤ (i : Int) ∧ (i : Int) ≤ (l.length : Nat) from ⟨by omega, by omega⟩, Int.toNat_natCast, hl, hf, rowOf, show (2 * c + 1) % 2 = 1 by omega]
      simp
    · rw [List.length_drop, Nat.sub_mul, ← E.cells_drop, ← hx, List.drop_take, List.drop_drop]

/-- A front part that is only read. -/
theorem Own.front (r : Own E H e v l) {sz : Nat} (hsz : sz = E.w) {i : Nat} (hi : i ≤ l.length) {q : IntKind} : ∃ v', slS e sz v none (some (.int q (i : Int))) (some (.int q (i : Int))) H = some v' ∧ Rd E H v' (l.take i) ∧ blockOf v' = blockOf v := by
  subst hsz
  rcases r with ⟨rfl, rfl⟩ | ⟨rfl, ⟨b, o, s⟩, rfl, hs, hbb⟩ | ⟨b, o, c, xs, rfl, hl, hbn, hf, ho, hx⟩
  · simp only [List.length_nil, Nat.le_zero_eq] at hi
    subst hi
    exact ⟨.slice none 0 0, rfl, .inl ⟨by simp, rfl⟩, rfl⟩
  · simp only at hs
    subst hs
    simp only [List.length_nil, Nat.le_zero_eq] at hi
    subst hi
    exact ⟨.slice (some ⟨b, o, none⟩) 0 0, by simp [slS, lowOf, bnd], .inr (.inl ⟨by simp, _, _, rfl, rfl⟩), rfl⟩
  · have hc2 : (2 * c + 1) / 2 = c := by omega
    have hmul := Nat.mul_le_mul_right E.w hl
    have hmi := Nat.mul_le_mul_right E.w hi
    have hval : slS e E.w (.slice (some ⟨b, o, none⟩) l.length (2 * c + 1)) none (some (.int q (i : Int))) (some (.int q (i : Int))) H = some (.slice (some ⟨b, if i = 0 then o else o + 0 * E.w, none⟩) (i - 0) (2 * (i - 0))) := by
      simp only [slS, lowOf, bnd, hc2, Option.bind_some, show (0 : Int) ≤ (i : Int) ∧ (i : Int) ≤ (c : Nat) from ⟨by omega, by omega⟩, show (0 : Int) ≤ (i : Int) ∧ (i : Int) ≤ (i : Nat) from ⟨by omega, by omega⟩, Int.toNat_natCast, and_self, if_true, Option.map_some]
    refine ⟨_, hval, ?_, rfl⟩
    have e1 : (if i = 0 then o else o + 0 * E.w) = o := by split <;> omega
    rw [e1, Nat.sub_zero]
    by_cases h0 : i = 0
    · subst h0; exact .inr (.inl ⟨by simp, _, _, rfl, rfl⟩)
    · have hlen : (l.take i).length = i := by simp; omega
      refine .inr (.inr ⟨b, o, 2 * i, by rw [hlen], fun h => h0 (by rw [← hlen, h]; rfl), hbn, ?_⟩)
      rw [hlen, hf, cutB_c (by omega), ← E.cells_take, ← hx, List.take_take, Nat.min_eq_left hmi]

end Go.Proofs.Ytlbieadnfgfhlaa.Eng

/-
  The engine, part 24: more numbers: shifts, quotients, conversions.
  Conditions: none. By an AI agent.
-/
namespace Go.Proofs.Ytlbieadnfgfhlaa.Eng
open Go

variable {P : Program} {H : AHeap}

theorem xbin_gr {op : BinOp} {t : TypeId} {ox oy : Operand} {q q' : IntKind} {a b : Int} {v : Value} (h : pv P (do eqGuard op t ox oy (.int q a) (.int q' b); binOp op t (.int q a) (.int q' b)) = some v) (hg : gr 9 v = true) :
    xbin P op t ox oy (.int q a) (.int q' b) = some v := by
  have e : xbin P op t ox oy (.int q a) (.int q' b) = pvg P (do eqGuard op t ox oy (.int q a) (.int q' b); binOp op t (.int q a) (.int q' b)) := rfl
  rw [e, pvg_some h hg]

@[go_sem] theorem shr_lit {t : TypeId} {ox oy : Operand} {q q' : IntKind} {a b : Int} (h : 0 ≤ b ∧ b < 8) : xbin P .shr t ox oy (.int q a) (.int q' b) = some (.int q (a / 2 ^ b.toNat)) := by
  refine xbin_gr ?_ rfl
  have hb : ¬ b < 0 := by omega
  have hm : min b.toNat q.bits = b.toNat := by cases q <;> simp [IntKind.bits] <;> omega
  simp [eqGuard, binOp, Op.shift, Bind.bind, Sem.bind, Pure.pure, pv, hb, hm]
  rw [Int.fdiv_eq_ediv_of_nonneg]
  exact Int.pow_nonneg (by decide)

theorem wrap_u64 {n : Int} (h1 : 0 ≤ n ∧ n < 18446744073709551616) : IntKind.wrap .u64 n = n := by
  unfold IntKind.wrap
  simp only [IntKind.bits, IntKind.signed, Bool.false_and]
  simp
  omega
theorem wrap_u32 {n : Int} (h1 : 0 ≤ n ∧ n < 4294967296) : IntKind.wrap .u32 n = n := by
  unfold IntKind.wrap
  simp only [IntKind.bits, IntKind.signed, Bool.false_and]
  simp
  omega
theorem wrap_u8 {n : Int} (h1 : 0 ≤ n ∧ n < 256) : IntKind.wrap .u8 n = n := by
  unfold IntKind.wrap
  simp only [IntKind.bits, IntKind.signed, Bool.false_and]
  simp
  omega
attribute [go_sem] wrap_i64 wrap_u64 wrap_u32 wrap_u8

end Go.Proofs.Ytlbieadnfgfhlaa.Eng

/-
  The engine, part 25: inserting into, and deleting from, a list of its own.
  Conditions: none. By an AI agent.
-/
namespace Go.Proofs.Ytlbieadnfgfhlaa.Eng
open Go
set_option linter.unusedVariables false
set_option linter.unusedSimpArgs false

variable {P : Program} {α : Type} {E : Enc α} {H H' : AHeap} {v : Value} {l : List α} {e : TypeId}

theorem bnd_nat {y i : Nat} {q : IntKind} (h : i ≤ y) : bnd y (.int q (i : Int)) = some i := by
  unfold bnd
  simp only [Int.toNat_natCast]
  rw [if_pos ⟨by omega, by omega⟩]

theorem sl_lo {b o n c i sz : Nat} {q : IntKind} {xs : List Value} (hf : H.f b = .cells xs e true) (hi : i ≤ n) (hn : n ≤ c) :
    slS e sz (.slice (some ⟨b, o, none⟩) n (2 * c + 1)) (some (.int q (i : Int))) none none H = some (.slice (some ⟨b, o + i * sz, none⟩) (n - i) (2 * (c - i) + 1)) := by
  simp only [slS, highOf, lowOf, bnd_nat hi, show (2 * c + 1) / 2 = c by omega, Option.bind_some, hn, if_true, show ¬ ((2 * c + 1) % 2 = 0) by omega, if_false, hf, rowOf, beq_self_eq_true]
theorem sl_hi {b o n c i sz : Nat} {q : IntKind} {xs : List Value} (hf : H.f b = .cells xs e true) (hi : i ≤ c) :
    slS e sz (.slice (some ⟨b, o, none⟩) n (2 * c + 1)) none (some (.int q (i : Int))) none H = some (.slice (some ⟨b, o, none⟩) i (2 * c + 1)) := by
  simp only [slS, highOf, lowOf, show (2 * c + 1) / 2 = c by omega, bnd_nat hi, Option.bind_some, hi, if_true, show ¬ ((2 * c + 1) % 2 = 0) by omega, if_false, hf, rowOf, beq_self_eq_true]
  simp
theorem sl_lohi {b o n c i j sz : Nat} {q q' : IntKind} {xs : List Value} (hf : H.f b = .cells xs e true) (hi : i ≤ j) (hj : j ≤ c) :
    slS e sz (.slice (some ⟨b, o, none⟩) n (2 * c + 1)) (some (.int q (i : Int))) (some (.int q' (j : Int))) none H = some (.slice (some ⟨b, o + i * sz, none⟩) (j - i) (2 * (c - i) + 1)) := by
  simp only [slS, highOf, lowOf, show (2 * c + 1) / 2 = c by omega, bnd_nat hj, bnd_nat hi, Option.bind_some, hj, if_true, show ¬ ((2 * c + 1) % 2 = 0) by omega, if_false, hf, rowOf, beq_self_eq_true]
theorem sl_three {b o n c i j m sz : Nat} {q q' q'' : IntKind} (hi : i ≤ j) (hj : j ≤ m) (hm : m ≤ c) :
    slS e sz (.slice (some ⟨b, o, none⟩) n (2 * c + 1)) (some (.int q (i : Int))) (some (.int q' (j : Int))) (some (.int q'' (m : Int))) H = some (.slice (some ⟨b, if m = i then o else o + i * sz, none⟩) (j - i) (2 * (m - i))) := by
  simp only [slS, lowOf, show (2 * c + 1) / 2 = c by omega, bnd_nat hm, bnd_nat hj, bnd_nat hi, Option.bind_some, Option.map_some]

/-! ### Insert -/
theorem Enc.cells_ins (E : Enc α) (l m : List α) (i : Nat) : E.cells (l.take i ++ (m ++ l.drop i)) = E.cells (l.take i) ++ (E.cells m ++ E.cells (l.drop i)) := by
  rw [E.cells_append, E.cells_append]

theorem zeros_all {z : List Value} (h : z.all one = true) : ∀ n, (zeros z n).all one = true
  | 0 => rfl
  | n + 1 => by rw [zeros, List.all_append, h, zeros_all h n]; rfl

theorem insS_own {el : TypeId} {z : List Value} {b o c i bv ov cv : Nat} {xs ys : List Value} {ev : TypeId} {m : List α} (hz : z.length = E.w) (hzo : z.all one = true)
    (hl : l.length ≤ c) (hb : b < H.n) (hf : H.f b = .cells xs el true) (ho : o + c * E.w = xs.length) (hx : (xs.drop o).take (l.length * E.w) = E.cells l)
    (hi : i < l.length) (hm : m ≠ []) (hfv : H.f bv = .cells ys ev true) (hbv : bv ≠ b) (htq : tailQ P ev = 1) (hy : ov + m.length * E.w ≤ ys.length) (hyc : (ys.drop ov).take (m.length * E.w) = E.cells m)
    (h1 : (l.length + m.length) * P.bytesOf el ≤ 140737488355328) (h2 : l.length + m.length ≤ 140737488355328) :
    ∃ v' H', insS P el z [.slice (some ⟨b, o, none⟩) l.length (2 * c + 1), .int .i64 (i : Int), .slice (some ⟨bv, ov, none⟩) m.length cv] H = some (v', H') ∧ Own E H' el v' (l.take i ++ (m ++ l.drop i)) ∧
      Fr (fun x => x = b) H H' ∧ (blockOf v' = some b ∨ blockOf v' = some H.n) := by
  have hw := E.pos
  have hm0 : m.length ≠ 0 := fun h => hm (List.length_eq_zero_iff.1 h)
  have hc2 : (2 * c + 1) / 2 = c := by omega
  have hmul := Nat.mul_le_mul_right E.w hl
  have hmi := Nat.mul_le_mul_right E.w (Nat.le_of_lt hi)
  have hsub : (l.length - i) * E.w = l.length * E.w - i * E.w := Nat.sub_mul ..
  have htail : (xs.drop (o + i * E.w)).take ((l.length - i) * E.w) = E.cells (l.drop i) := by
    rw [← E.cells_drop, ← hx, List.drop_take, List.drop_drop, hsub]
  have hhead : (xs.drop o).take (i * E.w) = E.cells (l.take i) := by
    rw [← E.cells_take, ← hx, List.take_take, Nat.min_eq_left hmi]
  have hxpos : 0 < xs.length := by
    have : 0 < l.length := by omega
    have := Nat.mul_pos this hw
    omega
  have hcond : (2 * c + 1) % 2 = 1 ∧ True ∧ i < l.length ∧ l.length ≤ (2 * c + 1) / 2 ∧ m.length ≠ 0 ∧ (l.length + m.length) * P.bytesOf el ≤ 140737488355328 ∧ l.length + m.length ≤ 140737488355328 ∧ bv ≠ b ∧ tailQ P ev = 1 ∧ o + (2 * c + 1) / 2 * z.length = xs.length ∧
          ov + m.length * z.length ≤ ys.length ∧ 0 < xs.length ∧ ((ys.drop ov).take (m.length * z.length)).all one = true ∧ ((xs.drop (o + i * z.length)).take ((l.length - i) * z.length)).all one = true ∧ (zeros z (l.length + m.length - i)).all one = true := by
    rw [hc2, hz]
    exact ⟨by omega, trivial, hi, hl, hm0, h1, h2, hbv, htq, ho, hy, hxpos, by rw [hyc]; exact E.cells_one m, by rw [htail]; exact E.cells_one _, zeros_all hzo _⟩
  have hval : insS P el z [.slice (some ⟨b, o, none⟩) l.length (2 * c + 1), .int .i64 (i : Int), .slice (some ⟨bv, ov, none⟩) m.length cv] H =
      if l.length + m.length ≤ c then
          some (.slice (some ⟨b, o, none⟩) (l.length + m.length) (2 * c + 1),
            (H.set b (.cells (spl xs (o + (i + m.length) * E.w) (E.cells (l.drop i))) el true)).set b
              (.cells (spl (spl xs (o + (i + m.length) * E.w) (E.cells (l.drop i))) (o + i * E.w) (E.cells m)) el true))
        else some (.slice (some ⟨H.n, 0, none⟩) (l.length + m.length) (2 * (l.length + m.length) + 1),
            (H.set b .dead).push (.cells (E.cells (l.take i) ++ (E.cells m ++ E.cells (l.drop i))) el true)) := by
    show (match H.f b, H.f bv with
      | .cells xs e true, .cells ys ev true => _
      | _, _ => none) = _
    rw [hf, hfv]
    simp only
    rw [if_pos hcond]
    simp only [hc2, hz, htail, hhead, hyc]
  have hlen3 : (l.take i ++ (m ++ l.drop i)).length = l.length + m.length := by simp; omega
  rw [hval]
  by_cases hroom : l.length + m.length ≤ c
  · rw [if_pos hroom]
    have hmulr := Nat.mul_le_mul_right E.w hroom
    rw [Nat.add_mul] at hmulr
    refine ⟨_, _, rfl, ?_, Fr.set (S := fun x => x = b) (Fr.set (Fr.refl H) b _ (fun _ => rfl)) b _ (fun _ => rfl), .inl rfl⟩
    refine .inr (.inr ⟨b, o, c, _, by rw [hlen3], by rw [hlen3]; exact hroom, hb, set_f_eq, by rw [spl_length, spl_length, ho], ?_⟩)
    rw [hlen3, E.cells_ins]
    have hA : i * E.w + m.length * E.w + (l.length - i) * E.w = (l.length + m.length) * E.w := by rw [hsub, Nat.add_mul]; omega
    have hcl : (E.cells (l.drop i)).length = (l.length - i) * E.w := by simp
    have hclm : (E.cells m).length = m.length * E.w := by simp
    have hins := fun j hj => ins_cells (xs := xs) (new := E.cells m) (o := o) (A := i * E.w) (M := m.length * E.w) (T := (l.length - i) * E.w) (by omega) hclm (j := j) hj
    apply List.ext_getElem?
    intro j
    by_cases hj : j < (l.length + m.length) * E.w
    · rw [List.getElem?_take_of_lt hj, List.getElem?_drop]
      have := hins j (by rw [hA]; exact hj)
      rw [htail, hhead] at this
      rw [show o + (i + m.length) * E.w = o + (i * E.w + m.length * E.w) by rw [Nat.add_mul]]
      exact this
    · have hlt : (E.cells (l.take i)).length = i * E.w := by rw [E.cells_len, List.length_take, Nat.min_eq_left (Nat.le_of_lt hi)]
      rw [List.getElem?_eq_none (by simp only [List.length_take]; omega), List.getElem?_eq_none (by rw [List.length_append, List.length_append, hlt, hclm, hcl]; omega)]
  · rw [if_neg hroom]
    refine ⟨_, _, rfl, ?_, Fr.push (Fr.set (S := fun x => x = b) (Fr.refl H) b _ (fun _ => rfl)) _, .inr rfl⟩
    refine .inr (.inr ⟨H.n, 0, l.length + m.length, _, by rw [hlen3], by rw [hlen3]; exact Nat.le_refl _, by simp, push_f_eq rfl, ?_, ?_⟩)
    · rw [List.length_append, List.length_append, E.cells_len, E.cells_len, E.cells_len, List.length_take, List.length_drop, Nat.min_eq_left (Nat.le_of_lt hi), hsub, Nat.add_mul]; omega
    · rw [hlen3, E.cells_ins, List.drop_zero]
      apply List.take_of_length_le
      rw [List.length_append, List.length_append, E.cells_len, E.cells_len, E.cells_len, List.length_take, List.length_drop, Nat.min_eq_left (Nat.le_of_lt hi), hsub, Nat.add_mul]; omega

theorem del_cells {xs z : List Value} {o i : Nat} (hz : z.length = E.w) (hi : i < l.length) (hxl : o + l.length * E.w ≤ xs.length) (hx : (xs.drop o).take (l.length * E.w) = E.cells l) :
    ((spl (spl xs (o + i * E.w) (E.cells (l.drop (i + 1)))) (o + (l.length - 1) * E.w) z).drop o).take ((l.take i ++ l.drop (i + 1)).length * E.w) = E.cells (l.take i ++ l.drop (i + 1)) := by
  have hlen : (l.take i ++ l.drop (i + 1)).length = l.length - 1 := by simp; omega
  have hm1 : (l.length - 1) * E.w = l.length * E.w - E.w := by rw [Nat.sub_mul, Nat.one_mul]
  have hm2 : (l.length - (i + 1)) * E.w = l.length * E.w - (i * E.w + E.w) := by rw [Nat.sub_mul, Nat.add_mul, Nat.one_mul]
  have hm3 : (i + 1) * E.w ≤ l.length * E.w := Nat.mul_le_mul_right _ hi
  rw [Nat.add_mul, Nat.one_mul] at hm3
  have hcl : (E.cells (l.drop (i + 1))).length = l.length * E.w - (i * E.w + E.w) := by rw [E.cells_len, List.length_drop, hm2]
  have hct : (E.cells (l.take i)).length = i * E.w := by rw [E.cells_len, List.length_take, Nat.min_eq_left (Nat.le_of_lt hi)]
  rw [hlen, hm1, E.cells_append]
  apply List.ext_getElem?
  intro j
  by_cases hj : j < l.length * E.w - E.w
  · rw [List.getElem?_take_of_lt hj, List.getElem?_drop, spl_get _ _ _ _ (by rw [spl_length, hz]; omega), if_neg (by omega), spl_get _ _ _ _ (by rw [hcl]; omega), hcl, List.getElem?_append, hct]
    by_cases h1 : j < i * E.w
    · rw [if_neg (by omega), if_pos h1, ← E.cells_take, List.getElem?_take_of_lt h1, ← hx, List.getElem?_take_of_lt (by omega), List.getElem?_drop]
    · rw [if_pos (by omega), if_neg h1, show o + j - (o + i * E.w) = j - i * E.w by omega]
  · rw [List.getElem?_eq_none (by simp only [List.length_take]; omega), List.getElem?_eq_none (by rw [List.length_append, hct, hcl]; omega)]

/-! ### Functions without loops, run as they stand -/
def noLoop : DCode → Bool
  | .seq a b => noLoop a && noLoop b
  | .cond _ _ a b => noLoop a && noLoop b
  | .block _ _ b => noLoop b
  | .loop _ _ => false
  | _ => true

theorem dCode_noLoop {N n : Nat} {call : CallF} : ∀ (c : DCode), noLoop c = true → dCode P N call n c = dCodeI P N call c
  | .skip, _ => rfl
  | .region _ _ _, _ => rfl
  | .seq a b, h => by
    simp only [noLoop, Bool.and_eq_true] at h
    funext T H
    rw [dCode, dCodeI, dCode_noLoop a h.1, dCode_noLoop b h.2]
    rfl
  | .cond keep c a b, h => by
    simp only [noLoop, Bool.and_eq_true] at h
    funext T H
    rw [dCode, dCodeI, dCode_noLoop a h.1, dCode_noLoop b h.2]
    rfl
  | .block keep id b, h => by
    funext T H
    rw [dCode, dCodeI, dCode_noLoop b h]
    rfl
  | .loop _ _, h => by simp [noLoop] at h
  | .exit _, _ => rfl
  | .ret _, _ => rfl
  | .bad _, _ => rfl

theorem dBody_noLoop {hints : Hints} {call : CallF} {n : Nat} {f : FuncId} {args : List Value} (h : noLoop (codeOf P hints f) = true) : dBody P hints call n f args H = dBodyL stdL P hints call limLP f args H := by
  unfold codeOf at h
  unfold dBody dBodyL
  cases hf : P.funcs[f]? with
  | none => rfl
  | some fn =>
    rw [hf] at h
    simp only at h ⊢
    cases hb : fn.body with
    | none => rfl
    | some c =>
      rw [hb] at h
      simp only at h ⊢
      rw [dCodeL_eq, dCode_noLoop _ h]
      congr 1
      funext r
      obtain ⟨x, T, H⟩ := r
      cases x with
      | normal => simp only [endK]; rw [resValsK_eq]; cases resVals P H T _ <;> rfl
      | exit i => rfl
      | ret => simp only [endK]; rw [resValsK_eq]; cases resVals P H T _ <;> rfl

@[go_sem, go_sem ↓] theorem nextK_none {call : CallF} {k : Value → AHeap → Res} : nextK call H none k = none := _root_.id rfl
@[go_sem, go_sem ↓] theorem bareK_none {k : Value → AHeap → Res} : bareK none H k = none := _root_.id rfl
theorem cap_odd {t : TypeId} {b o n c : Nat} : xbuiltin P .cap [t] [.slice (some ⟨b, o, none⟩) n (2 * c + 1)] H = none := by
  show bare (xcap P [t] (.slice (some ⟨b, o, none⟩) n (2 * c + 1))) H = none
  have : xcap P [t] (.slice (some ⟨b, o, none⟩) n (2 * c + 1)) = none := by
    unfold xcap
    simp only
    split
    · rename_i h; cases h
    · rename_i h
      cases h
      rw [if_neg (by omega)]
    · rfl
  rw [this]; rfl

end Go.Proofs.Ytlbieadnfgfhlaa.Eng

/-
  The engine, part 26: structs of plain fields, compared.
  Conditions: none. By an AI agent.
-/
namespace Go.Proofs.Ytlbieadnfgfhlaa.Eng
open Go
set_option linter.unusedVariables false
set_option linter.unusedSimpArgs false

variable {P : Program} {H : AHeap}

theorem pv_bind {α β : Type} {P : Program} : ∀ (s : Sem α) (f : α → Sem β), pv P (s.bind f) = (pv P s).bind fun a => pv P (f a)
  | .pure a, f => rfl
  | .program k, f => pv_bind (k P) f
  | .load m a k, f => rfl
  | .store m a v k, f => rfl
  | .new o k, f => rfl
  | .shape r k, f => rfl
  | .freeze a n k, f => rfl
  | .frozen a k, f => rfl
  | .getObj r k, f => rfl
  | .setObj r o k, f => rfl
  | .choose q k, f => rfl
  | .sys c k, f => rfl
  | .mark m k, f => rfl
  | .halt h, f => rfl
theorem pv_bind' {α β : Type} (s : Sem α) (f : α → Sem β) : pv P (s >>= f) = (pv P s).bind fun a => pv P (f a) := pv_bind s f
theorem pv_pure {α : Type} (a : α) : pv P (pure a : Sem α) = some a := rfl
theorem pv_program : pv P program = some P := rfl
theorem pv_ite {α : Type} {c : Prop} [Decidable c] (a b : Sem α) : pv P (if c then a else b) = if c then pv P a else pv P b := by split <;> rfl
theorem pv_und {t : TypeId} {d : TypeDesc} (h : P.underlying t = some d) : pv P (underlying t) = some d := by
  unfold underlying
  simp only [pv_bind', pv_program, Option.bind_some, h]
  rfl

def ceq : Value → Value → Bool
  | .int _ a, .int _ b => decide (a = b)
  | .string a, .string b => decide (bl a = bl b)
  | .bool a, .bool b => a == b
  | _, _ => false

def ceqs : List Value → List Value → Bool
  | [], [] => true
  | a :: x, b :: y => ceq a b && ceqs x y
  | _, _ => false

def fitC (P : Program) (t : TypeId) (v w : Value) : Bool :=
  match P.underlying t, v, w with
  | some (.int _), .int k _, .int k' _ => k == k'
  | some .string, .string _, .string _ => true
  | some .bool, .bool _, .bool _ => true
  | _, _, _ => false

def fits (P : Program) : List Field → Nat → List Value → List Value → Bool
  | [], _, [], [] => true
  | f :: fs, i, a :: x, b :: y => f.name != "_" && f.offset == i && fitC P f.type a b && fits P fs (i + 1) x y
  | _, _, _, _ => false

theorem bytes_beq (a b : ByteArray) : (a == b) = decide (bl a = bl b) := by
  rw [beq_toListBytes, ByteArray.toList_eq, ByteArray.toList_eq, Bool.beq_eq_decide_eq]
  rfl

theorem pv_cell {t : TypeId} {d : Nat} {a b : Value} (h : fitC P t a b = true) : pv P (Op.equalIn (d + 1) t a b) = some (ceq a b) := by
  unfold fitC at h
  split at h
  · rename_i k k1 x k2 y hu
    have hk : k1 = k2 := by simpa using h
    subst hk
    simp only [Op.equalIn, pv_bind', pv_und hu, Option.bind_some, if_true, pv_pure, ceq, Bool.beq_eq_decide_eq]
  · rename_i x y hu
    simp only [Op.equalIn, pv_bind', pv_und hu, Option.bind_some, pv_pure, ceq, bytes_beq]
  · rename_i x y hu
    simp only [Op.equalIn, pv_bind', pv_und hu, Option.bind_some, pv_pure, ceq]
  · cases h

theorem pv_part {t : TypeId} {a b : Value} (h : fitC P t a b = true) {xs : Array Value} {o : Nat} {v : Value} (hx : xs[o]? = some v) : pv P (part t xs o) = some v := by
  have hagg : pv P (isAgg t) = some false := by
    unfold isAgg
    unfold fitC at h
    split at h
    · rename_i hu; simp only [pv_bind', pv_und hu, Option.bind_some]; rfl
    · rename_i hu; simp only [pv_bind', pv_und hu, Option.bind_some]; rfl
    · rename_i hu; simp only [pv_bind', pv_und hu, Option.bind_some]; rfl
    · cases h
  unfold part
  simp only [pv_bind', hagg, Option.bind_some, Bool.false_eq_true, if_false, hx, pv_pure]

theorem pv_eqFields {d : Nat} : ∀ (fs : List Field) (i : Nat) (xs ys : Array Value) (x y : List Value), (∀ j, xs[i + j]? = x[j]?) → (∀ j, ys[i + j]? = y[j]?) → fits P fs i x y = true →
    pv P (Op.eqFields (d + 1) xs ys fs) = some (ceqs x y)
  | [], i, xs, ys, [], [], _, _, _ => rfl
  | f :: fs, i, xs, ys, a :: x, b :: y, hx, hy, h => by
    simp only [fits, Bool.and_eq_true, bne_iff_ne, ne_eq, beq_iff_eq] at h
    obtain ⟨⟨⟨h1, h2⟩, h3⟩, h4⟩ := h
    have ha : xs[i]? = some a := by simpa using hx 0
    have hb : ys[i]? = some b := by simpa using hy 0
    have ih := pv_eqFields (d := d) fs (i + 1) xs ys x y (fun j => by rw [show i + 1 + j = i + (j + 1) by omega, hx]; rfl) (fun j => by rw [show i + 1 + j = i + (j + 1) by omega, hy]; rfl) h4
    rw [Op.eqFields]
    simp only [ne_eq, h1, not_false_eq_true, if_true, pv_bind', h2, pv_part h3 ha, pv_part h3 hb, Option.bind_some, pv_cell h3, pv_ite, pv_pure, ih, ceqs]
    cases ceq a b <;> simp
  | [], _, _, _, _ :: _, _, _, _, h => by simp [fits] at h
  | [], _, _, _, [], _ :: _, _, _, h => by simp [fits] at h
  | _ :: _, _, _, _, [], _, _, _, h => by simp [fits] at h
  | _ :: _, _, _, _, _ :: _, [], _, _, h => by simp [fits] at h

theorem pv_equalIn_struct {d : Nat} {t : TypeId} {fs : Array Field} (xs ys : Array Value) (ht : P.underlying t = some (.struct fs)) (hp : P.stoodInHeld t = false) :
    pv P (Op.equalIn (d + 1) t (.agg xs) (.agg ys)) = pv P (Op.eqFields d xs ys fs.toList) := by
  simp only [Op.equalIn, pv_bind', pv_und ht, pv_program, Option.bind_some, hp, Bool.false_eq_true, if_false]
  rw [← Array.forIn_toList]
  generalize fs.toList = l
  clear ht
  induction l with
  | nil => simp [Op.eqFields, pv_pure]
  | cons f l ih =>
    simp only [List.forIn_cons, Op.eqFields, pv_bind', pv_ite]
    split
    · cases pv P (part f.type xs f.offset) with
      | none => rfl
      | some a =>
        simp only [Option.bind_some]
        cases pv P (part f.type ys f.offset) with
        | none => rfl
        | some b =>
          simp only [Option.bind_some]
          cases pv P (Op.equalIn d f.type a b) with
          | none => rfl
          | some r =>
            cases r
            · simp [pv_pure]
            · simp only [Option.bind_some, Bool.not_true, Bool.false_eq_true, if_false, pv_pure]
              exact ih
    · simp only [pv_pure, Option.bind_some]
      exact ih

theorem pv_equal {t : TypeId} {fs : Array Field} {xs ys : List Value} (ht : P.underlying t = some (.struct fs)) (hp : P.stoodInHeld t = false) (hf : fits P fs.toList 0 xs ys = true) :
    pv P (Op.equal t (.agg ⟨xs⟩) (.agg ⟨ys⟩)) = some (ceqs xs ys) := by
  have h := pv_equalIn_struct (P := P) (d := 9999) (t := t) ⟨xs⟩ ⟨ys⟩ ht hp
  have h2 := pv_eqFields (P := P) (d := 9998) fs.toList 0 ⟨xs⟩ ⟨ys⟩ xs ys (fun j => by simp) (fun j => by simp) hf
  exact h.trans h2

theorem agg_eq {t : TypeId} {fs : Array Field} {xs ys : List Value} {ox oy : Operand} (ht : P.underlying t = some (.struct fs)) (hp : P.stoodInHeld t = false) (hg : P.eqGuardType P.depth t = false) (hf : fits P fs.toList 0 xs ys = true)
    (g1 : gr 9 (.agg ⟨xs⟩) = true) (g2 : gr 9 (.agg ⟨ys⟩) = true) : xbin P .eql t ox oy (.agg ⟨xs⟩) (.agg ⟨ys⟩) = some (.bool (ceqs xs ys)) := by
  have e : xbin P .eql t ox oy (.agg ⟨xs⟩) (.agg ⟨ys⟩) = if gr 9 (.agg ⟨xs⟩) && gr 9 (.agg ⟨ys⟩) then pvg P (do eqGuard .eql t ox oy (.agg ⟨xs⟩) (.agg ⟨ys⟩); binOp .eql t (.agg ⟨xs⟩) (.agg ⟨ys⟩)) else (nilTest P t (.agg ⟨xs⟩) (.agg ⟨ys⟩)).map .bool := rfl
  rw [e, g1, g2]
  simp only [Bool.and_self, if_true]
  refine pvg_some ?_ rfl
  simp only [eqGuard, binOp, pv_bind', pv_program, Option.bind_some, hg, Bool.not_false, if_true, pv_pure, Bool.not_true, Bool.false_eq_true, if_false, pv_equal ht hp hf]
theorem agg_ne {t : TypeId} {fs : Array Field} {xs ys : List Value} {ox oy : Operand} (ht : P.underlying t = some (.struct fs)) (hp : P.stoodInHeld t = false) (hg : P.eqGuardType P.depth t = false) (hf : fits P fs.toList 0 xs ys = true)
    (g1 : gr 9 (.agg ⟨xs⟩) = true) (g2 : gr 9 (.agg ⟨ys⟩) = true) : xbin P .neq t ox oy (.agg ⟨xs⟩) (.agg ⟨ys⟩) = some (.bool (!ceqs xs ys)) := by
  have e : xbin P .neq t ox oy (.agg ⟨xs⟩) (.agg ⟨ys⟩) = if gr 9 (.agg ⟨xs⟩) && gr 9 (.agg ⟨ys⟩) then pvg P (do eqGuard .neq t ox oy (.agg ⟨xs⟩) (.agg ⟨ys⟩); binOp .neq t (.agg ⟨xs⟩) (.agg ⟨ys⟩)) else (nilTest P t (.agg ⟨xs⟩) (.agg ⟨ys⟩)).map fun b => .bool !b := rfl
  rw [e, g1, g2]
  simp only [Bool.and_self, if_true]
  refine pvg_some ?_ rfl
  simp only [eqGuard, binOp, pv_bind', pv_program, Option.bind_some, hg, Bool.not_false, if_true, pv_pure, Bool.not_true, Bool.false_eq_true, if_false, pv_equal ht hp hf]

/-! ### With fuel again: for what the kernel can reckon -/
def finLP (n : Nat) : LoopH := fun body keep T H k => dLoopK body keep n T H k

theorem dCodeL_fin {P : Program} {N n : Nat} {call : CallF} : ∀ (c : DCode), PieceK (dCode P N call n c) (dCodeL stdL P N call (finLP n) c)
  | .skip => fun _ _ _ => rfl
  | .region id ops draw => fun T H k => dCodeK_eq (P := P) (N := N) (call := call) (n := n) (.region id ops draw) T H k
  | .seq a b => fun T H k => by
    rw [dCodeL, dCode, dCodeL_fin a]
    cases dCode P N call n a T H with
    | none => rfl
    | some r =>
      obtain ⟨e, T', H'⟩ := r
      cases e with
      | normal => simp only [Option.bind_some, seqK]; exact dCodeL_fin b T' H' k
      | exit i => rfl
      | ret => rfl
  | .cond keep c x y => fun T H k => by
    rw [dCodeL, dCode, stdL_c]
    unfold condL
    cases ev T c with
    | bool b =>
      cases b with
      | true =>
        have hx := dCodeL_fin (P := P) (N := N) (call := call) (n := n) x T H (afterK keep k)
        simp only [if_true]
        rw [hx]
        cases dCode P N call n x T H with
        | none => rfl
        | some r => obtain ⟨e, T', H'⟩ := r; cases e <;> rfl
      | false =>
        have hy := dCodeL_fin (P := P) (N := N) (call := call) (n := n) y T H (afterK keep k)
        simp only [Bool.false_eq_true, if_false]
        rw [hy]
        cases dCode P N call n y T H with
        | none => rfl
        | some r => obtain ⟨e, T', H'⟩ := r; cases e <;> rfl
    | _ => rfl
  | .block keep id b => fun T H k => by
    rw [dCodeL, dCode, stdL_s]
    unfold shareL
    dsimp only
    rw [dCodeL_fin b]
    cases dCode P N call n b T H with
    | none => rfl
    | some r =>
      obtain ⟨e, T', H'⟩ := r
      cases e with
      | normal => rfl
      | exit j => simp only [Option.bind_some, Option.map_some, blkK]; split <;> rfl
      | ret => rfl
  | .loop keep b => fun T H k => by
    rw [dCodeL, dCode]
    exact dLoopK_eq (dCodeL_fin b) keep n T H k
  | .exit id => fun _ _ _ => rfl
  | .ret keep => fun _ _ _ => rfl
  | .bad c => fun _ _ _ => rfl

theorem dBody_fin {hints : Hints} {call : CallF} {n : Nat} {f : FuncId} {args : List Value} : dBody P hints call n f args H = dBodyL stdL P hints call (finLP n) f args H := by
  unfold dBody dBodyL
  cases hf : P.funcs[f]? with
  | none => rfl
  | some fn =>
    simp only
    cases hb : fn.body with
    | none => rfl
    | some c =>
      simp only
      rw [dCodeL_fin]
      congr 1
      funext r
      obtain ⟨x, T, H⟩ := r
      cases x with
      | normal => simp only [endK]; rw [resValsK_eq]; cases resVals P H T _ <;> rfl
      | exit i => rfl
      | ret => simp only [endK]; rw [resValsK_eq]; cases resVals P H T _ <;> rfl

/-- A law's run, by the value alone. -/
theorem run_fst {prims : Prims} {hints : Hints} {n : Nat} {f : FuncId} {args : List Value} (hp : prims f = none) (h : (dBodyL stdL P hints (dCall P prims hints n) (finLP n) f args H).map (·.1) = some (.bool true)) :
    ∃ k H', dCall P prims hints k f args H = some (.bool true, H') := by
  refine ⟨n + 1, ?_⟩
  have e : dCall P prims hints (n + 1) f args H = (dBody P hints (dCall P prims hints n) n f args H).map (tidy H) := by simp only [dCall, hp]
  rw [e, dBody_fin]
  cases hq : dBodyL stdL P hints (dCall P prims hints n) (finLP n) f args H with
  | none => rw [hq] at h; cases h
  | some r =>
    rw [hq] at h
    obtain ⟨v, H1⟩ := r
    simp at h
    subst h
    simp only [Option.map_some, tidy]
    split <;> exact ⟨_, rfl⟩

end Go.Proofs.Ytlbieadnfgfhlaa.Eng

/-
  A call that is reckoned with some fuel is one without fuel.
  Conditions: none. By an AI agent.
-/
set_option linter.all false
namespace Go.Proofs.Ytlbieadnfgfhlaa.Eng
open Go
theorem dLoop_body {body body' : Env → AHeap → DRes} (hb : ∀ T H r, body T H = some r → body' T H = some r) {keep : List Nat} : ∀ {m : Nat} {T : Env} {H : AHeap} {r : DExit × Env × AHeap}, dLoop body keep m T H = some r → dLoop body' keep m T H = some r
  | 0, _, _, _, h => by simp [dLoop] at h
  | m + 1, T, H, r, h => by
    rw [dLoop] at h ⊢
    cases hx : body (clr keep T) H with
    | none => rw [hx] at h; cases h
    | some x =>
      rw [hx] at h
      rw [hb _ _ _ hx]
      obtain ⟨e, T', H'⟩ := x
      cases e with
      | normal => exact dLoop_body hb h
      | exit i => exact h
      | ret => exact h

theorem code_fin {P : Program} {N m : Nat} {C : CallF} : ∀ (x : DCode) {T : Env} {H : AHeap} {r : DExit × Env × AHeap}, dCode P N C m x T H = some r → dCodeI P N C x T H = some r
  | .skip, _, _, _, h => h
  | .region id ops draw, T, H, r, h => h
  | .seq a b, T, H, r, h => by
    rw [dCode] at h
    obtain ⟨y, h1, h2⟩ := Option.bind_eq_some_iff.1 h
    rw [dCodeI, code_fin a h1]
    obtain ⟨e, T', H'⟩ := y
    cases e with
    | normal => exact code_fin b h2
    | exit j => exact h2
    | ret => exact h2
  | .cond keep q a b, T, H, r, h => by
    rw [dCode] at h
    rw [dCodeI]
    split at h
    · rename_i v hv
      obtain ⟨y, h1, h2⟩ := Option.map_eq_some_iff.1 h
      have key : (if v then dCodeI P N C a T H else dCodeI P N C b T H) = some y := by
        cases v with
        | true => simp only [if_true] at h1 ⊢; exact code_fin a h1
        | false => simp only [Bool.false_eq_true, if_false] at h1 ⊢; exact code_fin b h1
      rw [hv]
      simp only
      rw [key]
      exact congrArg some h2
    · cases h
  | .block keep id b, T, H, r, h => by
    rw [dCode] at h
    obtain ⟨y, h1, h2⟩ := Option.map_eq_some_iff.1 h
    rw [dCodeI, code_fin b h1]
    exact congrArg some h2
  | .loop keep b, T, H, r, h => by
    rw [dCode] at h
    rw [dCodeI, loopI_some]
    exact ⟨m, dLoop_body (fun T H r h => code_fin b h) h⟩
  | .exit id, _, _, _, h => h
  | .ret keep, _, _, _, h => h
  | .bad _, _, _, _, h => by simp [dCode] at h

theorem dCall_evt {P : Program} {prims : Prims} {hints : Hints} : ∀ (n : Nat), CApx (dCall P prims hints n) (dCall P prims hints)
  | 0 => fun f args H r h => by simp [dCall] at h
  | n + 1 => fun f args H r h => by
    cases hp : prims f with
    | some p =>
      simp only [dCall, hp] at h
      exact lim_some.1 (D_prim hp h)
    | none =>
      simp only [dCall, hp] at h
      obtain ⟨y, h1, rfl⟩ := Option.map_eq_some_iff.1 h
      have key : Evt (fun n => dBody P hints (dCall P prims hints n) n f args H) y := by
        unfold dBody at h1 ⊢
        cases hf : P.funcs[f]? with
        | none => rw [hf] at h1; cases h1
        | some fn =>
          rw [hf] at h1
          simp only at h1 ⊢
          cases hb : fn.body with
          | none => rw [hb] at h1; cases h1
          | some c =>
            rw [hb] at h1
            simp only at h1 ⊢
            obtain ⟨x, h2, h3⟩ := Option.bind_eq_some_iff.1 h1
            exact Evt.bind (code_apx (dCall_evt n) _ (code_fin _ h2)) (Evt.of_eq h3)
      obtain ⟨m, hm⟩ := key
      dsimp only at hm
      refine Evt.succ ⟨m, fun i hi => ?_⟩
      simp only [dCall, hp]
      rw [hm i hi]
      rfl

/-- What is reckoned with fuel is so. -/
theorem D_of {P : Program} {prims : Prims} {hints : Hints} {n : Nat} {f : FuncId} {args : List Value} {H : AHeap} {r : Value × AHeap} (h : dCall P prims hints n f args H = some r) :
    D P prims hints f args H = some r := lim_some.2 (dCall_evt n f args H r h)
/-- The same where only the value is told: a call that answers a bare value and leaves what was there. -/
theorem D_ofv {P : Program} {prims : Prims} {hints : Hints} {n : Nat} {f : FuncId} {args : List Value} {H : AHeap} {v : Value} (h : ((dCall P prims hints n f args H).map fun r => (r.1, gr 9 r.1 && still H r.2)) = some (v, true)) (hp : prims f = none) :
    D P prims hints f args H = some (v, H) := by
  cases n with
  | zero => simp [dCall] at h
  | succ n =>
    obtain ⟨r, h1, h2⟩ := Option.map_eq_some_iff.1 h
    have h0 := h1
    simp only [dCall, hp] at h1
    obtain ⟨y, h3, h4⟩ := Option.map_eq_some_iff.1 h1
    rw [D_of h0]
    obtain ⟨v1, H1⟩ := r
    simp only [Prod.mk.injEq] at h2
    obtain ⟨rfl, h2⟩ := h2
    obtain ⟨v2, H2⟩ := y
    unfold tidy at h4
    split at h4
    · simp only [Prod.mk.injEq] at h4; obtain ⟨rfl, rfl⟩ := h4; rfl
    · rename_i hn
      simp only [Prod.mk.injEq] at h4
      obtain ⟨rfl, rfl⟩ := h4
      exact absurd h2 hn

/-- A call's answer, whatever becomes of the heap. -/
theorem any_of {X : Res} {H H1 : AHeap} {v : Value} (h : X = some (tidy H (v, H1))) : ∃ H', X = some (v, H') := by
  unfold tidy at h
  split at h
  · exact ⟨_, h⟩
  · exact ⟨_, h⟩

end Go.Proofs.Ytlbieadnfgfhlaa.Eng
