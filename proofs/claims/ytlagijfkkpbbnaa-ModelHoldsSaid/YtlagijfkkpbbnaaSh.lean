/-
  The seat's functions as terms over the engine's combinators (a program of ours printed it).
  Conditions: none. By an AI agent.
-/
import Derived.Test.YtlagijfkkpbbnaaNames
import Derived.Test.YtlagijfkkpbbnaaEng22
import Derived.Test.YtlagijfkkpbbnaaHints
import Derived.Test.YtlagijfkkpbbnaaChecked
import Derived.KernelRfl
set_option linter.unusedVariables false
namespace Go.Proofs.Ytlagijfkkpbbnaa
open Go Eng

/-! (*ticketline.model.Model).Put -/

noncomputable def s_model_Model_Put (mg : GT) (mc : CT) (ms : ST) (P : Program) (C : CallF) (a0 : Value) (a1 : Value) (a2 : Value) (H : AHeap) (K0 : K) : Res :=
bothK (bldL T.string [(.string (mk []))] 1 [(0, a2)] H) fun t14 h1 =>
enterK C F.model_Model_at [a0, a1, t14] h1 fun t15 h2 =>
bareK (xextract t15 0) h2 fun t16 h3 =>
bareK (xextract t15 1) h3 fun t17 h4 =>
bareK (xextract t15 2) h4 fun t18 h5 =>
bareK (xbin P .neq T.api_Errno (.tmp 19) (.const (.int .i64 0)) t18 (.int .i64 0)) h5 fun t20 h6 =>
mc t20 (fun k1 => k1 .ret [(6, t18)] h6) (fun k1 =>
k1 .normal [(0, a0), (1, a1), (2, a2), (7, t16), (8, t17)] h6) (seqK (fun tT h7 =>
bareK (bldS #[(.string (mk [])), (.string (mk []))] [(0, 1), (1, 1)] [(0, (get tT 1)), (1, (get tT 2))]) h7 fun t27 h8 =>
enterK C F.model_Model_set [(get tT 0), (get tT 7), (get tT 8), t27] h8 fun t28 h9 =>
K0 .ret [(6, t28)] h9) K0)

theorem s_model_Model_Put_eq (M : CombL) (C : CallF) (LP : LoopH) (a0 : Value) (a1 : Value) (a2 : Value) (H : AHeap) : dBodyL M Try.prog hints C LP F.model_Model_Put [a0, a1, a2] H = s_model_Model_Put M.b.g M.c M.s Try.prog C a0 a1 a2 H (endK Try.prog [.tmp 6]) := by kernel_rfl

/-! (*ticketline.ticketlineref24.Model).Put -/

noncomputable def s_ref24_Model_Put (mg : GT) (mc : CT) (ms : ST) (P : Program) (C : CallF) (L0 : Value → Value → Value → Value → AHeap → K → Res) (a0 : Value) (a1 : Value) (a2 : Value) (H : AHeap) (K0 : K) : Res :=
bothK (bldL T.string [(.string (mk []))] 1 [(0, a2)] H) fun t13 h1 =>
enterK C F.ref24_bad [a1, t13] h1 fun t14 h2 =>
bareK (xbin P .neq T.api_Errno (.tmp 15) (.const (.int .i64 0)) t14 (.int .i64 0)) h2 fun t16 h3 =>
mc t16 (fun k1 => k1 .ret [(6, t14)] h3) (fun k1 =>
k1 .normal [(0, a0), (1, a1), (2, a2)] h3) (seqK (fun tT h4 =>
enterK C F.ref24_Model_find [(get tT 0), (get tT 1)] h4 fun t20 h5 =>
bareK (xbin P .geq T.int (.tmp 21) (.const (.int .i64 0)) t20 (.int .i64 0)) h5 fun t22 h6 =>
mc t22 (fun k2 => bareK (xnilCheck (get tT 0)) h6 fun t25 h7 =>
bareK (fad 0 t25) h7 fun t26 h8 =>
bareK (ld1 h8 t26) h8 fun t27 h9 =>
bothK (app T.api_Pair 2 32 (.slice none 0 0) (srcS 2 t27 h9) h9) fun t28 h10 =>
bareK (xnilCheck (get tT 0)) h10 fun t29 h11 =>
bareK (fad 0 t29) h11 fun t30 h12 =>
quietK (st1 h12 t30 t28) fun _ h13 =>
bareK (xnilCheck (get tT 0)) h13 fun t32 h14 =>
bareK (fad 0 t32) h14 fun t33 h15 =>
bareK (ld1 h15 t33) h15 fun t34 h16 =>
bareK (ixS 2 t34 t20) h16 fun t37 h17 =>
bareK (fad 1 t37) h17 fun t38 h18 =>
quietK (st1 h18 t38 (get tT 2)) fun _ h19 =>
k2 .ret [(6, (.int .i64 0))] h19) (fun k2 =>
k2 .normal [(0, (get tT 0)), (1, (get tT 1)), (2, (get tT 2))] h6) (seqK (fun tT_1 h20 =>
bareK (xnilCheck (get tT_1 0)) h20 fun t40 h21 =>
bareK (fad 0 t40) h21 fun t41 h22 =>
bareK (ld1 h22 t41) h22 fun t42 h23 =>
bareK (lenS t42) h23 fun t43 h24 =>
bareK (xbin P .geq T.int (.tmp 43) (.const (.int .i64 20000)) t43 (.int .i64 20000)) h24 fun t44 h25 =>
mc t44 (fun k3 => k3 .ret [(6, (.int .i64 7))] h25) (fun k3 =>
k3 .normal [(0, (get tT_1 0)), (1, (get tT_1 1)), (2, (get tT_1 2))] h25) (seqK (fun tT_2 h26 =>
ms (fun k4 =>
L0 (get tT_2 0) (get tT_2 1) (get tT_2 2) (.int .i64 0) h26 (blkK [0, 1, 2, 9] 0 k4)) (seqK (fun tT_3 h27 =>
bareK (bldS #[(.string (mk [])), (.string (mk []))] [(0, 1), (1, 1)] [(0, (get tT_3 1)), (1, (get tT_3 2))]) h27 fun t68 h28 =>
bothK (bldL T.api_Pair [(.string (mk [])), (.string (mk []))] 1 [(0, t68)] h28) fun t69 h29 =>
bareK (xnilCheck (get tT_3 0)) h29 fun t71 h30 =>
bareK (fad 0 t71) h30 fun t72 h31 =>
bareK (ld1 h31 t72) h31 fun t73 h32 =>
bareK (slS T.api_Pair 2 t73 (some (get tT_3 9)) none none h32) h32 fun t75 h33 =>
bothK (app T.api_Pair 2 32 t69 (srcS 2 t75 h33) h33) fun t76 h34 =>
bareK (xnilCheck (get tT_3 0)) h34 fun t79 h35 =>
bareK (fad 0 t79) h35 fun t80 h36 =>
bareK (ld1 h36 t80) h36 fun t81 h37 =>
bareK (slS T.api_Pair 2 t81 none (some (get tT_3 9)) none h37) h37 fun t83 h38 =>
bothK (app T.api_Pair 2 32 (.slice none 0 0) (srcS 2 t83 h38) h38) fun t84 h39 =>
bothK (app T.api_Pair 2 32 t84 (srcS 2 t76 h39) h39) fun t86 h40 =>
bareK (xnilCheck (get tT_3 0)) h40 fun t87 h41 =>
bareK (fad 0 t87) h41 fun t88 h42 =>
quietK (st1 h42 t88 t86) fun _ h43 =>
K0 .ret [(6, (.int .i64 0))] h43) K0)) K0)) K0)) K0)

noncomputable def s_ref24_Model_Put_b0 (mg : GT) (mc : CT) (ms : ST) (P : Program) (C : CallF) (L0 : Value → Value → Value → Value → AHeap → K → Res) (v0 : Value) (v1 : Value) (v2 : Value) (v9 : Value) (H : AHeap) (k : K) : Res :=
bareK (xnilCheck v0) H fun t47 h27 =>
bareK (fad 0 t47) h27 fun t48 h28 =>
bareK (ld1 h28 t48) h28 fun t49 h29 =>
bareK (lenS t49) h29 fun t50 h30 =>
bareK (xbin P .lss T.int (.tmp 45) (.tmp 50) v9 t50) h30 fun t51 h31 =>
mg t51 true (fun o5 => o5 v0 h31) h31 fun t53 h32 =>
mg t51 true (fun o6 => bareK (xnilCheck t53) h32 o6) h32 fun t54 h33 =>
mg t51 true (fun o7 => bareK (fad 0 t54) h33 o7) h33 fun t55 h34 =>
mg t51 true (fun o8 => bareK (ld1 h34 t55) h34 o8) h34 fun t56 h35 =>
mg t51 true (fun o9 => o9 v9 h35) h35 fun t57 h36 =>
mg t51 true (fun o10 => bareK (ixS 2 t56 t57) h36 o10) h36 fun t58 h37 =>
mg t51 true (fun o11 => bareK (fad 0 t58) h37 o11) h37 fun t59 h38 =>
mg t51 true (fun o12 => bareK (ld1 h38 t59) h38 o12) h38 fun t60 h39 =>
mg t51 true (fun o13 => o13 v1 h39) h39 fun t61 h40 =>
mg t51 true (fun o14 => bareK (xbin P .lss T.string (.tmp 60) (.tmp 61) t60 t61) h40 o14) h40 fun t62 h41 =>
pickK t51 t62 (.bool false) fun t63 =>
mc t63 (fun k15 => k15 .normal [(0, v0), (1, v1), (2, v2), (9, v9)] h41) (fun k15 =>
k15 (.exit 0) [(63, t63), (62, t62), (61, t61), (60, t60), (59, t59), (58, t58), (57, t57), (56, t56), (55, t55), (54, t54), (53, t53), (52, t51), (51, t51), (50, t50), (49, t49), (48, t48), (47, t47), (46, v0), (45, v9), (0, v0), (1, v1), (2, v2), (9, v9)] h41) (seqK (fun tT h42 =>
ms (fun k16 =>
bareK (xbin P .add T.int (.tmp 64) (.const (.int .i64 1)) (get tT 9) (.int .i64 1)) h42 fun t65 h43 =>
k16 .normal [(0, (get tT 0)), (1, (get tT 1)), (2, (get tT 2)), (9, t65)] h43) (afterK [0, 1, 2, 9] k)) (afterK [0, 1, 2, 9] k))

theorem s_ref24_Model_Put_eq (M : CombL) (C : CallF) (LP : LoopH) (a0 : Value) (a1 : Value) (a2 : Value) (H : AHeap) : dBodyL M Try.prog hints C LP F.ref24_Model_Put [a0, a1, a2] H = s_ref24_Model_Put M.b.g M.c M.s Try.prog C (fun v0 v1 v2 v9 H k => loopL M Try.prog hints C LP F.ref24_Model_Put 0 [(0, v0), (1, v1), (2, v2), (9, v9)] H k) a0 a1 a2 H (endK Try.prog [.tmp 6]) := by kernel_rfl

theorem s_ref24_Model_Put_b0_eq (M : CombL) (C : CallF) (LP : LoopH) (v0 : Value) (v1 : Value) (v2 : Value) (v9 : Value) (H : AHeap) (k : K) : bodyL M Try.prog hints C LP F.ref24_Model_Put 0 [(0, v0), (1, v1), (2, v2), (9, v9)] H (afterK [0, 1, 2, 9] k) = s_ref24_Model_Put_b0 M.b.g M.c M.s Try.prog C (fun v0 v1 v2 v9 H k => loopL M Try.prog hints C LP F.ref24_Model_Put 0 [(0, v0), (1, v1), (2, v2), (9, v9)] H k) v0 v1 v2 v9 H k := by kernel_rfl

/-! (*ticketline.ticketlineref24.Model).Range -/

noncomputable def s_ref24_Model_Range (mg : GT) (mc : CT) (ms : ST) (P : Program) (C : CallF) (a0 : Value) (a1 : Value) (a2 : Value) (a3 : Value) (H : AHeap) (K0 : K) : Res :=
bareK (xbin P .lss T.int (.tmp 11) (.const (.int .i64 1)) a3 (.int .i64 1)) H fun t12 h1 =>
mg t12 false (fun o1 => o1 a3 h1) h1 fun t14 h2 =>
mg t12 false (fun o2 => bareK (xbin P .gtr T.int (.tmp 14) (.const (.int .i64 32)) t14 (.int .i64 32)) h2 o2) h2 fun t15 h3 =>
pickK t12 (.bool true) t15 fun t16 =>
mc t16 (fun k3 => k3 .ret [(8, (.slice none 0 0)), (9, (.int .i64 2))] h3) (fun k3 =>
k3 .normal [(0, a0), (1, a1), (2, a2), (3, a3)] h3) (seqK (fun tT h4 =>
bareK (lenT (get tT 1)) h4 fun t18 h5 =>
bareK (xbin P .gtr T.int (.tmp 18) (.const (.int .i64 24)) t18 (.int .i64 24)) h5 fun t19 h6 =>
mg t19 false (fun o4 => o4 (get tT 2) h6) h6 fun t21 h7 =>
mg t19 false (fun o5 => bareK (lenT t21) h7 o5) h7 fun t22 h8 =>
mg t19 false (fun o6 => bareK (xbin P .gtr T.int (.tmp 22) (.const (.int .i64 24)) t22 (.int .i64 24)) h8 o6) h8 fun t23 h9 =>
pickK t19 (.bool true) t23 fun t24 =>
mc t24 (fun k7 => k7 .ret [(8, (.slice none 0 0)), (9, (.int .i64 5))] h9) (fun k7 =>
k7 .normal [(0, (get tT 0)), (1, (get tT 1)), (2, (get tT 2)), (3, (get tT 3))] h9) (seqK (fun tT_1 h10 =>
enterK C F.ref24_Model_Part [(get tT_1 0), (get tT_1 1), (get tT_1 2)] h10 fun t28 h11 =>
bareK (lenS t28) h11 fun t32 h12 =>
nextK C h12 (xbuiltin P .min [T.int, T.int] [(get tT_1 3), t32] h12) fun t33 h13 =>
bareK (slS T.api_Pair 2 t28 none (some t33) none h13) h13 fun t34 h14 =>
K0 .ret [(8, t34), (9, (.int .i64 0))] h14) K0)) K0)

theorem s_ref24_Model_Range_eq (M : CombL) (C : CallF) (LP : LoopH) (a0 : Value) (a1 : Value) (a2 : Value) (a3 : Value) (H : AHeap) : dBodyL M Try.prog hints C LP F.ref24_Model_Range [a0, a1, a2, a3] H = s_ref24_Model_Range M.b.g M.c M.s Try.prog C a0 a1 a2 a3 H (endK Try.prog [.tmp 8, .tmp 9]) := by kernel_rfl

/-! ticketline.ticketlinelaw24.ranges -/

noncomputable def s_law_ranges (mg : GT) (mc : CT) (ms : ST) (P : Program) (C : CallF) (a0 : Value) (a1 : Value) (a2 : Value) (a3 : Value) (a4 : Value) (a5 : Value) (H : AHeap) (K0 : K) : Res :=
enterK C F.model_Model_Range [a0, a1, a2, a3] H fun t20 h1 =>
bareK (xextract t20 0) h1 fun t21 h2 =>
bareK (xextract t20 1) h2 fun t22 h3 =>
enterK C F.ref24_Same [t21, a4] h3 fun t25 h4 =>
mg t25 true (fun o1 => o1 t22 h4) h4 fun t27 h5 =>
mg t25 true (fun o2 => o2 a5 h5) h5 fun t28 h6 =>
mg t25 true (fun o3 => bareK (xbin P .eql T.api_Errno (.tmp 27) (.tmp 28) t27 t28) h6 o3) h6 fun t29 h7 =>
pickK t25 t29 (.bool false) fun t30 =>
K0 .ret [(12, t30)] h7

theorem s_law_ranges_eq (M : CombL) (C : CallF) (LP : LoopH) (a0 : Value) (a1 : Value) (a2 : Value) (a3 : Value) (a4 : Value) (a5 : Value) (H : AHeap) : dBodyL M Try.prog hints C LP F.law_ranges [a0, a1, a2, a3, a4, a5] H = s_law_ranges M.b.g M.c M.s Try.prog C a0 a1 a2 a3 a4 a5 H (endK Try.prog [.tmp 12]) := by kernel_rfl

/-! ticketline.ticketlinelaw24.pair -/

noncomputable def s_law_pair (mg : GT) (mc : CT) (ms : ST) (P : Program) (C : CallF) (a0 : Value) (a1 : Value) (H : AHeap) (K0 : K) : Res :=
bothK (newv T.api_Pair (.agg #[(.string (mk [])), (.string (mk []))]) H) fun t4 h1 =>
bareK (bldS #[(.string (mk [])), (.string (mk []))] [(0, 1), (1, 1)] [(0, a0), (1, a1)]) h1 fun t7 h2 =>
quietK (stN 2 h2 t4 t7) fun _ h3 =>
K0 .ret [(4, t4)] h3

theorem s_law_pair_eq (M : CombL) (C : CallF) (LP : LoopH) (a0 : Value) (a1 : Value) (H : AHeap) : dBodyL M Try.prog hints C LP F.law_pair [a0, a1] H = s_law_pair M.b.g M.c M.s Try.prog C a0 a1 H (endK Try.prog [.cell 4 T.api_Pair]) := by kernel_rfl

/-! ticketline.ticketlinelaw24.number -/

noncomputable def s_law_number (mg : GT) (mc : CT) (ms : ST) (P : Program) (C : CallF) (L0 : Value → Value → Value → AHeap → K → Res) (a0 : Value) (H : AHeap) (K0 : K) : Res :=
bothK (mkS T.uint8 [(.int .u8 0)] 1 (.int .i64 5) (.int .i64 5) H) fun t5 h1 =>
ms (fun k1 =>
L0 a0 t5 (.int .i64 4) h1 (blkK [3] 0 k1)) (seqK (fun tT h2 =>
bothK (xconv P T.sl_uint8 T.string (get tT 3) h2) fun t20 h3 =>
K0 .ret [(2, t20)] h3) K0)

noncomputable def s_law_number_b0 (mg : GT) (mc : CT) (ms : ST) (P : Program) (C : CallF) (L0 : Value → Value → Value → AHeap → K → Res) (v0 : Value) (v3 : Value) (v4 : Value) (H : AHeap) (k : K) : Res :=
bareK (xbin P .geq T.int (.tmp 6) (.const (.int .i64 0)) v4 (.int .i64 0)) H fun t7 h2 =>
mc t7 (fun k2 => k2 .normal [(0, v0), (3, v3), (4, v4)] h2) (fun k2 =>
k2 (.exit 0) [(7, t7), (6, v4), (0, v0), (3, v3), (4, v4)] h2) (seqK (fun tT h3 =>
ms (fun k3 =>
bareK (xbin P .rem T.int (.tmp 12) (.const (.int .i64 10)) (get tT 0) (.int .i64 10)) h3 fun t13 h4 =>
bareK (xbin P .add T.int (.const (.int .i64 48)) (.tmp 13) (.int .i64 48) t13) h4 fun t14 h5 =>
bothK (xconv P T.int T.uint8 t14 h5) fun t15 h6 =>
bareK (ixS 1 (get tT 3) (get tT 4)) h6 fun t16 h7 =>
quietK (st1 h7 t16 t15) fun _ h8 =>
bareK (xbin P .quo T.int (.tmp 17) (.const (.int .i64 10)) (get tT 0) (.int .i64 10)) h8 fun t18 h9 =>
k3 .normal [(0, t18), (3, (get tT 3)), (4, (get tT 4))] h9) (seqK (fun tT_1 h10 =>
bareK (xbin P .sub T.int (.tmp 8) (.const (.int .i64 1)) (get tT_1 4) (.int .i64 1)) h10 fun t9 h11 =>
k .normal [(0, (get tT_1 0)), (3, (get tT_1 3)), (4, t9)] h11) (afterK [0, 3, 4] k))) (afterK [0, 3, 4] k))

theorem s_law_number_eq (M : CombL) (C : CallF) (LP : LoopH) (a0 : Value) (H : AHeap) : dBodyL M Try.prog hints C LP F.law_number [a0] H = s_law_number M.b.g M.c M.s Try.prog C (fun v0 v3 v4 H k => loopL M Try.prog hints C LP F.law_number 0 [(0, v0), (3, v3), (4, v4)] H k) a0 H (endK Try.prog [.tmp 2]) := by kernel_rfl

theorem s_law_number_b0_eq (M : CombL) (C : CallF) (LP : LoopH) (v0 : Value) (v3 : Value) (v4 : Value) (H : AHeap) (k : K) : bodyL M Try.prog hints C LP F.law_number 0 [(0, v0), (3, v3), (4, v4)] H (afterK [0, 3, 4] k) = s_law_number_b0 M.b.g M.c M.s Try.prog C (fun v0 v3 v4 H k => loopL M Try.prog hints C LP F.law_number 0 [(0, v0), (3, v3), (4, v4)] H k) v0 v3 v4 H k := by kernel_rfl

/-! ticketline.model.Of -/

noncomputable def s_model_Of (mg : GT) (mc : CT) (ms : ST) (P : Program) (C : CallF) (L0 : Value → Value → Value → Value → AHeap → K → Res) (a0 : Value) (H : AHeap) (K0 : K) : Res :=
bareK (lenS a0) H fun t8 h1 =>
ms (fun k1 =>
L0 a0 a0 t8 (.int .i64 0) h1 (blkK [0] 0 k1)) (seqK (fun tT h2 =>
bareK (lenS (get tT 0)) h2 fun t39 h3 =>
bareK (xbin P .gtr T.int (.tmp 39) (.const (.int .i64 20000)) t39 (.int .i64 20000)) h3 fun t40 h4 =>
mc t40 (fun k2 => k2 .ret [(2, (.pointer none)), (3, (.int .i64 7))] h4) (fun k2 =>
k2 .normal [(0, (get tT 0))] h4) (seqK (fun tT_1 h5 =>
enterK C F.slices_Clone_Pair [(get tT_1 0)] h5 fun t42 h6 =>
bareK (bldS #[(.slice none 0 0)] [(0, 1)] [(0, t42)]) h6 fun t43 h7 =>
bothK (newv T.model_Model t43 h7) fun t44 h8 =>
K0 .ret [(2, t44), (3, (.int .i64 0))] h8) K0)) K0)

noncomputable def s_model_Of_b0 (mg : GT) (mc : CT) (ms : ST) (P : Program) (C : CallF) (L0 : Value → Value → Value → Value → AHeap → K → Res) (v0 : Value) (v7 : Value) (v8 : Value) (v9 : Value) (H : AHeap) (k : K) : Res :=
bareK (xbin P .lss T.int (.tmp 9) (.tmp 8) v9 v8) H fun t10 h2 =>
mc t10 (fun k2 => k2 .normal [(0, v0), (7, v7), (8, v8), (9, v9)] h2) (fun k2 =>
k2 (.exit 0) [(10, t10), (0, v0), (7, v7), (8, v8), (9, v9)] h2) (seqK (fun tT h3 =>
ms (fun k3 =>
bareK (ixS 2 (get tT 7) (get tT 9)) h3 fun t12 h4 =>
bareK (ldN 2 h4 t12) h4 fun t13 h5 =>
bothK (newv T.api_Pair (.agg #[(.string (mk [])), (.string (mk []))]) h5) fun t5 h6 =>
quietK (stN 2 h6 t5 t13) fun _ h7 =>
bareK (fad 0 t5) h7 fun t14 h8 =>
bareK (ld1 h8 t14) h8 fun t15 h9 =>
bareK (fad 1 t5) h9 fun t16 h10 =>
bareK (ld1 h10 t16) h10 fun t17 h11 =>
bothK (bldL T.string [(.string (mk []))] 1 [(0, t17)] h11) fun t18 h12 =>
enterK C F.model_check [t15, t18] h12 fun t19 h13 =>
bareK (xbin P .neq T.api_Errno (.tmp 20) (.const (.int .i64 0)) t19 (.int .i64 0)) h13 fun t21 h14 =>
mc t21 (fun k4 => k4 .ret [(2, (.pointer none)), (3, t19)] h14) (fun k4 =>
k4 .normal [(0, (get tT 0)), (4, (get tT 9)), (5, t5), (7, (get tT 7)), (8, (get tT 8)), (9, (get tT 9))] h14) (seqK (fun tT_1 h15 =>
bareK (xbin P .gtr T.int (.tmp 23) (.const (.int .i64 0)) (get tT_1 4) (.int .i64 0)) h15 fun t24 h16 =>
mg t24 true (fun o5 => o5 (get tT_1 0) h16) h16 fun t26 h17 =>
mg t24 true (fun o6 => o6 (get tT_1 4) h17) h17 fun t27 h18 =>
mg t24 true (fun o7 => bareK (xbin P .sub T.int (.tmp 27) (.const (.int .i64 1)) t27 (.int .i64 1)) h18 o7) h18 fun t28 h19 =>
mg t24 true (fun o8 => bareK (ixS 2 t26 t28) h19 o8) h19 fun t29 h20 =>
mg t24 true (fun o9 => bareK (fad 0 t29) h20 o9) h20 fun t30 h21 =>
mg t24 true (fun o10 => bareK (ld1 h21 t30) h21 o10) h21 fun t31 h22 =>
mg t24 true (fun o11 => bareK (fad 0 (get tT_1 5)) h22 o11) h22 fun t32 h23 =>
mg t24 true (fun o12 => bareK (ld1 h23 t32) h23 o12) h23 fun t33 h24 =>
mg t24 true (fun o13 => enterK C F.keys_Compare [t31, t33] h24 o13) h24 fun t34 h25 =>
mg t24 true (fun o14 => bareK (xbin P .geq T.int (.tmp 34) (.const (.int .i64 0)) t34 (.int .i64 0)) h25 o14) h25 fun t35 h26 =>
pickK t24 t35 (.bool false) fun t36 =>
checkK true <|
mc t36 (fun k15 => k15 .ret [(2, (.pointer none)), (3, (.int .i64 13))] h26) (fun k15 =>
k15 .normal [(0, (get tT_1 0)), (7, (get tT_1 7)), (8, (get tT_1 8)), (9, (get tT_1 9))] h26) (blkK [0, 7, 8, 9] 1 k3)) (blkK [0, 7, 8, 9] 1 k3))) (seqK (fun tT_2 h27 =>
bareK (xbin P .add T.int (.tmp 9) (.const (.int .i64 1)) (get tT_2 9) (.int .i64 1)) h27 fun t37 h28 =>
k .normal [(0, (get tT_2 0)), (7, (get tT_2 7)), (8, (get tT_2 8)), (9, t37)] h28) (afterK [0, 7, 8, 9] k))) (afterK [0, 7, 8, 9] k))

theorem s_model_Of_eq (M : CombL) (C : CallF) (LP : LoopH) (a0 : Value) (H : AHeap) : dBodyL M Try.prog hints C LP F.model_Of [a0] H = s_model_Of M.b.g M.c M.s Try.prog C (fun v0 v7 v8 v9 H k => loopL M Try.prog hints C LP F.model_Of 0 [(0, v0), (7, v7), (8, v8), (9, v9)] H k) a0 H (endK Try.prog [.tmp 2, .tmp 3]) := by kernel_rfl

theorem s_model_Of_b0_eq (M : CombL) (C : CallF) (LP : LoopH) (v0 : Value) (v7 : Value) (v8 : Value) (v9 : Value) (H : AHeap) (k : K) : bodyL M Try.prog hints C LP F.model_Of 0 [(0, v0), (7, v7), (8, v8), (9, v9)] H (afterK [0, 7, 8, 9] k) = s_model_Of_b0 M.b.g M.c M.s Try.prog C (fun v0 v7 v8 v9 H k => loopL M Try.prog hints C LP F.model_Of 0 [(0, v0), (7, v7), (8, v8), (9, v9)] H k) v0 v7 v8 v9 H k := by kernel_rfl

/-! (*ticketline.model.Model).Len -/

noncomputable def s_model_Model_Len (mg : GT) (mc : CT) (ms : ST) (P : Program) (C : CallF) (a0 : Value) (H : AHeap) (K0 : K) : Res :=
bareK (xbin P .eql T.p_model_Model (.tmp 3) (.const (.pointer none)) a0 (.pointer none)) H fun t4 h1 =>
mc t4 (fun k1 => k1 .ret [(2, (.int .i64 0))] h1) (fun k1 =>
k1 .normal [(0, a0)] h1) (seqK (fun tT h2 =>
bareK (xnilCheck (get tT 0)) h2 fun t6 h3 =>
bareK (fad 0 t6) h3 fun t7 h4 =>
bareK (ld1 h4 t7) h4 fun t8 h5 =>
bareK (lenS t8) h5 fun t9 h6 =>
K0 .ret [(2, t9)] h6) K0)

theorem s_model_Model_Len_eq (M : CombL) (C : CallF) (LP : LoopH) (a0 : Value) (H : AHeap) : dBodyL M Try.prog hints C LP F.model_Model_Len [a0] H = s_model_Model_Len M.b.g M.c M.s Try.prog C a0 H (endK Try.prog [.tmp 2]) := by kernel_rfl

/-! ticketline.ticketlinelaw24.gets -/

noncomputable def s_law_gets (mg : GT) (mc : CT) (ms : ST) (P : Program) (C : CallF) (a0 : Value) (a1 : Value) (a2 : Value) (a3 : Value) (H : AHeap) (K0 : K) : Res :=
enterK C F.model_Model_Get [a0, a1] H fun t14 h1 =>
bareK (xextract t14 0) h1 fun t15 h2 =>
bareK (xextract t14 1) h2 fun t16 h3 =>
bareK (xbin P .eql T.string (.tmp 17) (.tmp 18) t15 a2) h3 fun t19 h4 =>
mg t19 true (fun o1 => o1 t16 h4) h4 fun t21 h5 =>
mg t19 true (fun o2 => o2 a3 h5) h5 fun t22 h6 =>
mg t19 true (fun o3 => bareK (xbin P .eql T.api_Errno (.tmp 21) (.tmp 22) t21 t22) h6 o3) h6 fun t23 h7 =>
pickK t19 t23 (.bool false) fun t24 =>
K0 .ret [(8, t24)] h7

theorem s_law_gets_eq (M : CombL) (C : CallF) (LP : LoopH) (a0 : Value) (a1 : Value) (a2 : Value) (a3 : Value) (H : AHeap) : dBodyL M Try.prog hints C LP F.law_gets [a0, a1, a2, a3] H = s_law_gets M.b.g M.c M.s Try.prog C a0 a1 a2 a3 H (endK Try.prog [.tmp 8]) := by kernel_rfl

/-! (*ticketline.model.Model).Insert -/

noncomputable def s_model_Model_Insert (mg : GT) (mc : CT) (ms : ST) (P : Program) (C : CallF) (a0 : Value) (a1 : Value) (a2 : Value) (H : AHeap) (K0 : K) : Res :=
bothK (bldL T.string [(.string (mk []))] 1 [(0, a2)] H) fun t14 h1 =>
enterK C F.model_Model_at [a0, a1, t14] h1 fun t15 h2 =>
bareK (xextract t15 0) h2 fun t16 h3 =>
bareK (xextract t15 1) h3 fun t17 h4 =>
bareK (xextract t15 2) h4 fun t18 h5 =>
ms (fun k1 =>
bareK (xbin P .neq T.api_Errno (.tmp 20) (.const (.int .i64 0)) t18 (.int .i64 0)) h5 fun t21 h6 =>
mc t21 (fun k2 => k2 .ret [(6, t18)] h6) (fun k2 =>
mc t17 (fun k3 => k3 .ret [(6, (.int .i64 11))] h6) (fun k3 =>
k3 .normal [(0, a0), (1, a1), (2, a2), (7, t16)] h6) (afterK [0, 1, 2, 7] k2)) (blkK [0, 1, 2, 7] 0 k1)) (seqK (fun tT h7 =>
bareK (bldS #[(.string (mk [])), (.string (mk []))] [(0, 1), (1, 1)] [(0, (get tT 1)), (1, (get tT 2))]) h7 fun t29 h8 =>
enterK C F.model_Model_set [(get tT 0), (get tT 7), (.bool false), t29] h8 fun t30 h9 =>
K0 .ret [(6, t30)] h9) K0)

theorem s_model_Model_Insert_eq (M : CombL) (C : CallF) (LP : LoopH) (a0 : Value) (a1 : Value) (a2 : Value) (H : AHeap) : dBodyL M Try.prog hints C LP F.model_Model_Insert [a0, a1, a2] H = s_model_Model_Insert M.b.g M.c M.s Try.prog C a0 a1 a2 H (endK Try.prog [.tmp 6]) := by kernel_rfl

/-! ticketline.ticketlinelaw24.deletes -/

noncomputable def s_law_deletes (mg : GT) (mc : CT) (ms : ST) (P : Program) (C : CallF) (a0 : Value) (a1 : Value) (a2 : Value) (a3 : Value) (H : AHeap) (K0 : K) : Res :=
enterK C F.model_Model_Delete [a0, a1] H fun t14 h1 =>
bareK (xextract t14 0) h1 fun t15 h2 =>
bareK (xextract t14 1) h2 fun t16 h3 =>
bareK (xbin P .eql T.string (.tmp 17) (.tmp 18) t15 a2) h3 fun t19 h4 =>
mg t19 true (fun o1 => o1 t16 h4) h4 fun t21 h5 =>
mg t19 true (fun o2 => o2 a3 h5) h5 fun t22 h6 =>
mg t19 true (fun o3 => bareK (xbin P .eql T.api_Errno (.tmp 21) (.tmp 22) t21 t22) h6 o3) h6 fun t23 h7 =>
pickK t19 t23 (.bool false) fun t24 =>
K0 .ret [(8, t24)] h7

theorem s_law_deletes_eq (M : CombL) (C : CallF) (LP : LoopH) (a0 : Value) (a1 : Value) (a2 : Value) (a3 : Value) (H : AHeap) : dBodyL M Try.prog hints C LP F.law_deletes [a0, a1, a2, a3] H = s_law_deletes M.b.g M.c M.s Try.prog C a0 a1 a2 a3 H (endK Try.prog [.tmp 8]) := by kernel_rfl

/-! ticketline.ticketlinelaw24.short -/

noncomputable def s_law_short (mg : GT) (mc : CT) (ms : ST) (P : Program) (C : CallF) (a0 : Value) (H : AHeap) (K0 : K) : Res :=
bothK (newv T.law_Act a0 H) fun t1 h1 =>
bareK (fad 1 t1) h1 fun t3 h2 =>
bareK (ld1 h2 t3) h2 fun t4 h3 =>
bareK (lenT t4) h3 fun t5 h4 =>
bareK (xbin P .leq T.int (.tmp 5) (.const (.int .i64 60)) t5 (.int .i64 60)) h4 fun t6 h5 =>
mg t6 true (fun o1 => bareK (fad 2 t1) h5 o1) h5 fun t8 h6 =>
mg t6 true (fun o2 => bareK (ld1 h6 t8) h6 o2) h6 fun t9 h7 =>
mg t6 true (fun o3 => bareK (lenT t9) h7 o3) h7 fun t10 h8 =>
mg t6 true (fun o4 => bareK (xbin P .leq T.int (.tmp 10) (.const (.int .i64 60)) t10 (.int .i64 60)) h8 o4) h8 fun t11 h9 =>
pickK t6 t11 (.bool false) fun t12 =>
mg t12 true (fun o5 => bareK (fad 3 t1) h9 o5) h9 fun t14 h10 =>
mg t12 true (fun o6 => bareK (ld1 h10 t14) h10 o6) h10 fun t15 h11 =>
mg t12 true (fun o7 => bareK (lenT t15) h11 o7) h11 fun t16 h12 =>
mg t12 true (fun o8 => bareK (xbin P .leq T.int (.tmp 16) (.const (.int .i64 60)) t16 (.int .i64 60)) h12 o8) h12 fun t17 h13 =>
pickK t12 t17 (.bool false) fun t18 =>
K0 .ret [(2, t18)] h13

theorem s_law_short_eq (M : CombL) (C : CallF) (LP : LoopH) (a0 : Value) (H : AHeap) : dBodyL M Try.prog hints C LP F.law_short [a0] H = s_law_short M.b.g M.c M.s Try.prog C a0 H (endK Try.prog [.tmp 2]) := by kernel_rfl

/-! ticketline.ticketlinelaw24.does -/

noncomputable def s_law_does (mg : GT) (mc : CT) (ms : ST) (P : Program) (C : CallF) (a0 : Value) (a1 : Value) (a2 : Value) (H : AHeap) (K0 : K) : Res :=
bothK (newv T.law_Act a2 H) fun t5 h1 =>
bareK (fad 0 t5) h1 fun t13 h2 =>
bareK (ld1 h2 t13) h2 fun t14 h3 =>
ms (fun k1 =>
bareK (xbin P .eql T.int (.tmp 14) (.const (.int .i64 0)) t14 (.int .i64 0)) h3 fun t16 h4 =>
mc t16 (fun k2 => bareK (fad 1 t5) h4 fun t19 h5 =>
bareK (ld1 h5 t19) h5 fun t20 h6 =>
enterK C F.ref24_Model_Get [a1, t20] h6 fun t21 h7 =>
bareK (xextract t21 0) h7 fun t22 h8 =>
bareK (xextract t21 1) h8 fun t23 h9 =>
bareK (fad 1 t5) h9 fun t25 h10 =>
bareK (ld1 h10 t25) h10 fun t26 h11 =>
enterK C F.law_gets [a0, t26, t22, t23] h11 fun t29 h12 =>
k2 .ret [(6, t29)] h12) (fun k2 =>
bareK (xbin P .eql T.int (.tmp 14) (.const (.int .i64 1)) t14 (.int .i64 1)) h4 fun t31 h13 =>
mc t31 (fun k3 => bareK (fad 1 t5) h13 fun t33 h14 =>
bareK (ld1 h14 t33) h14 fun t34 h15 =>
bareK (fad 2 t5) h15 fun t35 h16 =>
bareK (ld1 h16 t35) h16 fun t36 h17 =>
enterK C F.model_Model_Put [a0, t34, t36] h17 fun t37 h18 =>
bareK (fad 1 t5) h18 fun t39 h19 =>
bareK (ld1 h19 t39) h19 fun t40 h20 =>
bareK (fad 2 t5) h20 fun t41 h21 =>
bareK (ld1 h21 t41) h21 fun t42 h22 =>
enterK C F.ref24_Model_Put [a1, t40, t42] h22 fun t43 h23 =>
bareK (xbin P .eql T.api_Errno (.tmp 37) (.tmp 43) t37 t43) h23 fun t44 h24 =>
checkK (okV (some true) none h17 h18 h18 h18 && (okV (some true) none h17 h18 h18 h19 && (okV (some true) (blockOf t39) h17 h18 h19 h20 && (okV (some true) none h17 h18 h20 h21 && (okV (some true) (blockOf t41) h17 h18 h21 h22 && true))))) <|
k3 .ret [(6, t44)] h24) (fun k3 =>
bareK (xbin P .eql T.int (.tmp 14) (.const (.int .i64 2)) t14 (.int .i64 2)) h13 fun t46 h25 =>
mc t46 (fun k4 => bareK (fad 1 t5) h25 fun t48 h26 =>
bareK (ld1 h26 t48) h26 fun t49 h27 =>
bareK (fad 2 t5) h27 fun t50 h28 =>
bareK (ld1 h28 t50) h28 fun t51 h29 =>
enterK C F.model_Model_Insert [a0, t49, t51] h29 fun t52 h30 =>
bareK (fad 1 t5) h30 fun t54 h31 =>
bareK (ld1 h31 t54) h31 fun t55 h32 =>
bareK (fad 2 t5) h32 fun t56 h33 =>
bareK (ld1 h33 t56) h33 fun t57 h34 =>
enterK C F.ref24_Model_Insert [a1, t55, t57] h34 fun t58 h35 =>
bareK (xbin P .eql T.api_Errno (.tmp 52) (.tmp 58) t52 t58) h35 fun t59 h36 =>
checkK (okV (some true) none h29 h30 h30 h30 && (okV (some true) none h29 h30 h30 h31 && (okV (some true) (blockOf t54) h29 h30 h31 h32 && (okV (some true) none h29 h30 h32 h33 && (okV (some true) (blockOf t56) h29 h30 h33 h34 && true))))) <|
k4 .ret [(6, t59)] h36) (fun k4 =>
bareK (xbin P .eql T.int (.tmp 14) (.const (.int .i64 3)) t14 (.int .i64 3)) h25 fun t61 h37 =>
mc t61 (fun k5 => bareK (fad 1 t5) h37 fun t64 h38 =>
bareK (ld1 h38 t64) h38 fun t65 h39 =>
enterK C F.ref24_Model_Delete [a1, t65] h39 fun t66 h40 =>
bareK (xextract t66 0) h40 fun t67 h41 =>
bareK (xextract t66 1) h41 fun t68 h42 =>
bareK (fad 1 t5) h42 fun t70 h43 =>
bareK (ld1 h43 t70) h43 fun t71 h44 =>
enterK C F.law_deletes [a0, t71, t67, t68] h44 fun t74 h45 =>
k5 .ret [(6, t74)] h45) (fun k5 =>
bareK (xbin P .eql T.int (.tmp 14) (.const (.int .i64 4)) t14 (.int .i64 4)) h37 fun t76 h46 =>
mc t76 (fun k6 => bareK (fad 1 t5) h46 fun t78 h47 =>
bareK (ld1 h47 t78) h47 fun t79 h48 =>
bareK (fad 3 t5) h48 fun t80 h49 =>
bareK (ld1 h49 t80) h49 fun t81 h50 =>
bareK (fad 2 t5) h50 fun t82 h51 =>
bareK (ld1 h51 t82) h51 fun t83 h52 =>
enterK C F.model_Model_Swap [a0, t79, t81, t83] h52 fun t84 h53 =>
bareK (fad 1 t5) h53 fun t86 h54 =>
bareK (ld1 h54 t86) h54 fun t87 h55 =>
bareK (fad 3 t5) h55 fun t88 h56 =>
bareK (ld1 h56 t88) h56 fun t89 h57 =>
bareK (fad 2 t5) h57 fun t90 h58 =>
bareK (ld1 h58 t90) h58 fun t91 h59 =>
enterK C F.ref24_Model_Swap [a1, t87, t89, t91] h59 fun t92 h60 =>
bareK (xbin P .eql T.api_Errno (.tmp 84) (.tmp 92) t84 t92) h60 fun t93 h61 =>
checkK (okV (some true) none h52 h53 h53 h53 && (okV (some true) none h52 h53 h53 h54 && (okV (some true) (blockOf t86) h52 h53 h54 h55 && (okV (some true) none h52 h53 h55 h56 && (okV (some true) (blockOf t88) h52 h53 h56 h57 && (okV (some true) none h52 h53 h57 h58 && (okV (some true) (blockOf t90) h52 h53 h58 h59 && true))))))) <|
k6 .ret [(6, t93)] h61) (fun k6 =>
bareK (xbin P .eql T.int (.tmp 14) (.const (.int .i64 5)) t14 (.int .i64 5)) h46 fun t95 h62 =>
mc t95 (fun k7 => bareK (fad 1 t5) h62 fun t98 h63 =>
bareK (ld1 h63 t98) h63 fun t99 h64 =>
bareK (fad 3 t5) h64 fun t100 h65 =>
bareK (ld1 h65 t100) h65 fun t101 h66 =>
bareK (fad 4 t5) h66 fun t102 h67 =>
bareK (ld1 h67 t102) h67 fun t103 h68 =>
enterK C F.ref24_Model_Range [a1, t99, t101, t103] h68 fun t104 h69 =>
bareK (xextract t104 0) h69 fun t105 h70 =>
bareK (xextract t104 1) h70 fun t106 h71 =>
bareK (fad 1 t5) h71 fun t108 h72 =>
bareK (ld1 h72 t108) h72 fun t109 h73 =>
bareK (fad 3 t5) h73 fun t110 h74 =>
bareK (ld1 h74 t110) h74 fun t111 h75 =>
bareK (fad 4 t5) h75 fun t112 h76 =>
bareK (ld1 h76 t112) h76 fun t113 h77 =>
enterK C F.law_ranges [a0, t109, t111, t113, t105, t106] h77 fun t116 h78 =>
k7 .ret [(6, t116)] h78) (fun k7 =>
k7 .normal [] h62) (afterK [] k6)) (afterK [] k5)) (afterK [] k4)) (afterK [] k3)) (afterK [] k2)) (blkK [] 0 k1)) (seqK (fun tT h79 =>
K0 .ret [(6, (.bool true))] h79) K0)

theorem s_law_does_eq (M : CombL) (C : CallF) (LP : LoopH) (a0 : Value) (a1 : Value) (a2 : Value) (H : AHeap) : dBodyL M Try.prog hints C LP F.law_does [a0, a1, a2] H = s_law_does M.b.g M.c M.s Try.prog C a0 a1 a2 H (endK Try.prog [.tmp 6]) := by kernel_rfl

/-! (*ticketline.model.Model).Copy -/

noncomputable def s_model_Model_Copy (mg : GT) (mc : CT) (ms : ST) (P : Program) (C : CallF) (a0 : Value) (H : AHeap) (K0 : K) : Res :=
bareK (xbin P .eql T.p_model_Model (.tmp 3) (.const (.pointer none)) a0 (.pointer none)) H fun t4 h1 =>
mc t4 (fun k1 => k1 .ret [(2, (.pointer none))] h1) (fun k1 =>
k1 .normal [(0, a0)] h1) (seqK (fun tT h2 =>
bareK (xnilCheck (get tT 0)) h2 fun t6 h3 =>
bareK (fad 0 t6) h3 fun t7 h4 =>
bareK (ld1 h4 t7) h4 fun t8 h5 =>
enterK C F.slices_Clone_Pair [t8] h5 fun t9 h6 =>
bareK (bldS #[(.slice none 0 0)] [(0, 1)] [(0, t9)]) h6 fun t10 h7 =>
bothK (newv T.model_Model t10 h7) fun t11 h8 =>
K0 .ret [(2, t11)] h8) K0)

theorem s_model_Model_Copy_eq (M : CombL) (C : CallF) (LP : LoopH) (a0 : Value) (H : AHeap) : dBodyL M Try.prog hints C LP F.model_Model_Copy [a0] H = s_model_Model_Copy M.b.g M.c M.s Try.prog C a0 H (endK Try.prog [.tmp 2]) := by kernel_rfl

/-! ticketline.ticketlinelaw24.alike -/

noncomputable def s_law_alike (mg : GT) (mc : CT) (ms : ST) (P : Program) (C : CallF) (L0 : Value → Value → Value → Value → AHeap → K → Res) (a0 : Value) (a1 : Value) (H : AHeap) (K0 : K) : Res :=
bareK (xbin P .eql T.p_model_Model (.tmp 7) (.const (.pointer none)) a0 (.pointer none)) H fun t8 h1 =>
mg t8 false (fun o1 => o1 a0 h1) h1 fun t10 h2 =>
mg t8 false (fun o2 => enterK C F.model_Model_Len [t10] h2 o2) h2 fun t11 h3 =>
mg t8 false (fun o3 => o3 a1 h3) h3 fun t12 h4 =>
mg t8 false (fun o4 => bareK (xnilCheck t12) h4 o4) h4 fun t13 h5 =>
mg t8 false (fun o5 => bareK (fad 0 t13) h5 o5) h5 fun t14 h6 =>
mg t8 false (fun o6 => bareK (ld1 h6 t14) h6 o6) h6 fun t15 h7 =>
mg t8 false (fun o7 => bareK (lenS t15) h7 o7) h7 fun t16 h8 =>
mg t8 false (fun o8 => bareK (xbin P .neq T.int (.tmp 11) (.tmp 16) t11 t16) h8 o8) h8 fun t17 h9 =>
pickK t8 (.bool true) t17 fun t18 =>
checkK (okV (goesV t8 false) none h2 h3 h3 h4 && (okV (goesV t8 false) none h2 h3 h4 h5 && (okV (goesV t8 false) none h2 h3 h5 h6 && (okV (goesV t8 false) (blockOf t14) h2 h3 h6 h7 && (okV (goesV t8 false) none h2 h3 h7 h8 && true))))) <|
mc t18 (fun k9 => k9 .ret [(4, (.bool false))] h9) (fun k9 =>
k9 .normal [(0, a0), (1, a1)] h9) (seqK (fun tT h10 =>
enterK C F.model_Model_Pairs [(get tT 0)] h10 fun t20 h11 =>
bareK (xnilCheck (get tT 1)) h11 fun t23 h12 =>
bareK (fad 0 t23) h12 fun t24 h13 =>
bareK (ld1 h13 t24) h13 fun t25 h14 =>
enterK C F.ref24_Same [t20, t25] h14 fun t26 h15 =>
bareK (xun P .not t26) h15 fun t27 h16 =>
mc t27 (fun k10 => k10 .ret [(4, (.bool false))] h16) (fun k10 =>
k10 .normal [(0, (get tT 0)), (1, (get tT 1)), (5, t20)] h16) (seqK (fun tT_1 h17 =>
ms (fun k11 =>
L0 (get tT_1 0) (get tT_1 1) (get tT_1 5) (.int .i64 0) h17 (blkK [0, 1] 0 k11)) (seqK (fun tT_2 h18 =>
bareK (xnilCheck (get tT_2 1)) h18 fun t39 h19 =>
bareK (fad 0 t39) h19 fun t40 h20 =>
bareK (ld1 h20 t40) h20 fun t41 h21 =>
bareK (lenS t41) h21 fun t42 h22 =>
bareK (xbin P .eql T.int (.tmp 42) (.const (.int .i64 0)) t42 (.int .i64 0)) h22 fun t43 h23 =>
mc t43 (fun k12 => enterK C F.model_Model_Pairs [(get tT_2 0)] h23 fun t45 h24 =>
bareK (xnilCheck (get tT_2 1)) h24 fun t47 h25 =>
bareK (fad 0 t47) h25 fun t48 h26 =>
bareK (ld1 h26 t48) h26 fun t49 h27 =>
enterK C F.ref24_Same [t45, t49] h27 fun t50 h28 =>
mg t50 true (fun o13 => o13 (get tT_2 0) h28) h28 fun t52 h29 =>
mg t50 true (fun o14 => bareK (bldS #[(.string (mk [])), (.string (mk []))] [(0, 1), (1, 1)] []) h29 o14) h29 fun t53 h30 =>
mg t50 true (fun o15 => bareK (bldS #[(.string (mk [])), (.string (mk []))] [(0, 1), (1, 1)] []) h30 o15) h30 fun t54 h31 =>
mg t50 true (fun o16 => enterK C F.law_ends [t52, t53, t54, (.int .i64 9)] h31 o16) h31 fun t55 h32 =>
pickK t50 t55 (.bool false) fun t56 =>
checkK (okV (some true) none h23 h24 h24 h24 && (okV (some true) none h23 h24 h24 h25 && (okV (some true) none h23 h24 h25 h26 && (okV (some true) (blockOf t48) h23 h24 h26 h27 && true)))) <|
k12 .ret [(4, t56)] h32) (fun k12 =>
k12 .normal [(0, (get tT_2 0)), (1, (get tT_2 1))] h23) (seqK (fun tT_3 h33 =>
enterK C F.model_Model_Pairs [(get tT_3 0)] h33 fun t58 h34 =>
bareK (xnilCheck (get tT_3 1)) h34 fun t60 h35 =>
bareK (fad 0 t60) h35 fun t61 h36 =>
bareK (ld1 h36 t61) h36 fun t62 h37 =>
enterK C F.ref24_Same [t58, t62] h37 fun t63 h38 =>
mg t63 true (fun o17 => o17 (get tT_3 0) h38) h38 fun t65 h39 =>
mg t63 true (fun o18 => o18 (get tT_3 1) h39) h39 fun t66 h40 =>
mg t63 true (fun o19 => bareK (xnilCheck t66) h40 o19) h40 fun t67 h41 =>
mg t63 true (fun o20 => bareK (fad 0 t67) h41 o20) h41 fun t68 h42 =>
mg t63 true (fun o21 => bareK (ld1 h42 t68) h42 o21) h42 fun t69 h43 =>
mg t63 true (fun o22 => bareK (ixS 2 t69 (.int .i64 0)) h43 o22) h43 fun t70 h44 =>
mg t63 true (fun o23 => bareK (ldN 2 h44 t70) h44 o23) h44 fun t71 h45 =>
mg t63 true (fun o24 => o24 (get tT_3 1) h45) h45 fun t72 h46 =>
mg t63 true (fun o25 => bareK (xnilCheck t72) h46 o25) h46 fun t73 h47 =>
mg t63 true (fun o26 => bareK (fad 0 t73) h47 o26) h47 fun t74 h48 =>
mg t63 true (fun o27 => bareK (ld1 h48 t74) h48 o27) h48 fun t75 h49 =>
mg t63 true (fun o28 => o28 (get tT_3 1) h49) h49 fun t76 h50 =>
mg t63 true (fun o29 => bareK (xnilCheck t76) h50 o29) h50 fun t77 h51 =>
mg t63 true (fun o30 => bareK (fad 0 t77) h51 o30) h51 fun t78 h52 =>
mg t63 true (fun o31 => bareK (ld1 h52 t78) h52 o31) h52 fun t79 h53 =>
mg t63 true (fun o32 => bareK (lenS t79) h53 o32) h53 fun t80 h54 =>
mg t63 true (fun o33 => bareK (xbin P .sub T.int (.tmp 80) (.const (.int .i64 1)) t80 (.int .i64 1)) h54 o33) h54 fun t81 h55 =>
mg t63 true (fun o34 => bareK (ixS 2 t75 t81) h55 o34) h55 fun t82 h56 =>
mg t63 true (fun o35 => bareK (ldN 2 h56 t82) h56 o35) h56 fun t83 h57 =>
mg t63 true (fun o36 => enterK C F.law_ends [t65, t71, t83, (.int .i64 0)] h57 o36) h57 fun t84 h58 =>
pickK t63 t84 (.bool false) fun t85 =>
checkK (okV (some true) none h33 h34 h34 h34 && (okV (some true) none h33 h34 h34 h35 && (okV (some true) none h33 h34 h35 h36 && (okV (some true) (blockOf t61) h33 h34 h36 h37 && true)))) <|
K0 .ret [(4, t85)] h58) K0)) K0)) K0)) K0)

noncomputable def s_law_alike_b0 (mg : GT) (mc : CT) (ms : ST) (P : Program) (C : CallF) (L0 : Value → Value → Value → Value → AHeap → K → Res) (v0 : Value) (v1 : Value) (v5 : Value) (v6 : Value) (H : AHeap) (k : K) : Res :=
bareK (lenS v5) H fun t30 h18 =>
bareK (xbin P .lss T.int (.tmp 28) (.tmp 30) v6 t30) h18 fun t31 h19 =>
mc t31 (fun k12 => k12 .normal [(0, v0), (1, v1), (5, v5), (6, v6)] h19) (fun k12 =>
k12 (.exit 0) [(31, t31), (30, t30), (29, v5), (28, v6), (0, v0), (1, v1), (5, v5), (6, v6)] h19) (seqK (fun tT h20 =>
ms (fun k13 =>
bareK (ixS 2 (get tT 5) (get tT 6)) h20 fun t36 h21 =>
bareK (fad 1 t36) h21 fun t37 h22 =>
quietK (st1 h22 t37 (.string (mk [111, 116, 104, 101, 114]))) fun _ h23 =>
k13 .normal [(0, (get tT 0)), (1, (get tT 1)), (5, (get tT 5)), (6, (get tT 6))] h23) (seqK (fun tT_1 h24 =>
bareK (xbin P .add T.int (.tmp 32) (.const (.int .i64 1)) (get tT_1 6) (.int .i64 1)) h24 fun t33 h25 =>
k .normal [(0, (get tT_1 0)), (1, (get tT_1 1)), (5, (get tT_1 5)), (6, t33)] h25) (afterK [0, 1, 5, 6] k))) (afterK [0, 1, 5, 6] k))

theorem s_law_alike_eq (M : CombL) (C : CallF) (LP : LoopH) (a0 : Value) (a1 : Value) (H : AHeap) : dBodyL M Try.prog hints C LP F.law_alike [a0, a1] H = s_law_alike M.b.g M.c M.s Try.prog C (fun v0 v1 v5 v6 H k => loopL M Try.prog hints C LP F.law_alike 0 [(0, v0), (1, v1), (5, v5), (6, v6)] H k) a0 a1 H (endK Try.prog [.tmp 4]) := by kernel_rfl

theorem s_law_alike_b0_eq (M : CombL) (C : CallF) (LP : LoopH) (v0 : Value) (v1 : Value) (v5 : Value) (v6 : Value) (H : AHeap) (k : K) : bodyL M Try.prog hints C LP F.law_alike 0 [(0, v0), (1, v1), (5, v5), (6, v6)] H (afterK [0, 1, 5, 6] k) = s_law_alike_b0 M.b.g M.c M.s Try.prog C (fun v0 v1 v5 v6 H k => loopL M Try.prog hints C LP F.law_alike 0 [(0, v0), (1, v1), (5, v5), (6, v6)] H k) v0 v1 v5 v6 H k := by kernel_rfl

/-! ticketline.ticketlineref24.Of -/

noncomputable def s_ref24_Of (mg : GT) (mc : CT) (ms : ST) (P : Program) (C : CallF) (L0 : Value → Value → AHeap → K → Res) (a0 : Value) (H : AHeap) (K0 : K) : Res :=
ms (fun k1 =>
L0 a0 (.int .i64 0) H (blkK [0] 0 k1)) (seqK (fun tT h1 =>
bareK (lenS (get tT 0)) h1 fun t44 h2 =>
bareK (xbin P .gtr T.int (.tmp 44) (.const (.int .i64 20000)) t44 (.int .i64 20000)) h2 fun t45 h3 =>
mc t45 (fun k2 => k2 .ret [(2, (.pointer none)), (3, (.int .i64 7))] h3) (fun k2 =>
k2 .normal [(0, (get tT 0))] h3) (seqK (fun tT_1 h4 =>
bothK (app T.api_Pair 2 32 (.slice none 0 0) (srcS 2 (get tT_1 0) h4) h4) fun t47 h5 =>
bareK (bldS #[(.slice none 0 0)] [(0, 1)] [(0, t47)]) h5 fun t48 h6 =>
bothK (newv T.ref24_Model t48 h6) fun t49 h7 =>
K0 .ret [(2, t49), (3, (.int .i64 0))] h7) K0)) K0)

noncomputable def s_ref24_Of_b0 (mg : GT) (mc : CT) (ms : ST) (P : Program) (C : CallF) (L0 : Value → Value → AHeap → K → Res) (v0 : Value) (v4 : Value) (H : AHeap) (k : K) : Res :=
bareK (lenS v0) H fun t8 h1 =>
bareK (xbin P .lss T.int (.tmp 6) (.tmp 8) v4 t8) h1 fun t9 h2 =>
mc t9 (fun k2 => k2 .normal [(0, v0), (4, v4)] h2) (fun k2 =>
k2 (.exit 0) [(9, t9), (8, t8), (7, v0), (6, v4), (0, v0), (4, v4)] h2) (seqK (fun tT h3 =>
ms (fun k3 =>
bareK (ixS 2 (get tT 0) (get tT 4)) h3 fun t14 h4 =>
bareK (fad 0 t14) h4 fun t15 h5 =>
bareK (ld1 h5 t15) h5 fun t16 h6 =>
bareK (ixS 2 (get tT 0) (get tT 4)) h6 fun t19 h7 =>
bareK (fad 1 t19) h7 fun t20 h8 =>
bareK (ld1 h8 t20) h8 fun t21 h9 =>
bothK (bldL T.string [(.string (mk []))] 1 [(0, t21)] h9) fun t22 h10 =>
enterK C F.ref24_bad [t16, t22] h10 fun t23 h11 =>
checkK true <|
bareK (xbin P .neq T.api_Errno (.tmp 24) (.const (.int .i64 0)) t23 (.int .i64 0)) h11 fun t25 h12 =>
mc t25 (fun k4 => k4 .ret [(2, (.pointer none)), (3, t23)] h12) (fun k4 =>
k4 .normal [(0, (get tT 0)), (4, (get tT 4))] h12) (seqK (fun tT_1 h13 =>
bareK (xbin P .gtr T.int (.tmp 27) (.const (.int .i64 0)) (get tT_1 4) (.int .i64 0)) h13 fun t28 h14 =>
mg t28 true (fun o5 => o5 (get tT_1 0) h14) h14 fun t30 h15 =>
mg t28 true (fun o6 => o6 (get tT_1 4) h15) h15 fun t31 h16 =>
mg t28 true (fun o7 => bareK (ixS 2 t30 t31) h16 o7) h16 fun t32 h17 =>
mg t28 true (fun o8 => bareK (fad 0 t32) h17 o8) h17 fun t33 h18 =>
mg t28 true (fun o9 => bareK (ld1 h18 t33) h18 o9) h18 fun t34 h19 =>
mg t28 true (fun o10 => o10 (get tT_1 0) h19) h19 fun t35 h20 =>
mg t28 true (fun o11 => o11 (get tT_1 4) h20) h20 fun t36 h21 =>
mg t28 true (fun o12 => bareK (xbin P .sub T.int (.tmp 36) (.const (.int .i64 1)) t36 (.int .i64 1)) h21 o12) h21 fun t37 h22 =>
mg t28 true (fun o13 => bareK (ixS 2 t35 t37) h22 o13) h22 fun t38 h23 =>
mg t28 true (fun o14 => bareK (fad 0 t38) h23 o14) h23 fun t39 h24 =>
mg t28 true (fun o15 => bareK (ld1 h24 t39) h24 o15) h24 fun t40 h25 =>
mg t28 true (fun o16 => bareK (xbin P .leq T.string (.tmp 34) (.tmp 40) t34 t40) h25 o16) h25 fun t41 h26 =>
pickK t28 t41 (.bool false) fun t42 =>
checkK true <|
mc t42 (fun k17 => k17 .ret [(2, (.pointer none)), (3, (.int .i64 13))] h26) (fun k17 =>
k17 .normal [(0, (get tT_1 0)), (4, (get tT_1 4))] h26) (blkK [0, 4] 1 k3)) (blkK [0, 4] 1 k3))) (seqK (fun tT_2 h27 =>
bareK (xbin P .add T.int (.tmp 10) (.const (.int .i64 1)) (get tT_2 4) (.int .i64 1)) h27 fun t11 h28 =>
k .normal [(0, (get tT_2 0)), (4, t11)] h28) (afterK [0, 4] k))) (afterK [0, 4] k))

theorem s_ref24_Of_eq (M : CombL) (C : CallF) (LP : LoopH) (a0 : Value) (H : AHeap) : dBodyL M Try.prog hints C LP F.ref24_Of [a0] H = s_ref24_Of M.b.g M.c M.s Try.prog C (fun v0 v4 H k => loopL M Try.prog hints C LP F.ref24_Of 0 [(0, v0), (4, v4)] H k) a0 H (endK Try.prog [.tmp 2, .tmp 3]) := by kernel_rfl

theorem s_ref24_Of_b0_eq (M : CombL) (C : CallF) (LP : LoopH) (v0 : Value) (v4 : Value) (H : AHeap) (k : K) : bodyL M Try.prog hints C LP F.ref24_Of 0 [(0, v0), (4, v4)] H (afterK [0, 4] k) = s_ref24_Of_b0 M.b.g M.c M.s Try.prog C (fun v0 v4 H k => loopL M Try.prog hints C LP F.ref24_Of 0 [(0, v0), (4, v4)] H k) v0 v4 H k := by kernel_rfl

/-! ticketline.ticketlineref24.Same -/

noncomputable def s_ref24_Same (mg : GT) (mc : CT) (ms : ST) (P : Program) (C : CallF) (L0 : Value → Value → Value → AHeap → K → Res) (a0 : Value) (a1 : Value) (H : AHeap) (K0 : K) : Res :=
bareK (lenS a0) H fun t7 h1 =>
bareK (lenS a1) h1 fun t9 h2 =>
bareK (xbin P .neq T.int (.tmp 7) (.tmp 9) t7 t9) h2 fun t10 h3 =>
mc t10 (fun k1 => k1 .ret [(4, (.bool false))] h3) (fun k1 =>
k1 .normal [(0, a0), (1, a1)] h3) (seqK (fun tT h4 =>
ms (fun k2 =>
L0 (get tT 0) (get tT 1) (.int .i64 0) h4 (blkK [] 0 k2)) (seqK (fun tT_1 h5 =>
K0 .ret [(4, (.bool true))] h5) K0)) K0)

noncomputable def s_ref24_Same_b0 (mg : GT) (mc : CT) (ms : ST) (P : Program) (C : CallF) (L0 : Value → Value → Value → AHeap → K → Res) (v0 : Value) (v1 : Value) (v5 : Value) (H : AHeap) (k : K) : Res :=
bareK (lenS v0) H fun t13 h5 =>
bareK (xbin P .lss T.int (.tmp 11) (.tmp 13) v5 t13) h5 fun t14 h6 =>
mc t14 (fun k3 => k3 .normal [(0, v0), (1, v1), (5, v5)] h6) (fun k3 =>
k3 (.exit 0) [(14, t14), (13, t13), (12, v0), (11, v5), (0, v0), (1, v1), (5, v5)] h6) (seqK (fun tT h7 =>
ms (fun k4 =>
bareK (ixS 2 (get tT 0) (get tT 5)) h7 fun t19 h8 =>
bareK (ldN 2 h8 t19) h8 fun t20 h9 =>
bareK (ixS 2 (get tT 1) (get tT 5)) h9 fun t23 h10 =>
bareK (ldN 2 h10 t23) h10 fun t24 h11 =>
bareK (xbin P .neq T.api_Pair (.tmp 20) (.tmp 24) t20 t24) h11 fun t25 h12 =>
checkK true <|
mc t25 (fun k5 => k5 .ret [(4, (.bool false))] h12) (fun k5 =>
k5 .normal [(0, (get tT 0)), (1, (get tT 1)), (5, (get tT 5))] h12) (blkK [0, 1, 5] 1 k4)) (seqK (fun tT_1 h13 =>
bareK (xbin P .add T.int (.tmp 15) (.const (.int .i64 1)) (get tT_1 5) (.int .i64 1)) h13 fun t16 h14 =>
k .normal [(0, (get tT_1 0)), (1, (get tT_1 1)), (5, t16)] h14) (afterK [0, 1, 5] k))) (afterK [0, 1, 5] k))

theorem s_ref24_Same_eq (M : CombL) (C : CallF) (LP : LoopH) (a0 : Value) (a1 : Value) (H : AHeap) : dBodyL M Try.prog hints C LP F.ref24_Same [a0, a1] H = s_ref24_Same M.b.g M.c M.s Try.prog C (fun v0 v1 v5 H k => loopL M Try.prog hints C LP F.ref24_Same 0 [(0, v0), (1, v1), (5, v5)] H k) a0 a1 H (endK Try.prog [.tmp 4]) := by kernel_rfl

theorem s_ref24_Same_b0_eq (M : CombL) (C : CallF) (LP : LoopH) (v0 : Value) (v1 : Value) (v5 : Value) (H : AHeap) (k : K) : bodyL M Try.prog hints C LP F.ref24_Same 0 [(0, v0), (1, v1), (5, v5)] H (afterK [0, 1, 5] k) = s_ref24_Same_b0 M.b.g M.c M.s Try.prog C (fun v0 v1 v5 H k => loopL M Try.prog hints C LP F.ref24_Same 0 [(0, v0), (1, v1), (5, v5)] H k) v0 v1 v5 H k := by kernel_rfl

/-! ticketline.model.Equal -/

noncomputable def s_model_Equal (mg : GT) (mc : CT) (ms : ST) (P : Program) (C : CallF) (a0 : Value) (a1 : Value) (H : AHeap) (K0 : K) : Res :=
bareK (xbin P .eql T.p_model_Model (.tmp 6) (.const (.pointer none)) a0 (.pointer none)) H fun t7 h1 =>
bareK (xbin P .eql T.p_model_Model (.tmp 8) (.const (.pointer none)) a1 (.pointer none)) h1 fun t9 h2 =>
bareK (xbin P .neq T.bool (.tmp 7) (.tmp 9) t7 t9) h2 fun t10 h3 =>
mg t10 false (fun o1 => o1 (.func (.func F.model_Model_Len) #[] #[]) h3) h3 fun t12 h4 =>
mg t10 false (fun o2 => o2 a0 h4) h4 fun t13 h5 =>
mg t10 false (fun o3 => callK P C t12 [t13] h5 o3) h5 fun t14 h6 =>
mg t10 false (fun o4 => o4 (.func (.func F.model_Model_Len) #[] #[]) h6) h6 fun t15 h7 =>
mg t10 false (fun o5 => o5 a1 h7) h7 fun t16 h8 =>
mg t10 false (fun o6 => callK P C t15 [t16] h8 o6) h8 fun t17 h9 =>
mg t10 false (fun o7 => bareK (xbin P .neq T.int (.tmp 14) (.tmp 17) t14 t17) h9 o7) h9 fun t18 h10 =>
pickK t10 (.bool true) t18 fun t19 =>
mc t19 (fun k8 => k8 .ret [(4, (.bool false))] h10) (fun k8 =>
k8 .normal [(0, a0), (1, a1)] h10) (seqK (fun tT h11 =>
enterK C F.model_Model_Pairs [(get tT 0)] h11 fun t21 h12 =>
enterK C F.model_Model_Pairs [(get tT 1)] h12 fun t23 h13 =>
enterK C F.slices_Equal_Pair [t21, t23] h13 fun t24 h14 =>
K0 .ret [(4, t24)] h14) K0)

theorem s_model_Equal_eq (M : CombL) (C : CallF) (LP : LoopH) (a0 : Value) (a1 : Value) (H : AHeap) : dBodyL M Try.prog hints C LP F.model_Equal [a0, a1] H = s_model_Equal M.b.g M.c M.s Try.prog C a0 a1 H (endK Try.prog [.tmp 4]) := by kernel_rfl

/-! (*ticketline.model.Model).Delete -/

noncomputable def s_model_Model_Delete (mg : GT) (mc : CT) (ms : ST) (P : Program) (C : CallF) (a0 : Value) (a1 : Value) (H : AHeap) (K0 : K) : Res :=
enterK C F.model_Model_Get [a0, a1] H fun t13 h1 =>
bareK (xextract t13 0) h1 fun t14 h2 =>
bareK (xextract t13 1) h2 fun t15 h3 =>
bareK (xbin P .neq T.api_Errno (.tmp 16) (.const (.int .i64 0)) t15 (.int .i64 0)) h3 fun t17 h4 =>
mc t17 (fun k1 => k1 .ret [(4, (.string (mk []))), (5, t15)] h4) (fun k1 =>
k1 .normal [(0, a0), (1, a1), (6, t14)] h4) (seqK (fun tT h5 =>
enterK C F.model_Model_place [(get tT 0), (get tT 1)] h5 fun t22 h6 =>
bareK (xextract t22 0) h6 fun t23 h7 =>
bareK (xextract t22 1) h7 fun t24 h8 =>
bareK (xnilCheck (get tT 0)) h8 fun t27 h9 =>
bareK (fad 0 t27) h9 fun t28 h10 =>
bareK (ld1 h10 t28) h10 fun t29 h11 =>
bareK (xbin P .add T.int (.tmp 31) (.const (.int .i64 1)) t23 (.int .i64 1)) h11 fun t32 h12 =>
enterK C F.slices_Delete_Pair [t29, t23, t32] h12 fun t33 h13 =>
bareK (xnilCheck (get tT 0)) h13 fun t34 h14 =>
bareK (fad 0 t34) h14 fun t35 h15 =>
quietK (st1 h15 t35 t33) fun _ h16 =>
K0 .ret [(4, (get tT 6)), (5, (.int .i64 0))] h16) K0)

theorem s_model_Model_Delete_eq (M : CombL) (C : CallF) (LP : LoopH) (a0 : Value) (a1 : Value) (H : AHeap) : dBodyL M Try.prog hints C LP F.model_Model_Delete [a0, a1] H = s_model_Model_Delete M.b.g M.c M.s Try.prog C a0 a1 H (endK Try.prog [.tmp 4, .tmp 5]) := by kernel_rfl

/-! (*ticketline.model.Model).Swap -/

noncomputable def s_model_Model_Swap (mg : GT) (mc : CT) (ms : ST) (P : Program) (C : CallF) (a0 : Value) (a1 : Value) (a2 : Value) (a3 : Value) (H : AHeap) (K0 : K) : Res :=
bothK (bldL T.string [(.string (mk []))] 2 [(0, a2), (1, a3)] H) fun t17 h1 =>
enterK C F.model_Model_at [a0, a1, t17] h1 fun t18 h2 =>
bareK (xextract t18 0) h2 fun t19 h3 =>
bareK (xextract t18 1) h3 fun t20 h4 =>
bareK (xextract t18 2) h4 fun t21 h5 =>
ms (fun k1 =>
bareK (xbin P .neq T.api_Errno (.tmp 23) (.const (.int .i64 0)) t21 (.int .i64 0)) h5 fun t24 h6 =>
mc t24 (fun k2 => k2 .ret [(8, t21)] h6) (fun k2 =>
bareK (xun P .not t20) h6 fun t28 h7 =>
mc t28 (fun k3 => k3 .ret [(8, (.int .i64 9))] h7) (fun k3 =>
bareK (xnilCheck a0) h7 fun t31 h8 =>
bareK (fad 0 t31) h8 fun t32 h9 =>
bareK (ld1 h9 t32) h9 fun t33 h10 =>
bareK (ixS 2 t33 t19) h10 fun t35 h11 =>
bareK (fad 1 t35) h11 fun t36 h12 =>
bareK (ld1 h12 t36) h12 fun t37 h13 =>
bareK (xbin P .neq T.string (.tmp 37) (.tmp 38) t37 a2) h13 fun t39 h14 =>
mc t39 (fun k4 => k4 .ret [(8, (.int .i64 11))] h14) (fun k4 =>
k4 .normal [(0, a0), (1, a1), (3, a3), (9, t19)] h14) (afterK [0, 1, 3, 9] k3)) (afterK [0, 1, 3, 9] k2)) (blkK [0, 1, 3, 9] 0 k1)) (seqK (fun tT h15 =>
bareK (bldS #[(.string (mk [])), (.string (mk []))] [(0, 1), (1, 1)] [(0, (get tT 1)), (1, (get tT 3))]) h15 fun t44 h16 =>
enterK C F.model_Model_set [(get tT 0), (get tT 9), (.bool true), t44] h16 fun t45 h17 =>
K0 .ret [(8, t45)] h17) K0)

theorem s_model_Model_Swap_eq (M : CombL) (C : CallF) (LP : LoopH) (a0 : Value) (a1 : Value) (a2 : Value) (a3 : Value) (H : AHeap) : dBodyL M Try.prog hints C LP F.model_Model_Swap [a0, a1, a2, a3] H = s_model_Model_Swap M.b.g M.c M.s Try.prog C a0 a1 a2 a3 H (endK Try.prog [.tmp 8]) := by kernel_rfl

/-! (*ticketline.model.Model).Pairs -/

noncomputable def s_model_Model_Pairs (mg : GT) (mc : CT) (ms : ST) (P : Program) (C : CallF) (a0 : Value) (H : AHeap) (K0 : K) : Res :=
bareK (xbin P .eql T.p_model_Model (.tmp 3) (.const (.pointer none)) a0 (.pointer none)) H fun t4 h1 =>
mc t4 (fun k1 => k1 .ret [(2, (.slice none 0 0))] h1) (fun k1 =>
k1 .normal [(0, a0)] h1) (seqK (fun tT h2 =>
bareK (xnilCheck (get tT 0)) h2 fun t6 h3 =>
bareK (fad 0 t6) h3 fun t7 h4 =>
bareK (ld1 h4 t7) h4 fun t8 h5 =>
enterK C F.slices_Clone_Pair [t8] h5 fun t9 h6 =>
K0 .ret [(2, t9)] h6) K0)

theorem s_model_Model_Pairs_eq (M : CombL) (C : CallF) (LP : LoopH) (a0 : Value) (H : AHeap) : dBodyL M Try.prog hints C LP F.model_Model_Pairs [a0] H = s_model_Model_Pairs M.b.g M.c M.s Try.prog C a0 H (endK Try.prog [.tmp 2]) := by kernel_rfl

/-! ticketline.ticketlinelaw24.ends -/

noncomputable def s_law_ends (mg : GT) (mc : CT) (ms : ST) (P : Program) (C : CallF) (a0 : Value) (a1 : Value) (a2 : Value) (a3 : Value) (H : AHeap) (K0 : K) : Res :=
bothK (newv T.api_Pair a1 H) fun t5 h1 =>
bothK (newv T.api_Pair a2 h1) fun t6 h2 =>
enterK C F.model_Model_Min [a0] h2 fun t15 h3 =>
bareK (xextract t15 0) h3 fun t16 h4 =>
bareK (xextract t15 1) h4 fun t17 h5 =>
bothK (newv T.api_Pair (.agg #[(.string (mk [])), (.string (mk []))]) h5) fun t9 h6 =>
quietK (stN 2 h6 t9 t16) fun _ h7 =>
enterK C F.model_Model_Max [a0] h7 fun t20 h8 =>
bareK (xextract t20 0) h8 fun t21 h9 =>
bareK (xextract t20 1) h9 fun t22 h10 =>
bothK (newv T.api_Pair (.agg #[(.string (mk [])), (.string (mk []))]) h10) fun t11 h11 =>
quietK (stN 2 h11 t11 t21) fun _ h12 =>
bareK (ldN 2 h12 t9) h12 fun t23 h13 =>
bareK (ldN 2 h13 t5) h13 fun t24 h14 =>
bareK (xbin P .eql T.api_Pair (.tmp 23) (.tmp 24) t23 t24) h14 fun t25 h15 =>
mg t25 true (fun o1 => bareK (ldN 2 h15 t11) h15 o1) h15 fun t27 h16 =>
mg t25 true (fun o2 => bareK (ldN 2 h16 t6) h16 o2) h16 fun t28 h17 =>
mg t25 true (fun o3 => bareK (xbin P .eql T.api_Pair (.tmp 27) (.tmp 28) t27 t28) h17 o3) h17 fun t29 h18 =>
pickK t25 t29 (.bool false) fun t30 =>
mg t30 true (fun o4 => o4 t17 h18) h18 fun t32 h19 =>
mg t30 true (fun o5 => o5 a3 h19) h19 fun t33 h20 =>
mg t30 true (fun o6 => bareK (xbin P .eql T.api_Errno (.tmp 32) (.tmp 33) t32 t33) h20 o6) h20 fun t34 h21 =>
pickK t30 t34 (.bool false) fun t35 =>
mg t35 true (fun o7 => o7 t22 h21) h21 fun t37 h22 =>
mg t35 true (fun o8 => o8 a3 h22) h22 fun t38 h23 =>
mg t35 true (fun o9 => bareK (xbin P .eql T.api_Errno (.tmp 37) (.tmp 38) t37 t38) h23 o9) h23 fun t39 h24 =>
pickK t35 t39 (.bool false) fun t40 =>
K0 .ret [(8, t40)] h24

theorem s_law_ends_eq (M : CombL) (C : CallF) (LP : LoopH) (a0 : Value) (a1 : Value) (a2 : Value) (a3 : Value) (H : AHeap) : dBodyL M Try.prog hints C LP F.law_ends [a0, a1, a2, a3] H = s_law_ends M.b.g M.c M.s Try.prog C a0 a1 a2 a3 H (endK Try.prog [.tmp 8]) := by kernel_rfl

/-! ticketline.ticketlinelaw24.many -/

noncomputable def s_law_many (mg : GT) (mc : CT) (ms : ST) (P : Program) (C : CallF) (L0 : Value → Value → Value → AHeap → K → Res) (a0 : Value) (H : AHeap) (K0 : K) : Res :=
bothK (mkS T.uint8 [(.int .u8 0)] 1 a0 a0 H) fun t6 h1 =>
ms (fun k1 =>
L0 a0 t6 (.int .i64 0) h1 (blkK [3] 0 k1)) (seqK (fun tT h2 =>
bothK (xconv P T.sl_uint8 T.string (get tT 3) h2) fun t16 h3 =>
K0 .ret [(2, t16)] h3) K0)

noncomputable def s_law_many_b0 (mg : GT) (mc : CT) (ms : ST) (P : Program) (C : CallF) (L0 : Value → Value → Value → AHeap → K → Res) (v0 : Value) (v3 : Value) (v4 : Value) (H : AHeap) (k : K) : Res :=
bareK (xbin P .lss T.int (.tmp 7) (.tmp 8) v4 v0) H fun t9 h2 =>
mc t9 (fun k2 => k2 .normal [(0, v0), (3, v3), (4, v4)] h2) (fun k2 =>
k2 (.exit 0) [(9, t9), (8, v0), (7, v4), (0, v0), (3, v3), (4, v4)] h2) (seqK (fun tT h3 =>
ms (fun k3 =>
bareK (ixS 1 (get tT 3) (get tT 4)) h3 fun t14 h4 =>
quietK (st1 h4 t14 (.int .u8 120)) fun _ h5 =>
k3 .normal [(0, (get tT 0)), (3, (get tT 3)), (4, (get tT 4))] h5) (seqK (fun tT_1 h6 =>
bareK (xbin P .add T.int (.tmp 10) (.const (.int .i64 1)) (get tT_1 4) (.int .i64 1)) h6 fun t11 h7 =>
k .normal [(0, (get tT_1 0)), (3, (get tT_1 3)), (4, t11)] h7) (afterK [0, 3, 4] k))) (afterK [0, 3, 4] k))

theorem s_law_many_eq (M : CombL) (C : CallF) (LP : LoopH) (a0 : Value) (H : AHeap) : dBodyL M Try.prog hints C LP F.law_many [a0] H = s_law_many M.b.g M.c M.s Try.prog C (fun v0 v3 v4 H k => loopL M Try.prog hints C LP F.law_many 0 [(0, v0), (3, v3), (4, v4)] H k) a0 H (endK Try.prog [.tmp 2]) := by kernel_rfl

theorem s_law_many_b0_eq (M : CombL) (C : CallF) (LP : LoopH) (v0 : Value) (v3 : Value) (v4 : Value) (H : AHeap) (k : K) : bodyL M Try.prog hints C LP F.law_many 0 [(0, v0), (3, v3), (4, v4)] H (afterK [0, 3, 4] k) = s_law_many_b0 M.b.g M.c M.s Try.prog C (fun v0 v3 v4 H k => loopL M Try.prog hints C LP F.law_many 0 [(0, v0), (3, v3), (4, v4)] H k) v0 v3 v4 H k := by kernel_rfl

/-! (*ticketline.model.Model).at -/

noncomputable def s_model_Model_at (mg : GT) (mc : CT) (ms : ST) (P : Program) (C : CallF) (a0 : Value) (a1 : Value) (a2 : Value) (H : AHeap) (K0 : K) : Res :=
bareK (xbin P .eql T.p_model_Model (.tmp 13) (.const (.pointer none)) a0 (.pointer none)) H fun t14 h1 =>
mc t14 (fun k1 => k1 .ret [(6, (.int .i64 0)), (7, (.bool false)), (8, (.int .i64 1))] h1) (fun k1 =>
k1 .normal [(0, a0), (1, a1), (2, a2)] h1) (seqK (fun tT h2 =>
enterK C F.model_check [(get tT 1), (get tT 2)] h2 fun t17 h3 =>
bareK (xbin P .neq T.api_Errno (.tmp 18) (.const (.int .i64 0)) t17 (.int .i64 0)) h3 fun t19 h4 =>
mc t19 (fun k2 => k2 .ret [(6, (.int .i64 0)), (7, (.bool false)), (8, t17)] h4) (fun k2 =>
k2 .normal [(0, (get tT 0)), (1, (get tT 1))] h4) (seqK (fun tT_1 h5 =>
callK P C (.func (.func F.model_Model_place) #[(get tT_1 0)] #[]) [(get tT_1 1)] h5 fun t26 h6 =>
bareK (xextract t26 0) h6 fun t27 h7 =>
bareK (xextract t26 1) h7 fun t28 h8 =>
K0 .ret [(6, t27), (7, t28), (8, (.int .i64 0))] h8) K0)) K0)

theorem s_model_Model_at_eq (M : CombL) (C : CallF) (LP : LoopH) (a0 : Value) (a1 : Value) (a2 : Value) (H : AHeap) : dBodyL M Try.prog hints C LP F.model_Model_at [a0, a1, a2] H = s_model_Model_at M.b.g M.c M.s Try.prog C a0 a1 a2 H (endK Try.prog [.tmp 6, .tmp 7, .tmp 8]) := by kernel_rfl

/-! (*ticketline.model.Model).set -/

noncomputable def s_model_Model_set (mg : GT) (mc : CT) (ms : ST) (P : Program) (C : CallF) (a0 : Value) (a1 : Value) (a2 : Value) (a3 : Value) (H : AHeap) (K0 : K) : Res :=
bothK (newv T.api_Pair a3 H) fun t7 h1 =>
ms (fun k1 =>
mc a2 (fun k2 => bareK (xnilCheck a0) h1 fun t23 h2 =>
bareK (fad 0 t23) h2 fun t24 h3 =>
bareK (ld1 h3 t24) h3 fun t25 h4 =>
bareK (ldN 2 h4 t7) h4 fun t27 h5 =>
bareK (ixS 2 t25 a1) h5 fun t28 h6 =>
quietK (stN 2 h6 t28 t27) fun _ h7 =>
checkK true <|
k2 .normal [] h7) (fun k2 =>
bareK (xnilCheck a0) h1 fun t31 h8 =>
bareK (fad 0 t31) h8 fun t32 h9 =>
bareK (ld1 h9 t32) h9 fun t33 h10 =>
bareK (lenS t33) h10 fun t34 h11 =>
bareK (xbin P .eql T.int (.tmp 34) (.const (.int .i64 20000)) t34 (.int .i64 20000)) h11 fun t35 h12 =>
mc t35 (fun k3 => k3 .ret [(8, (.int .i64 7))] h12) (fun k3 =>
bareK (xnilCheck a0) h12 fun t11 h13 =>
bareK (fad 0 t11) h13 fun t12 h14 =>
bareK (ld1 h14 t12) h14 fun t13 h15 =>
bareK (ldN 2 h15 t7) h15 fun t15 h16 =>
bothK (bldL T.api_Pair [(.string (mk [])), (.string (mk []))] 1 [(0, t15)] h16) fun t16 h17 =>
enterK C F.slices_Insert_Pair [t13, a1, t16] h17 fun t17 h18 =>
bareK (xnilCheck a0) h18 fun t18 h19 =>
bareK (fad 0 t18) h19 fun t19 h20 =>
quietK (st1 h20 t19 t17) fun _ h21 =>
checkK (okV (some true) none h17 h18 h12 h12 && true) <|
k3 .normal [] h21) (afterK [] k2)) (blkK [] 0 k1)) (seqK (fun tT h22 =>
K0 .ret [(8, (.int .i64 0))] h22) K0)

theorem s_model_Model_set_eq (M : CombL) (C : CallF) (LP : LoopH) (a0 : Value) (a1 : Value) (a2 : Value) (a3 : Value) (H : AHeap) : dBodyL M Try.prog hints C LP F.model_Model_set [a0, a1, a2, a3] H = s_model_Model_set M.b.g M.c M.s Try.prog C a0 a1 a2 a3 H (endK Try.prog [.tmp 8]) := by kernel_rfl

/-! ticketline.ticketlineref24.bad -/

noncomputable def s_ref24_bad (mg : GT) (mc : CT) (ms : ST) (P : Program) (C : CallF) (L0 : Value → Value → AHeap → K → Res) (a0 : Value) (a1 : Value) (H : AHeap) (K0 : K) : Res :=
enterK C F.ref24_Key [a0] H fun t8 h1 =>
bareK (xbin P .neq T.api_Errno (.tmp 9) (.const (.int .i64 0)) t8 (.int .i64 0)) h1 fun t10 h2 =>
mc t10 (fun k1 => k1 .ret [(4, t8)] h2) (fun k1 =>
k1 .normal [(1, a1)] h2) (seqK (fun tT h3 =>
ms (fun k2 =>
L0 (get tT 1) (.int .i64 0) h3 (blkK [] 0 k2)) (seqK (fun tT_1 h4 =>
K0 .ret [(4, (.int .i64 0))] h4) K0)) K0)

noncomputable def s_ref24_bad_b0 (mg : GT) (mc : CT) (ms : ST) (P : Program) (C : CallF) (L0 : Value → Value → AHeap → K → Res) (v1 : Value) (v6 : Value) (H : AHeap) (k : K) : Res :=
bareK (lenS v1) H fun t14 h4 =>
bareK (xbin P .lss T.int (.tmp 12) (.tmp 14) v6 t14) h4 fun t15 h5 =>
mc t15 (fun k3 => k3 .normal [(1, v1), (6, v6)] h5) (fun k3 =>
k3 (.exit 0) [(15, t15), (14, t14), (13, v1), (12, v6), (1, v1), (6, v6)] h5) (seqK (fun tT h6 =>
ms (fun k4 =>
bareK (ixS 1 (get tT 1) (get tT 6)) h6 fun t20 h7 =>
bareK (ld1 h7 t20) h7 fun t21 h8 =>
bareK (lenT t21) h8 fun t22 h9 =>
bareK (xbin P .gtr T.int (.tmp 22) (.const (.int .i64 40)) t22 (.int .i64 40)) h9 fun t23 h10 =>
mc t23 (fun k5 => k5 .ret [(4, (.int .i64 5))] h10) (fun k5 =>
k5 .normal [(1, (get tT 1)), (6, (get tT 6))] h10) (blkK [1, 6] 1 k4)) (seqK (fun tT_1 h11 =>
bareK (xbin P .add T.int (.tmp 16) (.const (.int .i64 1)) (get tT_1 6) (.int .i64 1)) h11 fun t17 h12 =>
k .normal [(1, (get tT_1 1)), (6, t17)] h12) (afterK [1, 6] k))) (afterK [1, 6] k))

theorem s_ref24_bad_eq (M : CombL) (C : CallF) (LP : LoopH) (a0 : Value) (a1 : Value) (H : AHeap) : dBodyL M Try.prog hints C LP F.ref24_bad [a0, a1] H = s_ref24_bad M.b.g M.c M.s Try.prog C (fun v1 v6 H k => loopL M Try.prog hints C LP F.ref24_bad 0 [(1, v1), (6, v6)] H k) a0 a1 H (endK Try.prog [.tmp 4]) := by kernel_rfl

theorem s_ref24_bad_b0_eq (M : CombL) (C : CallF) (LP : LoopH) (v1 : Value) (v6 : Value) (H : AHeap) (k : K) : bodyL M Try.prog hints C LP F.ref24_bad 0 [(1, v1), (6, v6)] H (afterK [1, 6] k) = s_ref24_bad_b0 M.b.g M.c M.s Try.prog C (fun v1 v6 H k => loopL M Try.prog hints C LP F.ref24_bad 0 [(1, v1), (6, v6)] H k) v1 v6 H k := by kernel_rfl

/-! (*ticketline.ticketlineref24.Model).find -/

noncomputable def s_ref24_Model_find (mg : GT) (mc : CT) (ms : ST) (P : Program) (C : CallF) (L0 : Value → Value → Value → AHeap → K → Res) (a0 : Value) (a1 : Value) (H : AHeap) (K0 : K) : Res :=
ms (fun k1 =>
L0 a0 a1 (.int .i64 0) H (blkK [] 0 k1)) (seqK (fun tT h1 =>
K0 .ret [(4, (.int .i64 (-1)))] h1) K0)

noncomputable def s_ref24_Model_find_b0 (mg : GT) (mc : CT) (ms : ST) (P : Program) (C : CallF) (L0 : Value → Value → Value → AHeap → K → Res) (v0 : Value) (v1 : Value) (v5 : Value) (H : AHeap) (k : K) : Res :=
bareK (xnilCheck v0) H fun t8 h1 =>
bareK (fad 0 t8) h1 fun t9 h2 =>
bareK (ld1 h2 t9) h2 fun t10 h3 =>
bareK (lenS t10) h3 fun t11 h4 =>
bareK (xbin P .lss T.int (.tmp 6) (.tmp 11) v5 t11) h4 fun t12 h5 =>
mc t12 (fun k2 => k2 .normal [(0, v0), (1, v1), (5, v5)] h5) (fun k2 =>
k2 (.exit 0) [(12, t12), (11, t11), (10, t10), (9, t9), (8, t8), (7, v0), (6, v5), (0, v0), (1, v1), (5, v5)] h5) (seqK (fun tT h6 =>
ms (fun k3 =>
bareK (xnilCheck (get tT 0)) h6 fun t16 h7 =>
bareK (fad 0 t16) h7 fun t17 h8 =>
bareK (ld1 h8 t17) h8 fun t18 h9 =>
bareK (ixS 2 t18 (get tT 5)) h9 fun t20 h10 =>
bareK (fad 0 t20) h10 fun t21 h11 =>
bareK (ld1 h11 t21) h11 fun t22 h12 =>
bareK (xbin P .eql T.string (.tmp 22) (.tmp 23) t22 (get tT 1)) h12 fun t24 h13 =>
mc t24 (fun k4 => k4 .ret [(4, (get tT 5))] h13) (fun k4 =>
k4 .normal [(0, (get tT 0)), (1, (get tT 1)), (5, (get tT 5))] h13) (blkK [0, 1, 5] 1 k3)) (seqK (fun tT_1 h14 =>
bareK (xbin P .add T.int (.tmp 13) (.const (.int .i64 1)) (get tT_1 5) (.int .i64 1)) h14 fun t14 h15 =>
k .normal [(0, (get tT_1 0)), (1, (get tT_1 1)), (5, t14)] h15) (afterK [0, 1, 5] k))) (afterK [0, 1, 5] k))

theorem s_ref24_Model_find_eq (M : CombL) (C : CallF) (LP : LoopH) (a0 : Value) (a1 : Value) (H : AHeap) : dBodyL M Try.prog hints C LP F.ref24_Model_find [a0, a1] H = s_ref24_Model_find M.b.g M.c M.s Try.prog C (fun v0 v1 v5 H k => loopL M Try.prog hints C LP F.ref24_Model_find 0 [(0, v0), (1, v1), (5, v5)] H k) a0 a1 H (endK Try.prog [.tmp 4]) := by kernel_rfl

theorem s_ref24_Model_find_b0_eq (M : CombL) (C : CallF) (LP : LoopH) (v0 : Value) (v1 : Value) (v5 : Value) (H : AHeap) (k : K) : bodyL M Try.prog hints C LP F.ref24_Model_find 0 [(0, v0), (1, v1), (5, v5)] H (afterK [0, 1, 5] k) = s_ref24_Model_find_b0 M.b.g M.c M.s Try.prog C (fun v0 v1 v5 H k => loopL M Try.prog hints C LP F.ref24_Model_find 0 [(0, v0), (1, v1), (5, v5)] H k) v0 v1 v5 H k := by kernel_rfl

/-! (*ticketline.ticketlineref24.Model).Part -/

noncomputable def s_ref24_Model_Part (mg : GT) (mc : CT) (ms : ST) (P : Program) (C : CallF) (L0 : Value → Value → Value → Value → Value → AHeap → K → Res) (a0 : Value) (a1 : Value) (a2 : Value) (H : AHeap) (K0 : K) : Res :=
ms (fun k1 =>
L0 a0 a1 a2 (.slice none 0 0) (.int .i64 0) H (blkK [7] 0 k1)) (seqK (fun tT h1 =>
K0 .ret [(6, (get tT 7))] h1) K0)

noncomputable def s_ref24_Model_Part_b0 (mg : GT) (mc : CT) (ms : ST) (P : Program) (C : CallF) (L0 : Value → Value → Value → Value → Value → AHeap → K → Res) (v0 : Value) (v1 : Value) (v2 : Value) (v7 : Value) (v8 : Value) (H : AHeap) (k : K) : Res :=
bareK (xnilCheck v0) H fun t11 h1 =>
bareK (fad 0 t11) h1 fun t12 h2 =>
bareK (ld1 h2 t12) h2 fun t13 h3 =>
bareK (lenS t13) h3 fun t14 h4 =>
bareK (xbin P .lss T.int (.tmp 9) (.tmp 14) v8 t14) h4 fun t15 h5 =>
mc t15 (fun k2 => k2 .normal [(0, v0), (1, v1), (2, v2), (7, v7), (8, v8)] h5) (fun k2 =>
k2 (.exit 0) [(15, t15), (14, t14), (13, t13), (12, t12), (11, t11), (10, v0), (9, v8), (0, v0), (1, v1), (2, v2), (7, v7), (8, v8)] h5) (seqK (fun tT h6 =>
ms (fun k3 =>
bareK (xnilCheck (get tT 0)) h6 fun t19 h7 =>
bareK (fad 0 t19) h7 fun t20 h8 =>
bareK (ld1 h8 t20) h8 fun t21 h9 =>
bareK (ixS 2 t21 (get tT 8)) h9 fun t23 h10 =>
bareK (fad 0 t23) h10 fun t24 h11 =>
bareK (ld1 h11 t24) h11 fun t25 h12 =>
bareK (xbin P .geq T.string (.tmp 25) (.tmp 26) t25 (get tT 1)) h12 fun t27 h13 =>
mg t27 true (fun o4 => o4 (get tT 2) h13) h13 fun t29 h14 =>
mg t27 true (fun o5 => bareK (xbin P .eql T.string (.tmp 29) (.const (.string (mk []))) t29 (.string (mk []))) h14 o5) h14 fun t30 h15 =>
mg t27 true (fun o6 => o6 t30 h15) h15 fun t31 h16 =>
mg t31 false (fun o7 => o7 (get tT 0) h16) h16 fun t32 h17 =>
mg t31 false (fun o8 => bareK (xnilCheck t32) h17 o8) h17 fun t33 h18 =>
mg t31 false (fun o9 => bareK (fad 0 t33) h18 o9) h18 fun t34 h19 =>
mg t31 false (fun o10 => bareK (ld1 h19 t34) h19 o10) h19 fun t35 h20 =>
mg t31 false (fun o11 => o11 (get tT 8) h20) h20 fun t36 h21 =>
mg t31 false (fun o12 => bareK (ixS 2 t35 t36) h21 o12) h21 fun t37 h22 =>
mg t31 false (fun o13 => bareK (fad 0 t37) h22 o13) h22 fun t38 h23 =>
mg t31 false (fun o14 => bareK (ld1 h23 t38) h23 o14) h23 fun t39 h24 =>
mg t31 false (fun o15 => o15 (get tT 2) h24) h24 fun t40 h25 =>
mg t31 false (fun o16 => bareK (xbin P .lss T.string (.tmp 39) (.tmp 40) t39 t40) h25 o16) h25 fun t41 h26 =>
mg t27 true (fun o17 => pickK t31 (.bool true) t41 fun v => o17 v h26) h26 fun t42 h27 =>
pickK t27 t42 (.bool false) fun t43 =>
mc t43 (fun k18 => bareK (xnilCheck (get tT 0)) h27 fun t46 h28 =>
bareK (fad 0 t46) h28 fun t47 h29 =>
bareK (ld1 h29 t47) h29 fun t48 h30 =>
bareK (ixS 2 t48 (get tT 8)) h30 fun t50 h31 =>
bareK (ldN 2 h31 t50) h31 fun t51 h32 =>
bothK (bldL T.api_Pair [(.string (mk [])), (.string (mk []))] 1 [(0, t51)] h32) fun t52 h33 =>
bothK (app T.api_Pair 2 32 (get tT 7) (srcS 2 t52 h33) h33) fun t53 h34 =>
k18 .normal [(0, (get tT 0)), (1, (get tT 1)), (2, (get tT 2)), (7, t53), (8, (get tT 8))] h34) (fun k18 =>
k18 .normal [(0, (get tT 0)), (1, (get tT 1)), (2, (get tT 2)), (7, (get tT 7)), (8, (get tT 8))] h27) (blkK [0, 1, 2, 7, 8] 1 k3)) (seqK (fun tT_1 h35 =>
bareK (xbin P .add T.int (.tmp 16) (.const (.int .i64 1)) (get tT_1 8) (.int .i64 1)) h35 fun t17 h36 =>
k .normal [(0, (get tT_1 0)), (1, (get tT_1 1)), (2, (get tT_1 2)), (7, (get tT_1 7)), (8, t17)] h36) (afterK [0, 1, 2, 7, 8] k))) (afterK [0, 1, 2, 7, 8] k))

theorem s_ref24_Model_Part_eq (M : CombL) (C : CallF) (LP : LoopH) (a0 : Value) (a1 : Value) (a2 : Value) (H : AHeap) : dBodyL M Try.prog hints C LP F.ref24_Model_Part [a0, a1, a2] H = s_ref24_Model_Part M.b.g M.c M.s Try.prog C (fun v0 v1 v2 v7 v8 H k => loopL M Try.prog hints C LP F.ref24_Model_Part 0 [(0, v0), (1, v1), (2, v2), (7, v7), (8, v8)] H k) a0 a1 a2 H (endK Try.prog [.tmp 6]) := by kernel_rfl

theorem s_ref24_Model_Part_b0_eq (M : CombL) (C : CallF) (LP : LoopH) (v0 : Value) (v1 : Value) (v2 : Value) (v7 : Value) (v8 : Value) (H : AHeap) (k : K) : bodyL M Try.prog hints C LP F.ref24_Model_Part 0 [(0, v0), (1, v1), (2, v2), (7, v7), (8, v8)] H (afterK [0, 1, 2, 7, 8] k) = s_ref24_Model_Part_b0 M.b.g M.c M.s Try.prog C (fun v0 v1 v2 v7 v8 H k => loopL M Try.prog hints C LP F.ref24_Model_Part 0 [(0, v0), (1, v1), (2, v2), (7, v7), (8, v8)] H k) v0 v1 v2 v7 v8 H k := by kernel_rfl

/-! (*ticketline.model.Model).Range -/

noncomputable def s_model_Model_Range (mg : GT) (mc : CT) (ms : ST) (P : Program) (C : CallF) (a0 : Value) (a1 : Value) (a2 : Value) (a3 : Value) (H : AHeap) (K0 : K) : Res :=
ms (fun k1 =>
bareK (xbin P .eql T.p_model_Model (.tmp 14) (.const (.pointer none)) a0 (.pointer none)) H fun t15 h1 =>
mc t15 (fun k2 => k2 .ret [(8, (.slice none 0 0)), (9, (.int .i64 1))] h1) (fun k2 =>
bareK (xbin P .lss T.int (.tmp 17) (.const (.int .i64 1)) a3 (.int .i64 1)) h1 fun t18 h2 =>
mg t18 false (fun o3 => o3 a3 h2) h2 fun t20 h3 =>
mg t18 false (fun o4 => bareK (xbin P .gtr T.int (.tmp 20) (.const (.int .i64 32)) t20 (.int .i64 32)) h3 o4) h3 fun t21 h4 =>
pickK t18 (.bool true) t21 fun t22 =>
mc t22 (fun k5 => k5 .ret [(8, (.slice none 0 0)), (9, (.int .i64 2))] h4) (fun k5 =>
bareK (lenT a1) h4 fun t25 h5 =>
bareK (xbin P .gtr T.int (.tmp 25) (.const (.int .i64 24)) t25 (.int .i64 24)) h5 fun t26 h6 =>
mg t26 false (fun o6 => o6 a2 h6) h6 fun t28 h7 =>
mg t26 false (fun o7 => bareK (lenT t28) h7 o7) h7 fun t29 h8 =>
mg t26 false (fun o8 => bareK (xbin P .gtr T.int (.tmp 29) (.const (.int .i64 24)) t29 (.int .i64 24)) h8 o8) h8 fun t30 h9 =>
pickK t26 (.bool true) t30 fun t31 =>
mc t31 (fun k9 => k9 .ret [(8, (.slice none 0 0)), (9, (.int .i64 5))] h9) (fun k9 =>
k9 .normal [(0, a0), (1, a1), (2, a2), (3, a3)] h9) (afterK [0, 1, 2, 3] k5)) (afterK [0, 1, 2, 3] k2)) (blkK [0, 1, 2, 3] 0 k1)) (seqK (fun tT h10 =>
enterK C F.model_Model_place [(get tT 0), (get tT 1)] h10 fun t35 h11 =>
bareK (xextract t35 0) h11 fun t36 h12 =>
bareK (xextract t35 1) h12 fun t37 h13 =>
bareK (xnilCheck (get tT 0)) h13 fun t39 h14 =>
bareK (fad 0 t39) h14 fun t40 h15 =>
bareK (ld1 h15 t40) h15 fun t41 h16 =>
bareK (lenS t41) h16 fun t42 h17 =>
bareK (xbin P .neq T.string (.tmp 43) (.const (.string (mk []))) (get tT 2) (.string (mk []))) h17 fun t44 h18 =>
mc t44 (fun k10 => enterK C F.model_Model_place [(get tT 0), (get tT 2)] h18 fun t48 h19 =>
bareK (xextract t48 0) h19 fun t49 h20 =>
bareK (xextract t48 1) h20 fun t50 h21 =>
k10 .normal [(0, (get tT 0)), (3, (get tT 3)), (10, t36), (12, t49)] h21) (fun k10 =>
k10 .normal [(0, (get tT 0)), (3, (get tT 3)), (10, t36), (12, t42)] h18) (seqK (fun tT_1 h22 =>
bareK (xbin P .leq T.int (.tmp 51) (.tmp 52) (get tT_1 12) (get tT_1 10)) h22 fun t53 h23 =>
mc t53 (fun k11 => k11 .ret [(8, (.slice none 0 0)), (9, (.int .i64 0))] h23) (fun k11 =>
k11 .normal [(0, (get tT_1 0)), (3, (get tT_1 3)), (10, (get tT_1 10)), (12, (get tT_1 12))] h23) (seqK (fun tT_2 h24 =>
bareK (xnilCheck (get tT_2 0)) h24 fun t55 h25 =>
bareK (fad 0 t55) h25 fun t56 h26 =>
bareK (ld1 h26 t56) h26 fun t57 h27 =>
bareK (xbin P .add T.int (.tmp 60) (.tmp 61) (get tT_2 10) (get tT_2 3)) h27 fun t62 h28 =>
nextK C h28 (xbuiltin P .min [T.int, T.int] [(get tT_2 12), t62] h28) fun t63 h29 =>
bareK (slS T.api_Pair 2 t57 (some (get tT_2 10)) (some t63) none h29) h29 fun t64 h30 =>
enterK C F.slices_Clone_Pair [t64] h30 fun t65 h31 =>
K0 .ret [(8, t65), (9, (.int .i64 0))] h31) K0)) K0)) K0)

theorem s_model_Model_Range_eq (M : CombL) (C : CallF) (LP : LoopH) (a0 : Value) (a1 : Value) (a2 : Value) (a3 : Value) (H : AHeap) : dBodyL M Try.prog hints C LP F.model_Model_Range [a0, a1, a2, a3] H = s_model_Model_Range M.b.g M.c M.s Try.prog C a0 a1 a2 a3 H (endK Try.prog [.tmp 8, .tmp 9]) := by kernel_rfl

/-! ticketline.model.check -/

noncomputable def s_model_check (mg : GT) (mc : CT) (ms : ST) (P : Program) (C : CallF) (a0 : Value) (a1 : Value) (H : AHeap) (K0 : K) : Res :=
ms (fun k1 =>
bareK (xbin P .eql T.string (.tmp 6) (.const (.string (mk []))) a0 (.string (mk []))) H fun t7 h1 =>
mc t7 (fun k2 => k2 .ret [(4, (.int .i64 2))] h1) (fun k2 =>
bareK (lenT a0) h1 fun t10 h2 =>
bareK (xbin P .gtr T.int (.tmp 10) (.const (.int .i64 24)) t10 (.int .i64 24)) h2 fun t11 h3 =>
mg t11 false (fun o3 => o3 a1 h3) h3 fun t13 h4 =>
mg t11 false (fun o4 => enterK C F.slices_ContainsFunc_string [t13, (.func (.func F.model_check_1) #[] #[])] h4 o4) h4 fun t14 h5 =>
pickK t11 (.bool true) t14 fun t15 =>
mc t15 (fun k5 => k5 .ret [(4, (.int .i64 5))] h5) (fun k5 =>
k5 .normal [] h5) (afterK [] k2)) (blkK [] 0 k1)) (seqK (fun tT h6 =>
K0 .ret [(4, (.int .i64 0))] h6) K0)

theorem s_model_check_eq (M : CombL) (C : CallF) (LP : LoopH) (a0 : Value) (a1 : Value) (H : AHeap) : dBodyL M Try.prog hints C LP F.model_check [a0, a1] H = s_model_check M.b.g M.c M.s Try.prog C a0 a1 H (endK Try.prog [.tmp 4]) := by kernel_rfl

/-! ticketline.keys.Compare -/

noncomputable def s_keys_Compare (mg : GT) (mc : CT) (ms : ST) (P : Program) (C : CallF) (a0 : Value) (a1 : Value) (H : AHeap) (K0 : K) : Res :=
enterK C F.strings_Compare [a0, a1] H fun t7 h1 =>
K0 .ret [(4, t7)] h1

theorem s_keys_Compare_eq (M : CombL) (C : CallF) (LP : LoopH) (a0 : Value) (a1 : Value) (H : AHeap) : dBodyL M Try.prog hints C LP F.keys_Compare [a0, a1] H = s_keys_Compare M.b.g M.c M.s Try.prog C a0 a1 H (endK Try.prog [.tmp 4]) := by kernel_rfl

/-! slices.Clone[[]ticketline.api.Pair,ticketline.api.Pair] -/

noncomputable def s_slices_Clone_Pair (mg : GT) (mc : CT) (ms : ST) (P : Program) (C : CallF) (a0 : Value) (H : AHeap) (K0 : K) : Res :=
bareK (xbin P .eql T.sl_api_Pair (.tmp 3) (.const (.slice none 0 0)) a0 (.slice none 0 0)) H fun t4 h1 =>
mc t4 (fun k1 => k1 .ret [(2, (.slice none 0 0))] h1) (fun k1 =>
k1 .normal [(0, a0)] h1) (seqK (fun tT h2 =>
bothK (bldL T.api_Pair [(.string (mk [])), (.string (mk []))] 0 [] h2) fun t5 h3 =>
bothK (app T.api_Pair 2 32 t5 (srcS 2 (get tT 0) h3) h3) fun t7 h4 =>
K0 .ret [(2, t7)] h4) K0)

theorem s_slices_Clone_Pair_eq (M : CombL) (C : CallF) (LP : LoopH) (a0 : Value) (H : AHeap) : dBodyL M Try.prog hints C LP F.slices_Clone_Pair [a0] H = s_slices_Clone_Pair M.b.g M.c M.s Try.prog C a0 H (endK Try.prog [.tmp 2]) := by kernel_rfl

/-! (*ticketline.model.Model).Get -/

noncomputable def s_model_Model_Get (mg : GT) (mc : CT) (ms : ST) (P : Program) (C : CallF) (a0 : Value) (a1 : Value) (H : AHeap) (K0 : K) : Res :=
enterK C F.model_Model_at [a0, a1, (.slice none 0 0)] H fun t12 h1 =>
bareK (xextract t12 0) h1 fun t13 h2 =>
bareK (xextract t12 1) h2 fun t14 h3 =>
bareK (xextract t12 2) h3 fun t15 h4 =>
ms (fun k1 =>
bareK (xbin P .neq T.api_Errno (.tmp 17) (.const (.int .i64 0)) t15 (.int .i64 0)) h4 fun t18 h5 =>
mc t18 (fun k2 => k2 .ret [(4, (.string (mk []))), (5, t15)] h5) (fun k2 =>
bareK (xun P .not t14) h5 fun t22 h6 =>
mc t22 (fun k3 => k3 .ret [(4, (.string (mk []))), (5, (.int .i64 9))] h6) (fun k3 =>
k3 .normal [(0, a0), (6, t13)] h6) (afterK [0, 6] k2)) (blkK [0, 6] 0 k1)) (seqK (fun tT h7 =>
bareK (xnilCheck (get tT 0)) h7 fun t24 h8 =>
bareK (fad 0 t24) h8 fun t25 h9 =>
bareK (ld1 h9 t25) h9 fun t26 h10 =>
bareK (ixS 2 t26 (get tT 6)) h10 fun t28 h11 =>
bareK (fad 1 t28) h11 fun t29 h12 =>
bareK (ld1 h12 t29) h12 fun t30 h13 =>
K0 .ret [(4, t30), (5, (.int .i64 0))] h13) K0)

theorem s_model_Model_Get_eq (M : CombL) (C : CallF) (LP : LoopH) (a0 : Value) (a1 : Value) (H : AHeap) : dBodyL M Try.prog hints C LP F.model_Model_Get [a0, a1] H = s_model_Model_Get M.b.g M.c M.s Try.prog C a0 a1 H (endK Try.prog [.tmp 4, .tmp 5]) := by kernel_rfl

/-! (*ticketline.ticketlineref24.Model).Get -/

noncomputable def s_ref24_Model_Get (mg : GT) (mc : CT) (ms : ST) (P : Program) (C : CallF) (a0 : Value) (a1 : Value) (H : AHeap) (K0 : K) : Res :=
enterK C F.ref24_Key [a1] H fun t9 h1 =>
bareK (xbin P .neq T.api_Errno (.tmp 10) (.const (.int .i64 0)) t9 (.int .i64 0)) h1 fun t11 h2 =>
mc t11 (fun k1 => k1 .ret [(4, (.string (mk []))), (5, t9)] h2) (fun k1 =>
k1 .normal [(0, a0), (1, a1)] h2) (seqK (fun tT h3 =>
enterK C F.ref24_Model_find [(get tT 0), (get tT 1)] h3 fun t15 h4 =>
bareK (xbin P .lss T.int (.tmp 16) (.const (.int .i64 0)) t15 (.int .i64 0)) h4 fun t17 h5 =>
mc t17 (fun k2 => k2 .ret [(4, (.string (mk []))), (5, (.int .i64 9))] h5) (fun k2 =>
k2 .normal [(0, (get tT 0)), (7, t15)] h5) (seqK (fun tT_1 h6 =>
bareK (xnilCheck (get tT_1 0)) h6 fun t19 h7 =>
bareK (fad 0 t19) h7 fun t20 h8 =>
bareK (ld1 h8 t20) h8 fun t21 h9 =>
bareK (ixS 2 t21 (get tT_1 7)) h9 fun t23 h10 =>
bareK (fad 1 t23) h10 fun t24 h11 =>
bareK (ld1 h11 t24) h11 fun t25 h12 =>
K0 .ret [(4, t25), (5, (.int .i64 0))] h12) K0)) K0)

theorem s_ref24_Model_Get_eq (M : CombL) (C : CallF) (LP : LoopH) (a0 : Value) (a1 : Value) (H : AHeap) : dBodyL M Try.prog hints C LP F.ref24_Model_Get [a0, a1] H = s_ref24_Model_Get M.b.g M.c M.s Try.prog C a0 a1 H (endK Try.prog [.tmp 4, .tmp 5]) := by kernel_rfl

/-! (*ticketline.ticketlineref24.Model).Insert -/

noncomputable def s_ref24_Model_Insert (mg : GT) (mc : CT) (ms : ST) (P : Program) (C : CallF) (a0 : Value) (a1 : Value) (a2 : Value) (H : AHeap) (K0 : K) : Res :=
bothK (bldL T.string [(.string (mk []))] 1 [(0, a2)] H) fun t10 h1 =>
enterK C F.ref24_bad [a1, t10] h1 fun t11 h2 =>
bareK (xbin P .neq T.api_Errno (.tmp 12) (.const (.int .i64 0)) t11 (.int .i64 0)) h2 fun t13 h3 =>
mc t13 (fun k1 => k1 .ret [(6, t11)] h3) (fun k1 =>
k1 .normal [(0, a0), (1, a1), (2, a2)] h3) (seqK (fun tT h4 =>
enterK C F.ref24_Model_find [(get tT 0), (get tT 1)] h4 fun t17 h5 =>
bareK (xbin P .geq T.int (.tmp 17) (.const (.int .i64 0)) t17 (.int .i64 0)) h5 fun t18 h6 =>
mc t18 (fun k2 => k2 .ret [(6, (.int .i64 11))] h6) (fun k2 =>
k2 .normal [(0, (get tT 0)), (1, (get tT 1)), (2, (get tT 2))] h6) (seqK (fun tT_1 h7 =>
enterK C F.ref24_Model_Put [(get tT_1 0), (get tT_1 1), (get tT_1 2)] h7 fun t22 h8 =>
K0 .ret [(6, t22)] h8) K0)) K0)

theorem s_ref24_Model_Insert_eq (M : CombL) (C : CallF) (LP : LoopH) (a0 : Value) (a1 : Value) (a2 : Value) (H : AHeap) : dBodyL M Try.prog hints C LP F.ref24_Model_Insert [a0, a1, a2] H = s_ref24_Model_Insert M.b.g M.c M.s Try.prog C a0 a1 a2 H (endK Try.prog [.tmp 6]) := by kernel_rfl

/-! (*ticketline.ticketlineref24.Model).Delete -/

noncomputable def s_ref24_Model_Delete (mg : GT) (mc : CT) (ms : ST) (P : Program) (C : CallF) (a0 : Value) (a1 : Value) (H : AHeap) (K0 : K) : Res :=
enterK C F.ref24_Model_Get [a0, a1] H fun t12 h1 =>
bareK (xextract t12 0) h1 fun t13 h2 =>
bareK (xextract t12 1) h2 fun t14 h3 =>
bareK (xbin P .neq T.api_Errno (.tmp 15) (.const (.int .i64 0)) t14 (.int .i64 0)) h3 fun t16 h4 =>
mc t16 (fun k1 => k1 .ret [(4, (.string (mk []))), (5, t14)] h4) (fun k1 =>
k1 .normal [(0, a0), (1, a1), (6, t13)] h4) (seqK (fun tT h5 =>
enterK C F.ref24_Model_find [(get tT 0), (get tT 1)] h5 fun t20 h6 =>
bareK (xnilCheck (get tT 0)) h6 fun t23 h7 =>
bareK (fad 0 t23) h7 fun t24 h8 =>
bareK (ld1 h8 t24) h8 fun t25 h9 =>
bareK (slS T.api_Pair 2 t25 none (some t20) none h9) h9 fun t27 h10 =>
bothK (app T.api_Pair 2 32 (.slice none 0 0) (srcS 2 t27 h10) h10) fun t28 h11 =>
bareK (xnilCheck (get tT 0)) h11 fun t30 h12 =>
bareK (fad 0 t30) h12 fun t31 h13 =>
bareK (ld1 h13 t31) h13 fun t32 h14 =>
bareK (xbin P .add T.int (.tmp 33) (.const (.int .i64 1)) t20 (.int .i64 1)) h14 fun t34 h15 =>
bareK (slS T.api_Pair 2 t32 (some t34) none none h15) h15 fun t35 h16 =>
bothK (app T.api_Pair 2 32 t28 (srcS 2 t35 h16) h16) fun t36 h17 =>
bareK (xnilCheck (get tT 0)) h17 fun t37 h18 =>
bareK (fad 0 t37) h18 fun t38 h19 =>
quietK (st1 h19 t38 t36) fun _ h20 =>
checkK (okV (some true) none h10 h11 h6 h6 && (okV (some true) none h10 h11 h11 h11 && (okV (some true) none h10 h11 h11 h12 && (okV (some true) none h10 h11 h12 h13 && (okV (some true) (blockOf t31) h10 h11 h13 h14 && (okV (some true) none h10 h11 h14 h14 && (okV (some true) none h10 h11 h14 h15 && (okV (some true) (blockOf t32) h10 h11 h15 h16 && (okV (some true) none h16 h17 h6 h6 && true))))))))) <|
K0 .ret [(4, (get tT 6)), (5, (.int .i64 0))] h20) K0)

theorem s_ref24_Model_Delete_eq (M : CombL) (C : CallF) (LP : LoopH) (a0 : Value) (a1 : Value) (H : AHeap) : dBodyL M Try.prog hints C LP F.ref24_Model_Delete [a0, a1] H = s_ref24_Model_Delete M.b.g M.c M.s Try.prog C a0 a1 H (endK Try.prog [.tmp 4, .tmp 5]) := by kernel_rfl

/-! (*ticketline.ticketlineref24.Model).Swap -/

noncomputable def s_ref24_Model_Swap (mg : GT) (mc : CT) (ms : ST) (P : Program) (C : CallF) (a0 : Value) (a1 : Value) (a2 : Value) (a3 : Value) (H : AHeap) (K0 : K) : Res :=
bothK (bldL T.string [(.string (mk []))] 2 [(0, a2), (1, a3)] H) fun t15 h1 =>
enterK C F.ref24_bad [a1, t15] h1 fun t16 h2 =>
bareK (xbin P .neq T.api_Errno (.tmp 17) (.const (.int .i64 0)) t16 (.int .i64 0)) h2 fun t18 h3 =>
mc t18 (fun k1 => k1 .ret [(8, t16)] h3) (fun k1 =>
k1 .normal [(0, a0), (1, a1), (2, a2), (3, a3)] h3) (seqK (fun tT h4 =>
enterK C F.ref24_Model_Get [(get tT 0), (get tT 1)] h4 fun t23 h5 =>
bareK (xextract t23 0) h5 fun t24 h6 =>
bareK (xextract t23 1) h6 fun t25 h7 =>
bareK (xbin P .neq T.api_Errno (.tmp 26) (.const (.int .i64 0)) t25 (.int .i64 0)) h7 fun t27 h8 =>
mc t27 (fun k2 => k2 .ret [(8, t25)] h8) (fun k2 =>
k2 .normal [(0, (get tT 0)), (1, (get tT 1)), (2, (get tT 2)), (3, (get tT 3)), (10, t24)] h8) (seqK (fun tT_1 h9 =>
bareK (xbin P .neq T.string (.tmp 29) (.tmp 30) (get tT_1 10) (get tT_1 2)) h9 fun t31 h10 =>
mc t31 (fun k3 => k3 .ret [(8, (.int .i64 11))] h10) (fun k3 =>
k3 .normal [(0, (get tT_1 0)), (1, (get tT_1 1)), (3, (get tT_1 3))] h10) (seqK (fun tT_2 h11 =>
enterK C F.ref24_Model_Put [(get tT_2 0), (get tT_2 1), (get tT_2 3)] h11 fun t35 h12 =>
K0 .ret [(8, t35)] h12) K0)) K0)) K0)

theorem s_ref24_Model_Swap_eq (M : CombL) (C : CallF) (LP : LoopH) (a0 : Value) (a1 : Value) (a2 : Value) (a3 : Value) (H : AHeap) : dBodyL M Try.prog hints C LP F.ref24_Model_Swap [a0, a1, a2, a3] H = s_ref24_Model_Swap M.b.g M.c M.s Try.prog C a0 a1 a2 a3 H (endK Try.prog [.tmp 8]) := by kernel_rfl

/-! slices.Equal[[]ticketline.api.Pair,ticketline.api.Pair] -/

noncomputable def s_slices_Equal_Pair (mg : GT) (mc : CT) (ms : ST) (P : Program) (C : CallF) (L0 : Value → Value → Value → Value → AHeap → K → Res) (a0 : Value) (a1 : Value) (H : AHeap) (K0 : K) : Res :=
bareK (lenS a0) H fun t7 h1 =>
bareK (lenS a1) h1 fun t9 h2 =>
bareK (xbin P .neq T.int (.tmp 7) (.tmp 9) t7 t9) h2 fun t10 h3 =>
mc t10 (fun k1 => k1 .ret [(4, (.bool false))] h3) (fun k1 =>
k1 .normal [(0, a0), (1, a1)] h3) (seqK (fun tT h4 =>
bareK (lenS (get tT 0)) h4 fun t12 h5 =>
ms (fun k2 =>
L0 (get tT 0) (get tT 1) t12 (.int .i64 0) h5 (blkK [] 0 k2)) (seqK (fun tT_1 h6 =>
K0 .ret [(4, (.bool true))] h6) K0)) K0)

noncomputable def s_slices_Equal_Pair_b0 (mg : GT) (mc : CT) (ms : ST) (P : Program) (C : CallF) (L0 : Value → Value → Value → Value → AHeap → K → Res) (v0 : Value) (v1 : Value) (v12 : Value) (v13 : Value) (H : AHeap) (k : K) : Res :=
bareK (xbin P .lss T.int (.tmp 13) (.tmp 12) v13 v12) H fun t14 h6 =>
mc t14 (fun k3 => k3 .normal [(0, v0), (1, v1), (12, v12), (13, v13)] h6) (fun k3 =>
k3 (.exit 0) [(14, t14), (0, v0), (1, v1), (12, v12), (13, v13)] h6) (seqK (fun tT h7 =>
ms (fun k4 =>
bareK (ixS 2 (get tT 0) (get tT 13)) h7 fun t18 h8 =>
bareK (ldN 2 h8 t18) h8 fun t19 h9 =>
bareK (ixS 2 (get tT 1) (get tT 13)) h9 fun t22 h10 =>
bareK (ldN 2 h10 t22) h10 fun t23 h11 =>
bareK (xbin P .neq T.api_Pair (.tmp 19) (.tmp 23) t19 t23) h11 fun t24 h12 =>
checkK true <|
mc t24 (fun k5 => k5 .ret [(4, (.bool false))] h12) (fun k5 =>
k5 .normal [(0, (get tT 0)), (1, (get tT 1)), (12, (get tT 12)), (13, (get tT 13))] h12) (blkK [0, 1, 12, 13] 1 k4)) (seqK (fun tT_1 h13 =>
bareK (xbin P .add T.int (.tmp 13) (.const (.int .i64 1)) (get tT_1 13) (.int .i64 1)) h13 fun t25 h14 =>
k .normal [(0, (get tT_1 0)), (1, (get tT_1 1)), (12, (get tT_1 12)), (13, t25)] h14) (afterK [0, 1, 12, 13] k))) (afterK [0, 1, 12, 13] k))

theorem s_slices_Equal_Pair_eq (M : CombL) (C : CallF) (LP : LoopH) (a0 : Value) (a1 : Value) (H : AHeap) : dBodyL M Try.prog hints C LP F.slices_Equal_Pair [a0, a1] H = s_slices_Equal_Pair M.b.g M.c M.s Try.prog C (fun v0 v1 v12 v13 H k => loopL M Try.prog hints C LP F.slices_Equal_Pair 0 [(0, v0), (1, v1), (12, v12), (13, v13)] H k) a0 a1 H (endK Try.prog [.tmp 4]) := by kernel_rfl

theorem s_slices_Equal_Pair_b0_eq (M : CombL) (C : CallF) (LP : LoopH) (v0 : Value) (v1 : Value) (v12 : Value) (v13 : Value) (H : AHeap) (k : K) : bodyL M Try.prog hints C LP F.slices_Equal_Pair 0 [(0, v0), (1, v1), (12, v12), (13, v13)] H (afterK [0, 1, 12, 13] k) = s_slices_Equal_Pair_b0 M.b.g M.c M.s Try.prog C (fun v0 v1 v12 v13 H k => loopL M Try.prog hints C LP F.slices_Equal_Pair 0 [(0, v0), (1, v1), (12, v12), (13, v13)] H k) v0 v1 v12 v13 H k := by kernel_rfl

/-! (*ticketline.model.Model).place -/

noncomputable def s_model_Model_place (mg : GT) (mc : CT) (ms : ST) (P : Program) (C : CallF) (a0 : Value) (a1 : Value) (H : AHeap) (K0 : K) : Res :=
bareK (xnilCheck a0) H fun t7 h1 =>
bareK (fad 0 t7) h1 fun t8 h2 =>
bareK (ld1 h2 t8) h2 fun t9 h3 =>
enterK C F.slices_BinarySearchFunc_string [t9, a1, (.func (.func F.model_Model_place_1) #[] #[])] h3 fun t11 h4 =>
bareK (xextract t11 0) h4 fun t12 h5 =>
bareK (xextract t11 1) h5 fun t13 h6 =>
K0 .ret [(4, t12), (5, t13)] h6

theorem s_model_Model_place_eq (M : CombL) (C : CallF) (LP : LoopH) (a0 : Value) (a1 : Value) (H : AHeap) : dBodyL M Try.prog hints C LP F.model_Model_place [a0, a1] H = s_model_Model_place M.b.g M.c M.s Try.prog C a0 a1 H (endK Try.prog [.tmp 4, .tmp 5]) := by kernel_rfl

/-! slices.Delete[[]ticketline.api.Pair,ticketline.api.Pair] -/

noncomputable def s_slices_Delete_Pair (mg : GT) (mc : CT) (ms : ST) (P : Program) (C : CallF) (a0 : Value) (a1 : Value) (a2 : Value) (H : AHeap) (K0 : K) : Res :=
bareK (lenS a0) H fun t12 h1 =>
bareK (slS T.api_Pair 2 a0 (some a1) (some a2) (some t12) h1) h1 fun t13 h2 =>
bareK (xbin P .eql T.int (.tmp 14) (.tmp 15) a1 a2) h2 fun t16 h3 =>
mc t16 (fun k1 => k1 .ret [(6, a0)] h3) (fun k1 =>
k1 .normal [(0, a0), (1, a1), (2, a2)] h3) (seqK (fun tT h4 =>
bareK (lenS (get tT 0)) h4 fun t19 h5 =>
bareK (slS T.api_Pair 2 (get tT 0) none (some (get tT 1)) none h5) h5 fun t22 h6 =>
bareK (slS T.api_Pair 2 (get tT 0) (some (get tT 2)) none none h6) h6 fun t25 h7 =>
bothK (app T.api_Pair 2 32 t22 (srcS 2 t25 h7) h7) fun t26 h8 =>
checkK true <|
bareK (lenS t26) h8 fun t29 h9 =>
bareK (slS T.api_Pair 2 t26 (some t29) (some t19) none h9) h9 fun t31 h10 =>
bothK (xclear P [T.sl_api_Pair] t31 h10) fun _ h11 =>
K0 .ret [(6, t26)] h11) K0)

theorem s_slices_Delete_Pair_eq (M : CombL) (C : CallF) (LP : LoopH) (a0 : Value) (a1 : Value) (a2 : Value) (H : AHeap) : dBodyL M Try.prog hints C LP F.slices_Delete_Pair [a0, a1, a2] H = s_slices_Delete_Pair M.b.g M.c M.s Try.prog C a0 a1 a2 H (endK Try.prog [.tmp 6]) := by kernel_rfl

/-! (*ticketline.model.Model).Min -/

noncomputable def s_model_Model_Min (mg : GT) (mc : CT) (ms : ST) (P : Program) (C : CallF) (a0 : Value) (H : AHeap) (K0 : K) : Res :=
bothK (newv T.api_Pair (.agg #[(.string (mk [])), (.string (mk []))]) H) fun t2 h1 =>
enterK C F.model_Model_end [a0, (.int .i64 0)] h1 fun t5 h2 =>
bareK (xextract t5 0) h2 fun t6 h3 =>
bareK (xextract t5 1) h3 fun t7 h4 =>
quietK (stN 2 h4 t2 t6) fun _ h5 =>
K0 .ret [(2, t2), (3, t7)] h5

theorem s_model_Model_Min_eq (M : CombL) (C : CallF) (LP : LoopH) (a0 : Value) (H : AHeap) : dBodyL M Try.prog hints C LP F.model_Model_Min [a0] H = s_model_Model_Min M.b.g M.c M.s Try.prog C a0 H (endK Try.prog [.cell 2 T.api_Pair, .tmp 3]) := by kernel_rfl

/-! (*ticketline.model.Model).Max -/

noncomputable def s_model_Model_Max (mg : GT) (mc : CT) (ms : ST) (P : Program) (C : CallF) (a0 : Value) (H : AHeap) (K0 : K) : Res :=
bothK (newv T.api_Pair (.agg #[(.string (mk [])), (.string (mk []))]) H) fun t2 h1 =>
enterK C F.model_Model_Len [a0] h1 fun t6 h2 =>
bareK (xbin P .sub T.int (.tmp 6) (.const (.int .i64 1)) t6 (.int .i64 1)) h2 fun t7 h3 =>
enterK C F.model_Model_end [a0, t7] h3 fun t8 h4 =>
bareK (xextract t8 0) h4 fun t9 h5 =>
bareK (xextract t8 1) h5 fun t10 h6 =>
quietK (stN 2 h6 t2 t9) fun _ h7 =>
K0 .ret [(2, t2), (3, t10)] h7

theorem s_model_Model_Max_eq (M : CombL) (C : CallF) (LP : LoopH) (a0 : Value) (H : AHeap) : dBodyL M Try.prog hints C LP F.model_Model_Max [a0] H = s_model_Model_Max M.b.g M.c M.s Try.prog C a0 H (endK Try.prog [.cell 2 T.api_Pair, .tmp 3]) := by kernel_rfl

/-! slices.Insert[[]ticketline.api.Pair,ticketline.api.Pair] -/

noncomputable def s_slices_Insert_Pair (mg : GT) (mc : CT) (ms : ST) (P : Program) (C : CallF) (a0 : Value) (a1 : Value) (a2 : Value) (H : AHeap) (K0 : K) : Res :=
bareK (slS T.api_Pair 2 a0 (some a1) none none H) H fun t12 h1 =>
bareK (lenS a2) h1 fun t14 h2 =>
bareK (xbin P .eql T.int (.tmp 15) (.const (.int .i64 0)) t14 (.int .i64 0)) h2 fun t16 h3 =>
mc t16 (fun k1 => k1 .ret [(6, a0)] h3) (fun k1 =>
k1 .normal [(0, a0), (1, a1), (2, a2), (7, t14)] h3) (seqK (fun tT h4 =>
bareK (lenS (get tT 0)) h4 fun t19 h5 =>
bareK (xbin P .eql T.int (.tmp 20) (.tmp 21) (get tT 1) t19) h5 fun t22 h6 =>
mc t22 (fun k2 => bothK (app T.api_Pair 2 32 (get tT 0) (srcS 2 (get tT 2) h6) h6) fun t25 h7 =>
k2 .ret [(6, t25)] h7) (fun k2 =>
k2 .normal [(0, (get tT 0)), (1, (get tT 1)), (2, (get tT 2)), (7, (get tT 7)), (8, t19)] h6) (seqK (fun tT_1 h8 =>
bareK (xbin P .add T.int (.tmp 26) (.tmp 27) (get tT_1 8) (get tT_1 7)) h8 fun t28 h9 =>
nextK C h9 (xbuiltin P .cap [T.sl_api_Pair] [(get tT_1 0)] h9) fun t30 h10 =>
bareK (xbin P .gtr T.int (.tmp 28) (.tmp 30) t28 t30) h10 fun t31 h11 =>
mc t31 (fun k3 => bareK (slS T.api_Pair 2 (get tT_1 0) none (some (get tT_1 1)) none h11) h11 fun t34 h12 =>
bareK (xbin P .add T.int (.tmp 35) (.tmp 36) (get tT_1 8) (get tT_1 7)) h12 fun t37 h13 =>
bareK (xbin P .sub T.int (.tmp 37) (.tmp 38) t37 (get tT_1 1)) h13 fun t39 h14 =>
bothK (app T.api_Pair 2 32 t34 (srcZ [(.string (mk [])), (.string (mk []))] 32 t39) h14) fun t40 h15 =>
bareK (slS T.api_Pair 2 t40 (some (get tT_1 1)) none none h15) h15 fun t43 h16 =>
bothK (cpy 2 t43 (get tT_1 2) h16) fun t45 h17 =>
bareK (xbin P .add T.int (.tmp 47) (.tmp 48) (get tT_1 1) (get tT_1 7)) h17 fun t49 h18 =>
bareK (slS T.api_Pair 2 t40 (some t49) none none h18) h18 fun t50 h19 =>
bareK (slS T.api_Pair 2 (get tT_1 0) (some (get tT_1 1)) none none h19) h19 fun t53 h20 =>
bothK (cpy 2 t50 t53 h20) fun t54 h21 =>
checkK true <|
k3 .ret [(6, t40)] h21) (fun k3 =>
k3 .normal [(0, (get tT_1 0)), (1, (get tT_1 1)), (2, (get tT_1 2)), (7, (get tT_1 7)), (8, (get tT_1 8))] h11) (seqK (fun tT_2 h22 =>
bareK (xbin P .add T.int (.tmp 57) (.tmp 58) (get tT_2 8) (get tT_2 7)) h22 fun t59 h23 =>
bareK (slS T.api_Pair 2 (get tT_2 0) none (some t59) none h23) h23 fun t60 h24 =>
bareK (xbin P .add T.int (.tmp 63) (.tmp 64) (get tT_2 1) (get tT_2 7)) h24 fun t65 h25 =>
bareK (slS T.api_Pair 2 t60 (some t65) none none h25) h25 fun t66 h26 =>
bareK (xext P Try.f60 [(get tT_2 2), t66] h26) h26 fun t67 h27 =>
bareK (xun P .not t67) h27 fun t68 h28 =>
mc t68 (fun k4 => bareK (xbin P .add T.int (.tmp 70) (.tmp 71) (get tT_2 1) (get tT_2 7)) h28 fun t72 h29 =>
bareK (slS T.api_Pair 2 t60 (some t72) none none h29) h29 fun t73 h30 =>
bareK (slS T.api_Pair 2 t60 (some (get tT_2 1)) none none h30) h30 fun t76 h31 =>
bothK (cpy 2 t73 t76 h31) fun t77 h32 =>
checkK true <|
bareK (slS T.api_Pair 2 t60 (some (get tT_2 1)) none none h32) h32 fun t80 h33 =>
bothK (cpy 2 t80 (get tT_2 2) h33) fun t82 h34 =>
k4 .ret [(6, t60)] h34) (fun k4 =>
k4 .normal [(0, t60), (1, (get tT_2 1)), (2, (get tT_2 2)), (7, (get tT_2 7)), (8, (get tT_2 8))] h28) (seqK (fun tT_3 h35 =>
bareK (slS T.api_Pair 2 (get tT_3 0) (some (get tT_3 8)) none none h35) h35 fun t86 h36 =>
bothK (cpy 2 t86 (get tT_3 2) h36) fun t88 h37 =>
bareK (slS T.api_Pair 2 (get tT_3 0) (some (get tT_3 1)) none none h37) h37 fun t91 h38 =>
enterK C F.slices_rotateRight_Pair [t91, (get tT_3 7)] h38 fun t93 h39 =>
K0 .ret [(6, (get tT_3 0))] h39) K0)) K0)) K0)) K0)

theorem s_slices_Insert_Pair_eq (M : CombL) (C : CallF) (LP : LoopH) (a0 : Value) (a1 : Value) (a2 : Value) (H : AHeap) : dBodyL M Try.prog hints C LP F.slices_Insert_Pair [a0, a1, a2] H = s_slices_Insert_Pair M.b.g M.c M.s Try.prog C a0 a1 a2 H (endK Try.prog [.tmp 6]) := by kernel_rfl

/-! ticketline.ticketlineref24.Key -/

noncomputable def s_ref24_Key (mg : GT) (mc : CT) (ms : ST) (P : Program) (C : CallF) (a0 : Value) (H : AHeap) (K0 : K) : Res :=
bareK (xbin P .eql T.string (.tmp 3) (.const (.string (mk []))) a0 (.string (mk []))) H fun t4 h1 =>
mc t4 (fun k1 => k1 .ret [(2, (.int .i64 2))] h1) (fun k1 =>
k1 .normal [(0, a0)] h1) (seqK (fun tT h2 =>
bareK (lenT (get tT 0)) h2 fun t6 h3 =>
bareK (xbin P .gtr T.int (.tmp 6) (.const (.int .i64 24)) t6 (.int .i64 24)) h3 fun t7 h4 =>
mc t7 (fun k2 => k2 .ret [(2, (.int .i64 5))] h4) (fun k2 =>
k2 .normal [] h4) (seqK (fun tT_1 h5 =>
K0 .ret [(2, (.int .i64 0))] h5) K0)) K0)

theorem s_ref24_Key_eq (M : CombL) (C : CallF) (LP : LoopH) (a0 : Value) (H : AHeap) : dBodyL M Try.prog hints C LP F.ref24_Key [a0] H = s_ref24_Key M.b.g M.c M.s Try.prog C a0 H (endK Try.prog [.tmp 2]) := by kernel_rfl

/-! slices.ContainsFunc[[]string,string] -/

noncomputable def s_slices_ContainsFunc_string (mg : GT) (mc : CT) (ms : ST) (P : Program) (C : CallF) (a0 : Value) (a1 : Value) (H : AHeap) (K0 : K) : Res :=
enterK C F.slices_IndexFunc_string [a0, a1] H fun t7 h1 =>
bareK (xbin P .geq T.int (.tmp 7) (.const (.int .i64 0)) t7 (.int .i64 0)) h1 fun t8 h2 =>
K0 .ret [(4, t8)] h2

theorem s_slices_ContainsFunc_string_eq (M : CombL) (C : CallF) (LP : LoopH) (a0 : Value) (a1 : Value) (H : AHeap) : dBodyL M Try.prog hints C LP F.slices_ContainsFunc_string [a0, a1] H = s_slices_ContainsFunc_string M.b.g M.c M.s Try.prog C a0 a1 H (endK Try.prog [.tmp 4]) := by kernel_rfl

/-! ticketline.model.check$1 -/

noncomputable def s_model_check_1 (mg : GT) (mc : CT) (ms : ST) (P : Program) (C : CallF) (a0 : Value) (H : AHeap) (K0 : K) : Res :=
bareK (lenT a0) H fun t4 h1 =>
bareK (xbin P .gtr T.int (.tmp 4) (.const (.int .i64 40)) t4 (.int .i64 40)) h1 fun t5 h2 =>
K0 .ret [(2, t5)] h2

theorem s_model_check_1_eq (M : CombL) (C : CallF) (LP : LoopH) (a0 : Value) (H : AHeap) : dBodyL M Try.prog hints C LP F.model_check_1 [a0] H = s_model_check_1 M.b.g M.c M.s Try.prog C a0 H (endK Try.prog [.tmp 2]) := by kernel_rfl

/-! strings.Compare -/

noncomputable def s_strings_Compare (mg : GT) (mc : CT) (ms : ST) (P : Program) (C : CallF) (a0 : Value) (a1 : Value) (H : AHeap) (K0 : K) : Res :=
enterK C F.internal_bytealg_CompareString [a0, a1] H fun t7 h1 =>
K0 .ret [(4, t7)] h1

theorem s_strings_Compare_eq (M : CombL) (C : CallF) (LP : LoopH) (a0 : Value) (a1 : Value) (H : AHeap) : dBodyL M Try.prog hints C LP F.strings_Compare [a0, a1] H = s_strings_Compare M.b.g M.c M.s Try.prog C a0 a1 H (endK Try.prog [.tmp 4]) := by kernel_rfl

/-! slices.BinarySearchFunc[[]ticketline.api.Pair,ticketline.api.Pair,string] -/

noncomputable def s_slices_BinarySearchFunc_string (mg : GT) (mc : CT) (ms : ST) (P : Program) (C : CallF) (L0 : Value → Value → Value → Value → Value → Value → AHeap → K → Res) (a0 : Value) (a1 : Value) (a2 : Value) (H : AHeap) (K0 : K) : Res :=
bareK (lenS a0) H fun t13 h1 =>
ms (fun k1 =>
L0 a0 a1 a2 t13 (.int .i64 0) t13 h1 (blkK [0, 1, 2, 8, 9] 0 k1)) (seqK (fun tT h2 =>
bareK (xbin P .lss T.int (.tmp 36) (.tmp 37) (get tT 9) (get tT 8)) h2 fun t38 h3 =>
mg t38 true (fun o2 => o2 (get tT 2) h3) h3 fun t40 h4 =>
mg t38 true (fun o3 => o3 (get tT 0) h4) h4 fun t41 h5 =>
mg t38 true (fun o4 => o4 (get tT 9) h5) h5 fun t42 h6 =>
mg t38 true (fun o5 => bareK (ixS 2 t41 t42) h6 o5) h6 fun t43 h7 =>
mg t38 true (fun o6 => bareK (ldN 2 h7 t43) h7 o6) h7 fun t44 h8 =>
mg t38 true (fun o7 => o7 (get tT 1) h8) h8 fun t45 h9 =>
mg t38 true (fun o8 => callK P C t40 [t44, t45] h9 o8) h9 fun t46 h10 =>
mg t38 true (fun o9 => bareK (xbin P .eql T.int (.tmp 46) (.const (.int .i64 0)) t46 (.int .i64 0)) h10 o9) h10 fun t47 h11 =>
pickK t38 t47 (.bool false) fun t48 =>
K0 .ret [(6, (get tT 9)), (7, t48)] h11) K0)

noncomputable def s_slices_BinarySearchFunc_string_b0 (mg : GT) (mc : CT) (ms : ST) (P : Program) (C : CallF) (L0 : Value → Value → Value → Value → Value → Value → AHeap → K → Res) (v0 : Value) (v1 : Value) (v2 : Value) (v8 : Value) (v9 : Value) (v10 : Value) (H : AHeap) (k : K) : Res :=
bareK (xbin P .lss T.int (.tmp 15) (.tmp 16) v9 v10) H fun t17 h2 =>
mc t17 (fun k2 => k2 .normal [(0, v0), (1, v1), (2, v2), (8, v8), (9, v9), (10, v10)] h2) (fun k2 =>
k2 (.exit 0) [(17, t17), (16, v10), (15, v9), (0, v0), (1, v1), (2, v2), (8, v8), (9, v9), (10, v10)] h2) (seqK (fun tT h3 =>
ms (fun k3 =>
bareK (xbin P .add T.int (.tmp 18) (.tmp 19) (get tT 9) (get tT 10)) h3 fun t20 h4 =>
bothK (xconv P T.int T.uint t20 h4) fun t21 h5 =>
bareK (xbin P .shr T.uint (.tmp 21) (.const (.int .u64 1)) t21 (.int .u64 1)) h5 fun t22 h6 =>
bothK (xconv P T.uint T.int t22 h6) fun t23 h7 =>
bareK (ixS 2 (get tT 0) t23) h7 fun t27 h8 =>
bareK (ldN 2 h8 t27) h8 fun t28 h9 =>
callK P C (get tT 2) [t28, (get tT 1)] h9 fun t30 h10 =>
bareK (xbin P .lss T.int (.tmp 30) (.const (.int .i64 0)) t30 (.int .i64 0)) h10 fun t31 h11 =>
mc t31 (fun k4 => bareK (xbin P .add T.int (.tmp 32) (.const (.int .i64 1)) t23 (.int .i64 1)) h11 fun t33 h12 =>
k4 .normal [(0, (get tT 0)), (1, (get tT 1)), (2, (get tT 2)), (8, (get tT 8)), (9, t33), (10, (get tT 10))] h12) (fun k4 =>
k4 .normal [(0, (get tT 0)), (1, (get tT 1)), (2, (get tT 2)), (8, (get tT 8)), (9, (get tT 9)), (10, t23)] h11) (blkK [0, 1, 2, 8, 9, 10] 1 k3)) (afterK [0, 1, 2, 8, 9, 10] k)) (afterK [0, 1, 2, 8, 9, 10] k))

theorem s_slices_BinarySearchFunc_string_eq (M : CombL) (C : CallF) (LP : LoopH) (a0 : Value) (a1 : Value) (a2 : Value) (H : AHeap) : dBodyL M Try.prog hints C LP F.slices_BinarySearchFunc_string [a0, a1, a2] H = s_slices_BinarySearchFunc_string M.b.g M.c M.s Try.prog C (fun v0 v1 v2 v8 v9 v10 H k => loopL M Try.prog hints C LP F.slices_BinarySearchFunc_string 0 [(0, v0), (1, v1), (2, v2), (8, v8), (9, v9), (10, v10)] H k) a0 a1 a2 H (endK Try.prog [.tmp 6, .tmp 7]) := by kernel_rfl

theorem s_slices_BinarySearchFunc_string_b0_eq (M : CombL) (C : CallF) (LP : LoopH) (v0 : Value) (v1 : Value) (v2 : Value) (v8 : Value) (v9 : Value) (v10 : Value) (H : AHeap) (k : K) : bodyL M Try.prog hints C LP F.slices_BinarySearchFunc_string 0 [(0, v0), (1, v1), (2, v2), (8, v8), (9, v9), (10, v10)] H (afterK [0, 1, 2, 8, 9, 10] k) = s_slices_BinarySearchFunc_string_b0 M.b.g M.c M.s Try.prog C (fun v0 v1 v2 v8 v9 v10 H k => loopL M Try.prog hints C LP F.slices_BinarySearchFunc_string 0 [(0, v0), (1, v1), (2, v2), (8, v8), (9, v9), (10, v10)] H k) v0 v1 v2 v8 v9 v10 H k := by kernel_rfl

/-! (*ticketline.model.Model).place$1 -/

noncomputable def s_model_Model_place_1 (mg : GT) (mc : CT) (ms : ST) (P : Program) (C : CallF) (a0 : Value) (a1 : Value) (H : AHeap) (K0 : K) : Res :=
bothK (newv T.api_Pair a0 H) fun t2 h1 =>
bareK (fad 0 t2) h1 fun t5 h2 =>
bareK (ld1 h2 t5) h2 fun t6 h3 =>
enterK C F.keys_Compare [t6, a1] h3 fun t8 h4 =>
K0 .ret [(4, t8)] h4

theorem s_model_Model_place_1_eq (M : CombL) (C : CallF) (LP : LoopH) (a0 : Value) (a1 : Value) (H : AHeap) : dBodyL M Try.prog hints C LP F.model_Model_place_1 [a0, a1] H = s_model_Model_place_1 M.b.g M.c M.s Try.prog C a0 a1 H (endK Try.prog [.tmp 4]) := by kernel_rfl

/-! (*ticketline.model.Model).end -/

noncomputable def s_model_Model_end (mg : GT) (mc : CT) (ms : ST) (P : Program) (C : CallF) (a0 : Value) (a1 : Value) (H : AHeap) (K0 : K) : Res :=
bothK (newv T.api_Pair (.agg #[(.string (mk [])), (.string (mk []))]) H) fun t4 h1 =>
ms (fun k1 =>
bareK (xbin P .eql T.p_model_Model (.tmp 7) (.const (.pointer none)) a0 (.pointer none)) h1 fun t8 h2 =>
mc t8 (fun k2 => bareK (bldS #[(.string (mk [])), (.string (mk []))] [(0, 1), (1, 1)] []) h2 fun t9 h3 =>
quietK (stN 2 h3 t4 t9) fun _ h4 =>
k2 .ret [(4, t4), (5, (.int .i64 1))] h4) (fun k2 =>
bareK (xnilCheck a0) h2 fun t12 h5 =>
bareK (fad 0 t12) h5 fun t13 h6 =>
bareK (ld1 h6 t13) h6 fun t14 h7 =>
bareK (lenS t14) h7 fun t15 h8 =>
bareK (xbin P .eql T.int (.tmp 15) (.const (.int .i64 0)) t15 (.int .i64 0)) h8 fun t16 h9 =>
mc t16 (fun k3 => bareK (bldS #[(.string (mk [])), (.string (mk []))] [(0, 1), (1, 1)] []) h9 fun t17 h10 =>
quietK (stN 2 h10 t4 t17) fun _ h11 =>
k3 .ret [(4, t4), (5, (.int .i64 9))] h11) (fun k3 =>
k3 .normal [(0, a0), (1, a1), (4, t4)] h9) (afterK [0, 1, 4] k2)) (blkK [0, 1, 4] 0 k1)) (seqK (fun tT h12 =>
bareK (xnilCheck (get tT 0)) h12 fun t19 h13 =>
bareK (fad 0 t19) h13 fun t20 h14 =>
bareK (ld1 h14 t20) h14 fun t21 h15 =>
bareK (ixS 2 t21 (get tT 1)) h15 fun t23 h16 =>
bareK (ldN 2 h16 t23) h16 fun t24 h17 =>
quietK (stN 2 h17 (get tT 4) t24) fun _ h18 =>
K0 .ret [(4, (get tT 4)), (5, (.int .i64 0))] h18) K0)

theorem s_model_Model_end_eq (M : CombL) (C : CallF) (LP : LoopH) (a0 : Value) (a1 : Value) (H : AHeap) : dBodyL M Try.prog hints C LP F.model_Model_end [a0, a1] H = s_model_Model_end M.b.g M.c M.s Try.prog C a0 a1 H (endK Try.prog [.cell 4 T.api_Pair, .tmp 5]) := by kernel_rfl

/-! slices.rotateRight[ticketline.api.Pair] -/

noncomputable def s_slices_rotateRight_Pair (mg : GT) (mc : CT) (ms : ST) (P : Program) (C : CallF) (a0 : Value) (a1 : Value) (H : AHeap) (K0 : K) : Res :=
bareK (lenS a0) H fun t6 h1 =>
bareK (xbin P .sub T.int (.tmp 6) (.tmp 7) t6 a1) h1 fun t8 h2 =>
enterK C F.slices_rotateLeft_Pair [a0, t8] h2 fun t9 h3 =>
K0 .normal [(9, t9), (8, t8), (7, a1), (6, t6), (5, a0), (4, a0), (0, a0), (1, a1)] h3

theorem s_slices_rotateRight_Pair_eq (M : CombL) (C : CallF) (LP : LoopH) (a0 : Value) (a1 : Value) (H : AHeap) : dBodyL M Try.prog hints C LP F.slices_rotateRight_Pair [a0, a1] H = s_slices_rotateRight_Pair M.b.g M.c M.s Try.prog C a0 a1 H (endK Try.prog []) := by kernel_rfl

/-! slices.IndexFunc[[]string,string] -/

noncomputable def s_slices_IndexFunc_string (mg : GT) (mc : CT) (ms : ST) (P : Program) (C : CallF) (L0 : Value → Value → Value → Value → AHeap → K → Res) (a0 : Value) (a1 : Value) (H : AHeap) (K0 : K) : Res :=
bareK (lenS a0) H fun t7 h1 =>
ms (fun k1 =>
L0 a0 a1 t7 (.int .i64 0) h1 (blkK [] 0 k1)) (seqK (fun tT h2 =>
K0 .ret [(4, (.int .i64 (-1)))] h2) K0)

noncomputable def s_slices_IndexFunc_string_b0 (mg : GT) (mc : CT) (ms : ST) (P : Program) (C : CallF) (L0 : Value → Value → Value → Value → AHeap → K → Res) (v0 : Value) (v1 : Value) (v7 : Value) (v8 : Value) (H : AHeap) (k : K) : Res :=
bareK (xbin P .lss T.int (.tmp 8) (.tmp 7) v8 v7) H fun t9 h2 =>
mc t9 (fun k2 => k2 .normal [(0, v0), (1, v1), (7, v7), (8, v8)] h2) (fun k2 =>
k2 (.exit 0) [(9, t9), (0, v0), (1, v1), (7, v7), (8, v8)] h2) (seqK (fun tT h3 =>
ms (fun k3 =>
bareK (ixS 1 (get tT 0) (get tT 8)) h3 fun t14 h4 =>
bareK (ld1 h4 t14) h4 fun t15 h5 =>
callK P C (get tT 1) [t15] h5 fun t16 h6 =>
mc t16 (fun k4 => k4 .ret [(4, (get tT 8))] h6) (fun k4 =>
k4 .normal [(0, (get tT 0)), (1, (get tT 1)), (7, (get tT 7)), (8, (get tT 8))] h6) (blkK [0, 1, 7, 8] 1 k3)) (seqK (fun tT_1 h7 =>
bareK (xbin P .add T.int (.tmp 8) (.const (.int .i64 1)) (get tT_1 8) (.int .i64 1)) h7 fun t18 h8 =>
k .normal [(0, (get tT_1 0)), (1, (get tT_1 1)), (7, (get tT_1 7)), (8, t18)] h8) (afterK [0, 1, 7, 8] k))) (afterK [0, 1, 7, 8] k))

theorem s_slices_IndexFunc_string_eq (M : CombL) (C : CallF) (LP : LoopH) (a0 : Value) (a1 : Value) (H : AHeap) : dBodyL M Try.prog hints C LP F.slices_IndexFunc_string [a0, a1] H = s_slices_IndexFunc_string M.b.g M.c M.s Try.prog C (fun v0 v1 v7 v8 H k => loopL M Try.prog hints C LP F.slices_IndexFunc_string 0 [(0, v0), (1, v1), (7, v7), (8, v8)] H k) a0 a1 H (endK Try.prog [.tmp 4]) := by kernel_rfl

theorem s_slices_IndexFunc_string_b0_eq (M : CombL) (C : CallF) (LP : LoopH) (v0 : Value) (v1 : Value) (v7 : Value) (v8 : Value) (H : AHeap) (k : K) : bodyL M Try.prog hints C LP F.slices_IndexFunc_string 0 [(0, v0), (1, v1), (7, v7), (8, v8)] H (afterK [0, 1, 7, 8] k) = s_slices_IndexFunc_string_b0 M.b.g M.c M.s Try.prog C (fun v0 v1 v7 v8 H k => loopL M Try.prog hints C LP F.slices_IndexFunc_string 0 [(0, v0), (1, v1), (7, v7), (8, v8)] H k) v0 v1 v7 v8 H k := by kernel_rfl

/-! internal.bytealg.CompareString -/

noncomputable def s_internal_bytealg_CompareString (mg : GT) (mc : CT) (ms : ST) (P : Program) (C : CallF) (a0 : Value) (a1 : Value) (H : AHeap) (K0 : K) : Res :=
bareK (xext P Try.f65 [a0, a1] H) H fun t7 h1 =>
K0 .ret [(4, t7)] h1

theorem s_internal_bytealg_CompareString_eq (M : CombL) (C : CallF) (LP : LoopH) (a0 : Value) (a1 : Value) (H : AHeap) : dBodyL M Try.prog hints C LP F.internal_bytealg_CompareString [a0, a1] H = s_internal_bytealg_CompareString M.b.g M.c M.s Try.prog C a0 a1 H (endK Try.prog [.tmp 4]) := by kernel_rfl

/-! slices.rotateLeft[ticketline.api.Pair] -/

noncomputable def s_slices_rotateLeft_Pair (mg : GT) (mc : CT) (ms : ST) (P : Program) (C : CallF) (a0 : Value) (a1 : Value) (H : AHeap) (K0 : K) : Res :=
bareK (slS T.api_Pair 2 a0 none (some a1) none H) H fun t6 h1 =>
enterK C F.slices_Reverse_Pair [t6] h1 fun t7 h2 =>
bareK (slS T.api_Pair 2 a0 (some a1) none none h2) h2 fun t10 h3 =>
enterK C F.slices_Reverse_Pair [t10] h3 fun t11 h4 =>
enterK C F.slices_Reverse_Pair [a0] h4 fun t13 h5 =>
K0 .normal [(13, t13), (12, a0), (11, t11), (10, t10), (9, a1), (8, a0), (7, t7), (6, t6), (5, a1), (4, a0), (0, a0), (1, a1)] h5

theorem s_slices_rotateLeft_Pair_eq (M : CombL) (C : CallF) (LP : LoopH) (a0 : Value) (a1 : Value) (H : AHeap) : dBodyL M Try.prog hints C LP F.slices_rotateLeft_Pair [a0, a1] H = s_slices_rotateLeft_Pair M.b.g M.c M.s Try.prog C a0 a1 H (endK Try.prog []) := by kernel_rfl

/-! slices.Reverse[[]ticketline.api.Pair,ticketline.api.Pair] -/

noncomputable def s_slices_Reverse_Pair (mg : GT) (mc : CT) (ms : ST) (P : Program) (C : CallF) (L0 : Value → Value → Value → AHeap → K → Res) (a0 : Value) (H : AHeap) (K0 : K) : Res :=
bareK (lenS a0) H fun t5 h1 =>
bareK (xbin P .sub T.int (.tmp 5) (.const (.int .i64 1)) t5 (.int .i64 1)) h1 fun t6 h2 =>
ms (fun k1 =>
L0 a0 (.int .i64 0) t6 h2 (blkK [] 0 k1)) K0

noncomputable def s_slices_Reverse_Pair_b0 (mg : GT) (mc : CT) (ms : ST) (P : Program) (C : CallF) (L0 : Value → Value → Value → AHeap → K → Res) (v0 : Value) (v2 : Value) (v3 : Value) (H : AHeap) (k : K) : Res :=
bareK (xbin P .lss T.int (.tmp 7) (.tmp 8) v2 v3) H fun t9 h3 =>
mc t9 (fun k2 => k2 .normal [(0, v0), (2, v2), (3, v3)] h3) (fun k2 =>
k2 (.exit 0) [(9, t9), (8, v3), (7, v2), (0, v0), (2, v2), (3, v3)] h3) (seqK (fun tT h4 =>
ms (fun k3 =>
bareK (ixS 2 (get tT 0) (get tT 3)) h4 fun t20 h5 =>
bareK (ldN 2 h5 t20) h5 fun t21 h6 =>
bareK (ixS 2 (get tT 0) (get tT 2)) h6 fun t24 h7 =>
bareK (ldN 2 h7 t24) h7 fun t25 h8 =>
bareK (ixS 2 (get tT 0) (get tT 2)) h8 fun t26 h9 =>
quietK (stN 2 h9 t26 t21) fun _ h10 =>
bareK (ixS 2 (get tT 0) (get tT 3)) h10 fun t27 h11 =>
quietK (stN 2 h11 t27 t25) fun _ h12 =>
checkK (okV (some true) none h9 h10 h4 h4 && (okV (some true) none h9 h10 h4 h4 && true)) <|
k3 .normal [(0, (get tT 0)), (2, (get tT 2)), (3, (get tT 3))] h12) (seqK (fun tT_1 h13 =>
bareK (xbin P .add T.int (.tmp 10) (.const (.int .i64 1)) (get tT_1 2) (.int .i64 1)) h13 fun t11 h14 =>
bareK (xbin P .sub T.int (.tmp 12) (.const (.int .i64 1)) (get tT_1 3) (.int .i64 1)) h14 fun t13 h15 =>
k .normal [(0, (get tT_1 0)), (2, t11), (3, t13)] h15) (afterK [0, 2, 3] k))) (afterK [0, 2, 3] k))

theorem s_slices_Reverse_Pair_eq (M : CombL) (C : CallF) (LP : LoopH) (a0 : Value) (H : AHeap) : dBodyL M Try.prog hints C LP F.slices_Reverse_Pair [a0] H = s_slices_Reverse_Pair M.b.g M.c M.s Try.prog C (fun v0 v2 v3 H k => loopL M Try.prog hints C LP F.slices_Reverse_Pair 0 [(0, v0), (2, v2), (3, v3)] H k) a0 H (endK Try.prog []) := by kernel_rfl

theorem s_slices_Reverse_Pair_b0_eq (M : CombL) (C : CallF) (LP : LoopH) (v0 : Value) (v2 : Value) (v3 : Value) (H : AHeap) (k : K) : bodyL M Try.prog hints C LP F.slices_Reverse_Pair 0 [(0, v0), (2, v2), (3, v3)] H (afterK [0, 2, 3] k) = s_slices_Reverse_Pair_b0 M.b.g M.c M.s Try.prog C (fun v0 v2 v3 H k => loopL M Try.prog hints C LP F.slices_Reverse_Pair 0 [(0, v0), (2, v2), (3, v3)] H k) v0 v2 v3 H k := by kernel_rfl

end Go.Proofs.Ytlagijfkkpbbnaa
