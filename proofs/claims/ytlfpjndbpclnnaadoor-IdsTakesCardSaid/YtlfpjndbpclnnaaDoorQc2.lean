/-
  1 texts in one (merge.py): Sh.
  Conditions: none. By an AI agent.
-/
import Derived.Test.YtlfpjndbpclnnaaDoorQc1
import Derived.Test.YtlfpjndbpclnnaaDoorChecked
import Derived.KernelRfl

/-
  The seat's functions as terms over the engine's combinators (a program of ours printed it).
  Conditions: none. By an AI agent.
-/
set_option linter.unusedVariables false
namespace Go.Proofs.YtlfpjndbpclnnaaDoor
open Go Eng

/-! (*ticketline.model.Model).Put -/

noncomputable def s_model_Model_Put (mg : GT) (mc : CT) (ms : ST) (P : Program) (C : CallF) (a0 : Value) (a1 : Value) (a2 : Value) (H : AHeap) (K0 : K) : Res :=
bothK (bldL T.string [(.string (mk []))] 1 [(0, a2)] H) fun t14 h1 =>
enterK C F.model_Model_at [a0, a1, t14] h1 fun t15 h2 =>
bareK (xextract t15 0) h2 fun t16 h3 =>
bareK (xextract t15 1) h3 fun t17 h4 =>
bareK (xextract t15 2) h4 fun t18 h5 =>
bareK (xbin P .neq T.api_Errno (.tmp 19) (.const (.int .i64 0)) t18 (.int .i64 0)) h5 fun t20 h6 =>
mc t20 (fun k1 => k1 .ret [(6, t18)] h6) (fun k1 =>
k1 .normal [(0, a0), (1, a1), (2, a2), (7, t16), (8, t17)] h6) (seqK (fun tT h7 =>
bareK (bldS #[(.string (mk [])), (.string (mk []))] [(0, 1), (1, 1)] [(0, (get tT 1)), (1, (get tT 2))]) h7 fun t27 h8 =>
enterK C F.model_Model_set [(get tT 0), (get tT 7), (get tT 8), t27] h8 fun t28 h9 =>
K0 .ret [(6, t28)] h9) K0)

theorem s_model_Model_Put_eq (M : CombL) (C : CallF) (LP : LoopH) (a0 : Value) (a1 : Value) (a2 : Value) (H : AHeap) : dBodyL M Tryd.prog hints C LP F.model_Model_Put [a0, a1, a2] H = s_model_Model_Put M.b.g M.c M.s Tryd.prog C a0 a1 a2 H (endK Tryd.prog [.tmp 6]) := by kernel_rfl

/-! ticketline.ticketlinelaw47.next -/

noncomputable def s_law_next (mg : GT) (mc : CT) (ms : ST) (P : Program) (C : CallF) (a0 : Value) (a1 : Value) (H : AHeap) (K0 : K) : Res :=
ms (fun k1 =>
bareK (lenT a1) H fun t11 h1 =>
bareK (xbin P .eql T.int (.tmp 11) (.const (.int .i64 0)) t11 (.int .i64 0)) h1 fun t12 h2 =>
mc t12 (fun k2 => k2 .ret [(4, (.int .i64 0)), (5, (.int .i64 2))] h2) (fun k2 =>
bareK (lenT a1) h2 fun t15 h3 =>
bareK (xbin P .gtr T.int (.tmp 15) (.const (.int .i64 24)) t15 (.int .i64 24)) h3 fun t16 h4 =>
mc t16 (fun k3 => k3 .ret [(4, (.int .i64 0)), (5, (.int .i64 5))] h4) (fun k3 =>
k3 .normal [(0, a0), (1, a1)] h4) (afterK [0, 1] k2)) (blkK [0, 1] 0 k1)) (seqK (fun tT h5 =>
enterK C F.model_Model_Get [(get tT 0), (get tT 1)] h5 fun t20 h6 =>
bareK (xextract t20 0) h6 fun t21 h7 =>
bareK (xextract t20 1) h7 fun t22 h8 =>
bareK (xbin P .neq T.api_Errno (.tmp 23) (.const (.int .i64 0)) t22 (.int .i64 0)) h8 fun t24 h9 =>
mc t24 (fun k4 => k4 .ret [(4, (.int .i64 1)), (5, (.int .i64 0))] h9) (fun k4 =>
k4 .normal [(6, t21)] h9) (seqK (fun tT_1 h10 =>
enterK C F.law_counter [(get tT_1 6)] h10 fun t26 h11 =>
bareK (xbin P .eql T.int (.tmp 27) (.const (.int .i64 0)) t26 (.int .i64 0)) h11 fun t28 h12 =>
mc t28 (fun k5 => k5 .ret [(4, (.int .i64 0)), (5, (.int .i64 12))] h12) (fun k5 =>
k5 .normal [(8, t26)] h12) (seqK (fun tT_2 h13 =>
K0 .ret [(4, (get tT_2 8)), (5, (.int .i64 0))] h13) K0)) K0)) K0)

theorem s_law_next_eq (M : CombL) (C : CallF) (LP : LoopH) (a0 : Value) (a1 : Value) (H : AHeap) : dBodyL M Tryd.prog hints C LP F.law_next [a0, a1] H = s_law_next M.b.g M.c M.s Tryd.prog C a0 a1 H (endK Tryd.prog [.tmp 4, .tmp 5]) := by kernel_rfl

/-! ticketline.ticketlinelaw47.nexts -/

noncomputable def s_law_nexts (mg : GT) (mc : CT) (ms : ST) (P : Program) (C : CallF) (a0 : Value) (a1 : Value) (a2 : Value) (a3 : Value) (H : AHeap) (K0 : K) : Res :=
enterK C F.ids_Next [a0, a1] H fun t14 h1 =>
bareK (xextract t14 0) h1 fun t15 h2 =>
bareK (xextract t14 1) h2 fun t16 h3 =>
bareK (xbin P .eql T.int (.tmp 17) (.tmp 18) t15 a2) h3 fun t19 h4 =>
mg t19 true (fun o1 => o1 t16 h4) h4 fun t21 h5 =>
mg t19 true (fun o2 => o2 a3 h5) h5 fun t22 h6 =>
mg t19 true (fun o3 => bareK (xbin P .eql T.int (.tmp 21) (.tmp 22) t21 t22) h6 o3) h6 fun t23 h7 =>
pickK t19 t23 (.bool false) fun t24 =>
K0 .ret [(8, t24)] h7

theorem s_law_nexts_eq (M : CombL) (C : CallF) (LP : LoopH) (a0 : Value) (a1 : Value) (a2 : Value) (a3 : Value) (H : AHeap) : dBodyL M Tryd.prog hints C LP F.law_nexts [a0, a1, a2, a3] H = s_law_nexts M.b.g M.c M.s Tryd.prog C a0 a1 a2 a3 H (endK Tryd.prog [.tmp 8]) := by kernel_rfl

/-! ticketline.ticketlinelaw47.takes -/

noncomputable def s_law_takes (mg : GT) (mc : CT) (ms : ST) (P : Program) (C : CallF) (a0 : Value) (a1 : Value) (a2 : Value) (a3 : Value) (a4 : Value) (H : AHeap) (K0 : K) : Res :=
bothK (newv T.api_Block a3 H) fun t8 h1 =>
enterK C F.ids_Take [a0, a1, a2] h1 fun t17 h2 =>
bareK (xextract t17 0) h2 fun t18 h3 =>
bareK (xextract t17 1) h3 fun t19 h4 =>
bothK (newv T.api_Block (.agg #[(.int .i64 0), (.int .i64 0)]) h4) fun t11 h5 =>
quietK (stN 2 h5 t11 t18) fun _ h6 =>
bareK (ldN 2 h6 t11) h6 fun t20 h7 =>
bareK (ldN 2 h7 t8) h7 fun t21 h8 =>
bareK (xbin P .eql T.api_Block (.tmp 20) (.tmp 21) t20 t21) h8 fun t22 h9 =>
mg t22 true (fun o1 => o1 t19 h9) h9 fun t24 h10 =>
mg t22 true (fun o2 => o2 a4 h10) h10 fun t25 h11 =>
mg t22 true (fun o3 => bareK (xbin P .eql T.int (.tmp 24) (.tmp 25) t24 t25) h11 o3) h11 fun t26 h12 =>
pickK t22 t26 (.bool false) fun t27 =>
K0 .ret [(10, t27)] h12

theorem s_law_takes_eq (M : CombL) (C : CallF) (LP : LoopH) (a0 : Value) (a1 : Value) (a2 : Value) (a3 : Value) (a4 : Value) (H : AHeap) : dBodyL M Tryd.prog hints C LP F.law_takes [a0, a1, a2, a3, a4] H = s_law_takes M.b.g M.c M.s Tryd.prog C a0 a1 a2 a3 a4 H (endK Tryd.prog [.tmp 10]) := by kernel_rfl

/-! ticketline.model.Equal -/

noncomputable def s_model_Equal (mg : GT) (mc : CT) (ms : ST) (P : Program) (C : CallF) (a0 : Value) (a1 : Value) (H : AHeap) (K0 : K) : Res :=
bareK (xbin P .eql T.p_model_Model (.tmp 6) (.const (.pointer none)) a0 (.pointer none)) H fun t7 h1 =>
bareK (xbin P .eql T.p_model_Model (.tmp 8) (.const (.pointer none)) a1 (.pointer none)) h1 fun t9 h2 =>
bareK (xbin P .neq T.bool (.tmp 7) (.tmp 9) t7 t9) h2 fun t10 h3 =>
mg t10 false (fun o1 => o1 (.func (.func F.model_Model_Len) #[] #[]) h3) h3 fun t12 h4 =>
mg t10 false (fun o2 => o2 a0 h4) h4 fun t13 h5 =>
mg t10 false (fun o3 => callK P C t12 [t13] h5 o3) h5 fun t14 h6 =>
mg t10 false (fun o4 => o4 (.func (.func F.model_Model_Len) #[] #[]) h6) h6 fun t15 h7 =>
mg t10 false (fun o5 => o5 a1 h7) h7 fun t16 h8 =>
mg t10 false (fun o6 => callK P C t15 [t16] h8 o6) h8 fun t17 h9 =>
mg t10 false (fun o7 => bareK (xbin P .neq T.int (.tmp 14) (.tmp 17) t14 t17) h9 o7) h9 fun t18 h10 =>
pickK t10 (.bool true) t18 fun t19 =>
mc t19 (fun k8 => k8 .ret [(4, (.bool false))] h10) (fun k8 =>
k8 .normal [(0, a0), (1, a1)] h10) (seqK (fun tT h11 =>
enterK C F.model_Model_Pairs [(get tT 0)] h11 fun t21 h12 =>
enterK C F.model_Model_Pairs [(get tT 1)] h12 fun t23 h13 =>
enterK C F.slices_Equal_Pair [t21, t23] h13 fun t24 h14 =>
K0 .ret [(4, t24)] h14) K0)

theorem s_model_Equal_eq (M : CombL) (C : CallF) (LP : LoopH) (a0 : Value) (a1 : Value) (H : AHeap) : dBodyL M Tryd.prog hints C LP F.model_Equal [a0, a1] H = s_model_Equal M.b.g M.c M.s Tryd.prog C a0 a1 H (endK Tryd.prog [.tmp 4]) := by kernel_rfl

/-! ticketline.ticketlinelaw47.take -/

noncomputable def s_law_take (mg : GT) (mc : CT) (ms : ST) (P : Program) (C : CallF) (a0 : Value) (a1 : Value) (a2 : Value) (H : AHeap) (K0 : K) : Res :=
bothK (newv T.api_Block (.agg #[(.int .i64 0), (.int .i64 0)]) H) fun t6 h1 =>
bareK (xbin P .lss T.int (.tmp 10) (.const (.int .i64 1)) a2 (.int .i64 1)) h1 fun t11 h2 =>
mg t11 false (fun o1 => o1 a2 h2) h2 fun t13 h3 =>
mg t11 false (fun o2 => bareK (xbin P .gtr T.int (.tmp 13) (.const (.int .i64 1000)) t13 (.int .i64 1000)) h3 o2) h3 fun t14 h4 =>
pickK t11 (.bool true) t14 fun t15 =>
mc t15 (fun k3 => bareK (bldS #[(.int .i64 0), (.int .i64 0)] [(0, 1), (1, 1)] []) h4 fun t16 h5 =>
quietK (stN 2 h5 t6 t16) fun _ h6 =>
k3 .ret [(6, t6), (7, (.int .i64 2))] h6) (fun k3 =>
k3 .normal [(0, a0), (1, a1), (2, a2), (6, t6)] h4) (seqK (fun tT h7 =>
enterK C F.law_next [(get tT 0), (get tT 1)] h7 fun t20 h8 =>
bareK (xextract t20 0) h8 fun t21 h9 =>
bareK (xextract t20 1) h9 fun t22 h10 =>
ms (fun k4 =>
bareK (xbin P .neq T.int (.tmp 24) (.const (.int .i64 0)) t22 (.int .i64 0)) h10 fun t25 h11 =>
mc t25 (fun k5 => bareK (bldS #[(.int .i64 0), (.int .i64 0)] [(0, 1), (1, 1)] []) h11 fun t26 h12 =>
quietK (stN 2 h12 (get tT 6) t26) fun _ h13 =>
k5 .ret [(6, (get tT 6)), (7, t22)] h13) (fun k5 =>
bareK (xbin P .add T.int (.tmp 29) (.tmp 30) t21 (get tT 2)) h11 fun t31 h14 =>
bareK (xbin P .gtr T.int (.tmp 31) (.const (.int .i64 1099511627776)) t31 (.int .i64 1099511627776)) h14 fun t32 h15 =>
mc t32 (fun k6 => bareK (bldS #[(.int .i64 0), (.int .i64 0)] [(0, 1), (1, 1)] []) h15 fun t33 h16 =>
quietK (stN 2 h16 (get tT 6) t33) fun _ h17 =>
k6 .ret [(6, (get tT 6)), (7, (.int .i64 17))] h17) (fun k6 =>
k6 .normal [(0, (get tT 0)), (1, (get tT 1)), (2, (get tT 2)), (6, (get tT 6)), (8, t21)] h15) (afterK [0, 1, 2, 6, 8] k5)) (blkK [0, 1, 2, 6, 8] 0 k4)) (seqK (fun tT_1 h18 =>
bareK (xbin P .add T.int (.tmp 36) (.tmp 37) (get tT_1 8) (get tT_1 2)) h18 fun t38 h19 =>
enterK C F.law_decimal [t38] h19 fun t39 h20 =>
enterK C F.model_Model_Put [(get tT_1 0), (get tT_1 1), t39] h20 fun t40 h21 =>
bareK (bldS #[(.int .i64 0), (.int .i64 0)] [(0, 1), (1, 1)] [(0, (get tT_1 8)), (1, (get tT_1 2))]) h21 fun t43 h22 =>
quietK (stN 2 h22 (get tT_1 6) t43) fun _ h23 =>
K0 .ret [(6, (get tT_1 6)), (7, (.int .i64 0))] h23) K0)) K0)

theorem s_law_take_eq (M : CombL) (C : CallF) (LP : LoopH) (a0 : Value) (a1 : Value) (a2 : Value) (H : AHeap) : dBodyL M Tryd.prog hints C LP F.law_take [a0, a1, a2] H = s_law_take M.b.g M.c M.s Tryd.prog C a0 a1 a2 H (endK Tryd.prog [.cell 6 T.api_Block, .tmp 7]) := by kernel_rfl

/-! ticketline.ticketlinelaw47.small -/

noncomputable def s_law_small (mg : GT) (mc : CT) (ms : ST) (P : Program) (C : CallF) (L0 : Value → Value → Value → AHeap → K → Res) (a0 : Value) (a1 : Value) (H : AHeap) (K0 : K) : Res :=
ms (fun k1 =>
L0 a0 a1 (.int .i64 0) H (blkK [0, 1] 0 k1)) (seqK (fun tT h1 =>
bareK (lenS (get tT 0)) h1 fun t34 h2 =>
bareK (xbin P .leq T.int (.tmp 34) (.tmp 35) t34 (get tT 1)) h2 fun t36 h3 =>
K0 .ret [(4, t36)] h3) K0)

noncomputable def s_law_small_b0 (mg : GT) (mc : CT) (ms : ST) (P : Program) (C : CallF) (L0 : Value → Value → Value → AHeap → K → Res) (v0 : Value) (v1 : Value) (v5 : Value) (H : AHeap) (k : K) : Res :=
bareK (lenS v0) H fun t8 h1 =>
bareK (xbin P .lss T.int (.tmp 6) (.tmp 8) v5 t8) h1 fun t9 h2 =>
mg t9 true (fun o2 => o2 v5 h2) h2 fun t11 h3 =>
mg t9 true (fun o3 => o3 v1 h3) h3 fun t12 h4 =>
mg t9 true (fun o4 => bareK (xbin P .lss T.int (.tmp 11) (.tmp 12) t11 t12) h4 o4) h4 fun t13 h5 =>
pickK t9 t13 (.bool false) fun t14 =>
mc t14 (fun k5 => k5 .normal [(0, v0), (1, v1), (5, v5)] h5) (fun k5 =>
k5 (.exit 0) [(14, t14), (13, t13), (12, t12), (11, t11), (10, t9), (9, t9), (8, t8), (7, v0), (6, v5), (0, v0), (1, v1), (5, v5)] h5) (seqK (fun tT h6 =>
ms (fun k6 =>
bareK (ixS 5 (get tT 0) (get tT 5)) h6 fun t19 h7 =>
bareK (fad 3 t19) h7 fun t20 h8 =>
bareK (ld1 h8 t20) h8 fun t21 h9 =>
bareK (lenT t21) h9 fun t22 h10 =>
bareK (xbin P .gtr T.int (.tmp 22) (.const (.int .i64 30)) t22 (.int .i64 30)) h10 fun t23 h11 =>
mg t23 false (fun o7 => o7 (get tT 0) h11) h11 fun t25 h12 =>
mg t23 false (fun o8 => o8 (get tT 5) h12) h12 fun t26 h13 =>
mg t23 false (fun o9 => bareK (ixS 5 t25 t26) h13 o9) h13 fun t27 h14 =>
mg t23 false (fun o10 => bareK (fad 4 t27) h14 o10) h14 fun t28 h15 =>
mg t23 false (fun o11 => bareK (ld1 h15 t28) h15 o11) h15 fun t29 h16 =>
mg t23 false (fun o12 => bareK (lenT t29) h16 o12) h16 fun t30 h17 =>
mg t23 false (fun o13 => bareK (xbin P .gtr T.int (.tmp 30) (.const (.int .i64 44)) t30 (.int .i64 44)) h17 o13) h17 fun t31 h18 =>
pickK t23 (.bool true) t31 fun t32 =>
mc t32 (fun k14 => k14 .ret [(4, (.bool false))] h18) (fun k14 =>
k14 .normal [(0, (get tT 0)), (1, (get tT 1)), (5, (get tT 5))] h18) (blkK [0, 1, 5] 1 k6)) (seqK (fun tT_1 h19 =>
bareK (xbin P .add T.int (.tmp 15) (.const (.int .i64 1)) (get tT_1 5) (.int .i64 1)) h19 fun t16 h20 =>
k .normal [(0, (get tT_1 0)), (1, (get tT_1 1)), (5, t16)] h20) (afterK [0, 1, 5] k))) (afterK [0, 1, 5] k))

theorem s_law_small_eq (M : CombL) (C : CallF) (LP : LoopH) (a0 : Value) (a1 : Value) (H : AHeap) : dBodyL M Tryd.prog hints C LP F.law_small [a0, a1] H = s_law_small M.b.g M.c M.s Tryd.prog C (fun v0 v1 v5 H k => loopL M Tryd.prog hints C LP F.law_small 0 [(0, v0), (1, v1), (5, v5)] H k) a0 a1 H (endK Tryd.prog [.tmp 4]) := by kernel_rfl

theorem s_law_small_b0_eq (M : CombL) (C : CallF) (LP : LoopH) (v0 : Value) (v1 : Value) (v5 : Value) (H : AHeap) (k : K) : bodyL M Tryd.prog hints C LP F.law_small 0 [(0, v0), (1, v1), (5, v5)] H (afterK [0, 1, 5] k) = s_law_small_b0 M.b.g M.c M.s Tryd.prog C (fun v0 v1 v5 H k => loopL M Tryd.prog hints C LP F.law_small 0 [(0, v0), (1, v1), (5, v5)] H k) v0 v1 v5 H k := by kernel_rfl

/-! ticketline.ids.New -/

noncomputable def s_ids_New (mg : GT) (mc : CT) (ms : ST) (P : Program) (C : CallF) (a0 : Value) (H : AHeap) (K0 : K) : Res :=
bareK (xbin P .lss T.int (.tmp 4) (.const (.int .i64 1)) a0 (.int .i64 1)) H fun t5 h1 =>
mg t5 false (fun o1 => o1 a0 h1) h1 fun t7 h2 =>
mg t5 false (fun o2 => bareK (xbin P .gtr T.int (.tmp 7) (.const (.int .i64 1000)) t7 (.int .i64 1000)) h2 o2) h2 fun t8 h3 =>
pickK t5 (.bool true) t8 fun t9 =>
mc t9 (fun k3 => k3 .ret [(2, (.pointer none)), (3, (.int .i64 2))] h3) (fun k3 =>
k3 .normal [(0, a0)] h3) (seqK (fun tT h4 =>
bothK (xmakeMap P T.map_string_api_Block none h4) fun t11 h5 =>
bareK (bldS #[(.int .i64 0), (.map none)] [(0, 1), (1, 1)] [(0, (get tT 0)), (1, t11)]) h5 fun t12 h6 =>
bothK (newv T.ids_Giver t12 h6) fun t13 h7 =>
K0 .ret [(2, t13), (3, (.int .i64 0))] h7) K0)

theorem s_ids_New_eq (M : CombL) (C : CallF) (LP : LoopH) (a0 : Value) (H : AHeap) : dBodyL M Tryd.prog hints C LP F.ids_New [a0] H = s_ids_New M.b.g M.c M.s Tryd.prog C a0 H (endK Tryd.prog [.tmp 2, .tmp 3]) := by kernel_rfl

/-! (*ticketline.ids.Giver).Give -/

noncomputable def s_ids_Giver_Give (mg : GT) (mc : CT) (ms : ST) (P : Program) (C : CallF) (a0 : Value) (a1 : Value) (a2 : Value) (H : AHeap) (K0 : K) : Res :=
enterK C F.ids_Giver_none [a0] H fun t13 h1 =>
mc t13 (fun k1 => k1 .ret [(6, (.int .i64 0)), (7, (.int .i64 1))] h1) (fun k1 =>
k1 .normal [(0, a0), (1, a1), (2, a2)] h1) (seqK (fun tT h2 =>
enterK C F.ids_Next [(get tT 1), (get tT 2)] h2 fun t17 h3 =>
bareK (xextract t17 0) h3 fun t18 h4 =>
bareK (xextract t17 1) h4 fun t19 h5 =>
bareK (xbin P .neq T.api_Errno (.tmp 20) (.const (.int .i64 0)) t19 (.int .i64 0)) h5 fun t21 h6 =>
mc t21 (fun k2 => k2 .ret [(6, (.int .i64 0)), (7, t19)] h6) (fun k2 =>
k2 .normal [(0, (get tT 0)), (1, (get tT 1)), (2, (get tT 2))] h6) (seqK (fun tT_1 h7 =>
bareK (xnilCheck (get tT_1 0)) h7 fun t24 h8 =>
bareK (fad 1 t24) h8 fun t25 h9 =>
bareK (ld1 h9 t25) h9 fun t26 h10 =>
bareK (xlookup P T.map_string_api_Block t26 (get tT_1 2) false h10) h10 fun t28 h11 =>
bothK (newv T.api_Block (.agg #[(.int .i64 0), (.int .i64 0)]) h11) fun t10 h12 =>
quietK (stN 2 h12 t10 t28) fun _ h13 =>
bareK (fad 1 t10) h13 fun t29 h14 =>
bareK (ld1 h14 t29) h14 fun t30 h15 =>
bareK (xbin P .eql T.int (.tmp 30) (.const (.int .i64 0)) t30 (.int .i64 0)) h15 fun t31 h16 =>
mc t31 (fun k3 => bareK (xnilCheck (get tT_1 0)) h16 fun t36 h17 =>
bareK (fad 0 t36) h17 fun t37 h18 =>
bareK (ld1 h18 t37) h18 fun t38 h19 =>
enterK C F.ids_Take [(get tT_1 1), (get tT_1 2), t38] h19 fun t39 h20 =>
bareK (xextract t39 0) h20 fun t40 h21 =>
bareK (xextract t39 1) h21 fun t41 h22 =>
quietK (stN 2 h22 t10 t40) fun _ h23 =>
bareK (xbin P .neq T.api_Errno (.tmp 42) (.const (.int .i64 0)) t41 (.int .i64 0)) h23 fun t43 h24 =>
mc t43 (fun k4 => k4 .ret [(6, (.int .i64 0)), (7, t41)] h24) (fun k4 =>
k4 .normal [(0, (get tT_1 0)), (2, (get tT_1 2)), (10, t10)] h24) (afterK [0, 2, 10] k3)) (fun k3 =>
k3 .normal [(0, (get tT_1 0)), (2, (get tT_1 2)), (10, t10)] h16) (seqK (fun tT_2 h25 =>
bareK (fad 0 (get tT_2 10)) h25 fun t47 h26 =>
bareK (ld1 h26 t47) h26 fun t48 h27 =>
bareK (xbin P .add T.int (.tmp 48) (.const (.int .i64 1)) t48 (.int .i64 1)) h27 fun t49 h28 =>
bareK (fad 1 (get tT_2 10)) h28 fun t50 h29 =>
bareK (ld1 h29 t50) h29 fun t51 h30 =>
bareK (xbin P .sub T.int (.tmp 51) (.const (.int .i64 1)) t51 (.int .i64 1)) h30 fun t52 h31 =>
bareK (bldS #[(.int .i64 0), (.int .i64 0)] [(0, 1), (1, 1)] [(0, t49), (1, t52)]) h31 fun t53 h32 =>
enterK C F.ids_Giver_set [(get tT_2 0), (get tT_2 2), t53] h32 fun t54 h33 =>
bareK (fad 0 (get tT_2 10)) h33 fun t55 h34 =>
bareK (ld1 h34 t55) h34 fun t56 h35 =>
K0 .ret [(6, t56), (7, (.int .i64 0))] h35) K0)) K0)) K0)

theorem s_ids_Giver_Give_eq (M : CombL) (C : CallF) (LP : LoopH) (a0 : Value) (a1 : Value) (a2 : Value) (H : AHeap) : dBodyL M Tryd.prog hints C LP F.ids_Giver_Give [a0, a1, a2] H = s_ids_Giver_Give M.b.g M.c M.s Tryd.prog C a0 a1 a2 H (endK Tryd.prog [.tmp 6, .tmp 7]) := by kernel_rfl

/-! (*ticketline.ids.Giver).Lose -/

noncomputable def s_ids_Giver_Lose (mg : GT) (mc : CT) (ms : ST) (P : Program) (C : CallF) (a0 : Value) (H : AHeap) (K0 : K) : Res :=
enterK C F.ids_Giver_none [a0] H fun t3 h1 =>
bareK (xun P .not t3) h1 fun t4 h2 =>
mc t4 (fun k1 => bareK (xnilCheck a0) h2 fun t6 h3 =>
bareK (fad 1 t6) h3 fun t7 h4 =>
bareK (ld1 h4 t7) h4 fun t8 h5 =>
bothK (xclear P [T.map_string_api_Block] t8 h5) fun _ h6 =>
k1 .normal [] h6) (fun k1 =>
k1 .normal [] h2) K0

theorem s_ids_Giver_Lose_eq (M : CombL) (C : CallF) (LP : LoopH) (a0 : Value) (H : AHeap) : dBodyL M Tryd.prog hints C LP F.ids_Giver_Lose [a0] H = s_ids_Giver_Lose M.b.g M.c M.s Tryd.prog C a0 H (endK Tryd.prog []) := by kernel_rfl

/-! (*ticketline.ids.Giver).Return -/

noncomputable def s_ids_Giver_Return (mg : GT) (mc : CT) (ms : ST) (P : Program) (C : CallF) (L0 : Value → Value → Value → Value → Value → Value → AHeap → K → Res) (L1 : Value → Value → Value → Value → Value → Value → AHeap → K → Res) (a0 : Value) (a1 : Value) (H : AHeap) (K0 : K) : Res :=
enterK C F.ids_Giver_none [a0] H fun t15 h1 =>
mg t15 false (fun o1 => o1 a1 h1) h1 fun t17 h2 =>
mg t15 false (fun o2 => bareK (xbin P .eql T.p_model_Model (.tmp 17) (.const (.pointer none)) t17 (.pointer none)) h2 o2) h2 fun t18 h3 =>
pickK t15 (.bool true) t18 fun t19 =>
mc t19 (fun k3 => k3 .ret [(4, (.int .i64 0)), (5, (.int .i64 1))] h3) (fun k3 =>
k3 .normal [(0, a0), (1, a1)] h3) (seqK (fun tT h4 =>
bareK (xnilCheck (get tT 0)) h4 fun t21 h5 =>
bareK (fad 1 t21) h5 fun t22 h6 =>
bareK (ld1 h6 t22) h6 fun t23 h7 =>
enterK C F.maps_Keys_Block [t23] h7 fun t24 h8 =>
enterK C F.slices_Sorted_string [t24] h8 fun t25 h9 =>
bareK (lenS t25) h9 fun t26 h10 =>
ms (fun k4 =>
L0 (get tT 0) (get tT 1) (.slice none 0 0) t25 t26 (.int .i64 0) h10 (blkK [0, 1, 6] 0 k4)) (seqK (fun tT_1 h11 =>
bareK (lenS (get tT_1 6)) h11 fun t59 h12 =>
ms (fun k5 =>
L1 (get tT_1 0) (get tT_1 1) (get tT_1 6) (get tT_1 6) t59 (.int .i64 0) h12 (blkK [6] 2 k5)) (seqK (fun tT_2 h13 =>
bareK (lenS (get tT_2 6)) h13 fun t82 h14 =>
K0 .ret [(4, t82), (5, (.int .i64 0))] h14) K0)) K0)) K0)

noncomputable def s_ids_Giver_Return_b0 (mg : GT) (mc : CT) (ms : ST) (P : Program) (C : CallF) (L0 : Value → Value → Value → Value → Value → Value → AHeap → K → Res) (L1 : Value → Value → Value → Value → Value → Value → AHeap → K → Res) (v0 : Value) (v1 : Value) (v6 : Value) (v25 : Value) (v26 : Value) (v27 : Value) (H : AHeap) (k : K) : Res :=
bareK (xbin P .lss T.int (.tmp 27) (.tmp 26) v27 v26) H fun t28 h11 =>
mc t28 (fun k5 => k5 .normal [(0, v0), (1, v1), (6, v6), (25, v25), (26, v26), (27, v27)] h11) (fun k5 =>
k5 (.exit 0) [(28, t28), (0, v0), (1, v1), (6, v6), (25, v25), (26, v26), (27, v27)] h11) (seqK (fun tT h12 =>
ms (fun k6 =>
bareK (ixS 1 (get tT 25) (get tT 27)) h12 fun t29 h13 =>
bareK (ld1 h13 t29) h13 fun t30 h14 =>
enterK C F.ids_Next [(get tT 1), t30] h14 fun t34 h15 =>
bareK (xextract t34 0) h15 fun t35 h16 =>
bareK (xextract t34 1) h16 fun t36 h17 =>
bareK (xbin P .neq T.api_Errno (.tmp 37) (.const (.int .i64 0)) t36 (.int .i64 0)) h17 fun t38 h18 =>
mc t38 (fun k7 => k7 .ret [(4, (.int .i64 0)), (5, t36)] h18) (fun k7 =>
k7 .normal [(0, (get tT 0)), (1, (get tT 1)), (6, (get tT 6)), (8, t30), (9, t35), (25, (get tT 25)), (26, (get tT 26)), (27, (get tT 27))] h18) (seqK (fun tT_1 h19 =>
bareK (xnilCheck (get tT_1 0)) h19 fun t41 h20 =>
bareK (fad 1 t41) h20 fun t42 h21 =>
bareK (ld1 h21 t42) h21 fun t43 h22 =>
bareK (xlookup P T.map_string_api_Block t43 (get tT_1 8) false h22) h22 fun t45 h23 =>
bothK (newv T.api_Block (.agg #[(.int .i64 0), (.int .i64 0)]) h23) fun t11 h24 =>
quietK (stN 2 h24 t11 t45) fun _ h25 =>
bareK (fad 0 t11) h25 fun t46 h26 =>
bareK (ld1 h26 t46) h26 fun t47 h27 =>
bareK (fad 1 t11) h27 fun t48 h28 =>
bareK (ld1 h28 t48) h28 fun t49 h29 =>
bareK (xbin P .add T.int (.tmp 47) (.tmp 49) t47 t49) h29 fun t50 h30 =>
bareK (xbin P .eql T.int (.tmp 50) (.tmp 51) t50 (get tT_1 9)) h30 fun t52 h31 =>
mc t52 (fun k8 => bothK (bldL T.string [(.string (mk []))] 1 [(0, (get tT_1 8))] h31) fun t55 h32 =>
bothK (app T.string 1 16 (get tT_1 6) (srcS 1 t55 h32) h32) fun t56 h33 =>
k8 .normal [(0, (get tT_1 0)), (1, (get tT_1 1)), (6, t56), (25, (get tT_1 25)), (26, (get tT_1 26)), (27, (get tT_1 27))] h33) (fun k8 =>
k8 .normal [(0, (get tT_1 0)), (1, (get tT_1 1)), (6, (get tT_1 6)), (25, (get tT_1 25)), (26, (get tT_1 26)), (27, (get tT_1 27))] h31) (blkK [0, 1, 6, 25, 26, 27] 1 k6)) (blkK [0, 1, 6, 25, 26, 27] 1 k6))) (seqK (fun tT_2 h34 =>
bareK (xbin P .add T.int (.tmp 27) (.const (.int .i64 1)) (get tT_2 27) (.int .i64 1)) h34 fun t57 h35 =>
k .normal [(0, (get tT_2 0)), (1, (get tT_2 1)), (6, (get tT_2 6)), (25, (get tT_2 25)), (26, (get tT_2 26)), (27, t57)] h35) (afterK [0, 1, 6, 25, 26, 27] k))) (afterK [0, 1, 6, 25, 26, 27] k))

noncomputable def s_ids_Giver_Return_b1 (mg : GT) (mc : CT) (ms : ST) (P : Program) (C : CallF) (L0 : Value → Value → Value → Value → Value → Value → AHeap → K → Res) (L1 : Value → Value → Value → Value → Value → Value → AHeap → K → Res) (v0 : Value) (v1 : Value) (v6 : Value) (v58 : Value) (v59 : Value) (v60 : Value) (H : AHeap) (k : K) : Res :=
bareK (xbin P .lss T.int (.tmp 60) (.tmp 59) v60 v59) H fun t61 h13 =>
mc t61 (fun k6 => k6 .normal [(0, v0), (1, v1), (6, v6), (58, v58), (59, v59), (60, v60)] h13) (fun k6 =>
k6 (.exit 2) [(61, t61), (0, v0), (1, v1), (6, v6), (58, v58), (59, v59), (60, v60)] h13) (seqK (fun tT h14 =>
ms (fun k7 =>
bareK (ixS 1 (get tT 58) (get tT 60)) h14 fun t62 h15 =>
bareK (ld1 h15 t62) h15 fun t63 h16 =>
bareK (xnilCheck (get tT 0)) h16 fun t67 h17 =>
bareK (fad 1 t67) h17 fun t68 h18 =>
bareK (ld1 h18 t68) h18 fun t69 h19 =>
bareK (xlookup P T.map_string_api_Block t69 t63 false h19) h19 fun t71 h20 =>
bareK (prt1 0 t71) h20 fun t72 h21 =>
enterK C F.strconv_Itoa [t72] h21 fun t73 h22 =>
enterK C F.model_Model_Put [(get tT 1), t63, t73] h22 fun t74 h23 =>
bareK (xnilCheck (get tT 0)) h23 fun t76 h24 =>
bareK (fad 1 t76) h24 fun t77 h25 =>
bareK (ld1 h25 t77) h25 fun t78 h26 =>
nextK C h26 (xbuiltin P .delete [T.map_string_api_Block, T.string] [t78, t63] h26) fun _ h27 =>
k7 .normal [(0, (get tT 0)), (1, (get tT 1)), (6, (get tT 6)), (58, (get tT 58)), (59, (get tT 59)), (60, (get tT 60))] h27) (seqK (fun tT_1 h28 =>
bareK (xbin P .add T.int (.tmp 60) (.const (.int .i64 1)) (get tT_1 60) (.int .i64 1)) h28 fun t80 h29 =>
k .normal [(0, (get tT_1 0)), (1, (get tT_1 1)), (6, (get tT_1 6)), (58, (get tT_1 58)), (59, (get tT_1 59)), (60, t80)] h29) (afterK [0, 1, 6, 58, 59, 60] k))) (afterK [0, 1, 6, 58, 59, 60] k))

theorem s_ids_Giver_Return_eq (M : CombL) (C : CallF) (LP : LoopH) (a0 : Value) (a1 : Value) (H : AHeap) : dBodyL M Tryd.prog hints C LP F.ids_Giver_Return [a0, a1] H = s_ids_Giver_Return M.b.g M.c M.s Tryd.prog C (fun v0 v1 v6 v25 v26 v27 H k => loopL M Tryd.prog hints C LP F.ids_Giver_Return 0 [(0, v0), (1, v1), (6, v6), (25, v25), (26, v26), (27, v27)] H k) (fun v0 v1 v6 v58 v59 v60 H k => loopL M Tryd.prog hints C LP F.ids_Giver_Return 1 [(0, v0), (1, v1), (6, v6), (58, v58), (59, v59), (60, v60)] H k) a0 a1 H (endK Tryd.prog [.tmp 4, .tmp 5]) := by kernel_rfl

theorem s_ids_Giver_Return_b0_eq (M : CombL) (C : CallF) (LP : LoopH) (v0 : Value) (v1 : Value) (v6 : Value) (v25 : Value) (v26 : Value) (v27 : Value) (H : AHeap) (k : K) : bodyL M Tryd.prog hints C LP F.ids_Giver_Return 0 [(0, v0), (1, v1), (6, v6), (25, v25), (26, v26), (27, v27)] H (afterK [0, 1, 6, 25, 26, 27] k) = s_ids_Giver_Return_b0 M.b.g M.c M.s Tryd.prog C (fun v0 v1 v6 v25 v26 v27 H k => loopL M Tryd.prog hints C LP F.ids_Giver_Return 0 [(0, v0), (1, v1), (6, v6), (25, v25), (26, v26), (27, v27)] H k) (fun v0 v1 v6 v58 v59 v60 H k => loopL M Tryd.prog hints C LP F.ids_Giver_Return 1 [(0, v0), (1, v1), (6, v6), (58, v58), (59, v59), (60, v60)] H k) v0 v1 v6 v25 v26 v27 H k := by kernel_rfl

theorem s_ids_Giver_Return_b1_eq (M : CombL) (C : CallF) (LP : LoopH) (v0 : Value) (v1 : Value) (v6 : Value) (v58 : Value) (v59 : Value) (v60 : Value) (H : AHeap) (k : K) : bodyL M Tryd.prog hints C LP F.ids_Giver_Return 1 [(0, v0), (1, v1), (6, v6), (58, v58), (59, v59), (60, v60)] H (afterK [0, 1, 6, 58, 59, 60] k) = s_ids_Giver_Return_b1 M.b.g M.c M.s Tryd.prog C (fun v0 v1 v6 v25 v26 v27 H k => loopL M Tryd.prog hints C LP F.ids_Giver_Return 0 [(0, v0), (1, v1), (6, v6), (25, v25), (26, v26), (27, v27)] H k) (fun v0 v1 v6 v58 v59 v60 H k => loopL M Tryd.prog hints C LP F.ids_Giver_Return 1 [(0, v0), (1, v1), (6, v6), (58, v58), (59, v59), (60, v60)] H k) v0 v1 v6 v58 v59 v60 H k := by kernel_rfl

/-! ticketline.ids.Next -/

noncomputable def s_ids_Next (mg : GT) (mc : CT) (ms : ST) (P : Program) (C : CallF) (a0 : Value) (a1 : Value) (H : AHeap) (K0 : K) : Res :=
enterK C F.ids_check [a0, a1] H fun t13 h1 =>
bareK (xbin P .neq T.api_Errno (.tmp 14) (.const (.int .i64 0)) t13 (.int .i64 0)) h1 fun t15 h2 =>
mc t15 (fun k1 => k1 .ret [(4, (.int .i64 0)), (5, t13)] h2) (fun k1 =>
k1 .normal [(0, a0), (1, a1)] h2) (seqK (fun tT h3 =>
enterK C F.model_Model_Get [(get tT 0), (get tT 1)] h3 fun t20 h4 =>
bareK (xextract t20 0) h4 fun t21 h5 =>
bareK (xextract t20 1) h5 fun t22 h6 =>
bareK (xbin P .neq T.api_Errno (.tmp 23) (.const (.int .i64 0)) t22 (.int .i64 0)) h6 fun t24 h7 =>
mc t24 (fun k2 => k2 .ret [(4, (.int .i64 1)), (5, (.int .i64 0))] h7) (fun k2 =>
k2 .normal [(7, t21)] h7) (seqK (fun tT_1 h8 =>
enterK C F.strconv_Atoi [(get tT_1 7)] h8 fun t27 h9 =>
bareK (xextract t27 0) h9 fun t28 h10 =>
bareK (xextract t27 1) h10 fun t29 h11 =>
bareK (xbin P .neq T.error (.tmp 30) (.const .nilIface) t29 .nilIface) h11 fun t31 h12 =>
mg t31 false (fun o3 => o3 t28 h12) h12 fun t33 h13 =>
mg t31 false (fun o4 => bareK (xbin P .lss T.int (.tmp 33) (.const (.int .i64 1)) t33 (.int .i64 1)) h13 o4) h13 fun t34 h14 =>
pickK t31 (.bool true) t34 fun t35 =>
mg t35 false (fun o5 => o5 t28 h14) h14 fun t37 h15 =>
mg t35 false (fun o6 => bareK (xbin P .gtr T.int (.tmp 37) (.const (.int .i64 1099511627776)) t37 (.int .i64 1099511627776)) h15 o6) h15 fun t38 h16 =>
pickK t35 (.bool true) t38 fun t39 =>
mg t39 false (fun o7 => o7 t28 h16) h16 fun t41 h17 =>
mg t39 false (fun o8 => enterK C F.strconv_Itoa [t41] h17 o8) h17 fun t42 h18 =>
mg t39 false (fun o9 => o9 (get tT_1 7) h18) h18 fun t43 h19 =>
mg t39 false (fun o10 => bareK (xbin P .neq T.string (.tmp 42) (.tmp 43) t42 t43) h19 o10) h19 fun t44 h20 =>
pickK t39 (.bool true) t44 fun t45 =>
mc t45 (fun k11 => k11 .ret [(4, (.int .i64 0)), (5, (.int .i64 12))] h20) (fun k11 =>
k11 .normal [(9, t28)] h20) (seqK (fun tT_2 h21 =>
K0 .ret [(4, (get tT_2 9)), (5, (.int .i64 0))] h21) K0)) K0)) K0)

theorem s_ids_Next_eq (M : CombL) (C : CallF) (LP : LoopH) (a0 : Value) (a1 : Value) (H : AHeap) : dBodyL M Tryd.prog hints C LP F.ids_Next [a0, a1] H = s_ids_Next M.b.g M.c M.s Tryd.prog C a0 a1 H (endK Tryd.prog [.tmp 4, .tmp 5]) := by kernel_rfl

/-! (*ticketline.ids.Giver).Left -/

noncomputable def s_ids_Giver_Left (mg : GT) (mc : CT) (ms : ST) (P : Program) (C : CallF) (a0 : Value) (a1 : Value) (H : AHeap) (K0 : K) : Res :=
bothK (newv T.api_Block (.agg #[(.int .i64 0), (.int .i64 0)]) H) fun t4 h1 =>
enterK C F.ids_Giver_none [a0] h1 fun t6 h2 =>
mc t6 (fun k1 => bareK (bldS #[(.int .i64 0), (.int .i64 0)] [(0, 1), (1, 1)] []) h2 fun t7 h3 =>
quietK (stN 2 h3 t4 t7) fun _ h4 =>
k1 .ret [(4, t4)] h4) (fun k1 =>
k1 .normal [(0, a0), (1, a1), (4, t4)] h2) (seqK (fun tT h5 =>
bareK (xnilCheck (get tT 0)) h5 fun t9 h6 =>
bareK (fad 1 t9) h6 fun t10 h7 =>
bareK (ld1 h7 t10) h7 fun t11 h8 =>
bareK (xlookup P T.map_string_api_Block t11 (get tT 1) false h8) h8 fun t13 h9 =>
quietK (stN 2 h9 (get tT 4) t13) fun _ h10 =>
K0 .ret [(4, (get tT 4))] h10) K0)

theorem s_ids_Giver_Left_eq (M : CombL) (C : CallF) (LP : LoopH) (a0 : Value) (a1 : Value) (H : AHeap) : dBodyL M Tryd.prog hints C LP F.ids_Giver_Left [a0, a1] H = s_ids_Giver_Left M.b.g M.c M.s Tryd.prog C a0 a1 H (endK Tryd.prog [.cell 4 T.api_Block]) := by kernel_rfl

/-! ticketline.ticketlinelaw47.gives -/

noncomputable def s_law_gives (mg : GT) (mc : CT) (ms : ST) (P : Program) (C : CallF) (a0 : Value) (a1 : Value) (a2 : Value) (a3 : Value) (a4 : Value) (H : AHeap) (K0 : K) : Res :=
enterK C F.ids_Giver_Give [a0, a1, a2] H fun t17 h1 =>
bareK (xextract t17 0) h1 fun t18 h2 =>
bareK (xextract t17 1) h2 fun t19 h3 =>
bareK (xbin P .eql T.int (.tmp 20) (.tmp 21) t18 a3) h3 fun t22 h4 =>
mg t22 true (fun o1 => o1 t19 h4) h4 fun t24 h5 =>
mg t22 true (fun o2 => o2 a4 h5) h5 fun t25 h6 =>
mg t22 true (fun o3 => bareK (xbin P .eql T.int (.tmp 24) (.tmp 25) t24 t25) h6 o3) h6 fun t26 h7 =>
pickK t22 t26 (.bool false) fun t27 =>
K0 .ret [(10, t27)] h7

theorem s_law_gives_eq (M : CombL) (C : CallF) (LP : LoopH) (a0 : Value) (a1 : Value) (a2 : Value) (a3 : Value) (a4 : Value) (H : AHeap) : dBodyL M Tryd.prog hints C LP F.law_gives [a0, a1, a2, a3, a4] H = s_law_gives M.b.g M.c M.s Tryd.prog C a0 a1 a2 a3 a4 H (endK Tryd.prog [.tmp 10]) := by kernel_rfl

/-! ticketline.ticketlinelaw47.returns -/

noncomputable def s_law_returns (mg : GT) (mc : CT) (ms : ST) (P : Program) (C : CallF) (a0 : Value) (a1 : Value) (a2 : Value) (a3 : Value) (H : AHeap) (K0 : K) : Res :=
enterK C F.ids_Giver_Return [a0, a1] H fun t14 h1 =>
bareK (xextract t14 0) h1 fun t15 h2 =>
bareK (xextract t14 1) h2 fun t16 h3 =>
bareK (xbin P .eql T.int (.tmp 17) (.tmp 18) t15 a2) h3 fun t19 h4 =>
mg t19 true (fun o1 => o1 t16 h4) h4 fun t21 h5 =>
mg t19 true (fun o2 => o2 a3 h5) h5 fun t22 h6 =>
mg t19 true (fun o3 => bareK (xbin P .eql T.int (.tmp 21) (.tmp 22) t21 t22) h6 o3) h6 fun t23 h7 =>
pickK t19 t23 (.bool false) fun t24 =>
K0 .ret [(8, t24)] h7

theorem s_law_returns_eq (M : CombL) (C : CallF) (LP : LoopH) (a0 : Value) (a1 : Value) (a2 : Value) (a3 : Value) (H : AHeap) : dBodyL M Tryd.prog hints C LP F.law_returns [a0, a1, a2, a3] H = s_law_returns M.b.g M.c M.s Tryd.prog C a0 a1 a2 a3 H (endK Tryd.prog [.tmp 8]) := by kernel_rfl

/-! (*ticketline.ids.Giver).Copy -/

noncomputable def s_ids_Giver_Copy (mg : GT) (mc : CT) (ms : ST) (P : Program) (C : CallF) (a0 : Value) (H : AHeap) (K0 : K) : Res :=
enterK C F.ids_Giver_none [a0] H fun t4 h1 =>
mc t4 (fun k1 => k1 .ret [(2, (.pointer none))] h1) (fun k1 =>
k1 .normal [(0, a0)] h1) (seqK (fun tT h2 =>
bareK (xnilCheck (get tT 0)) h2 fun t6 h3 =>
bareK (fad 0 t6) h3 fun t7 h4 =>
bareK (ld1 h4 t7) h4 fun t8 h5 =>
bareK (xnilCheck (get tT 0)) h5 fun t10 h6 =>
bareK (fad 1 t10) h6 fun t11 h7 =>
bareK (ld1 h7 t11) h7 fun t12 h8 =>
enterK C F.maps_Clone_Block [t12] h8 fun t13 h9 =>
bareK (bldS #[(.int .i64 0), (.map none)] [(0, 1), (1, 1)] [(0, t8), (1, t13)]) h9 fun t14 h10 =>
bothK (newv T.ids_Giver t14 h10) fun t15 h11 =>
checkK (okV (some true) none h8 h9 h2 h2 && (okV (some true) none h8 h9 h2 h3 && (okV (some true) none h8 h9 h3 h4 && (okV (some true) (blockOf t7) h8 h9 h4 h5 && true)))) <|
K0 .ret [(2, t15)] h11) K0)

theorem s_ids_Giver_Copy_eq (M : CombL) (C : CallF) (LP : LoopH) (a0 : Value) (H : AHeap) : dBodyL M Tryd.prog hints C LP F.ids_Giver_Copy [a0] H = s_ids_Giver_Copy M.b.g M.c M.s Tryd.prog C a0 H (endK Tryd.prog [.tmp 2]) := by kernel_rfl

/-! (*ticketline.model.Model).at -/

noncomputable def s_model_Model_at (mg : GT) (mc : CT) (ms : ST) (P : Program) (C : CallF) (a0 : Value) (a1 : Value) (a2 : Value) (H : AHeap) (K0 : K) : Res :=
bareK (xbin P .eql T.p_model_Model (.tmp 13) (.const (.pointer none)) a0 (.pointer none)) H fun t14 h1 =>
mc t14 (fun k1 => k1 .ret [(6, (.int .i64 0)), (7, (.bool false)), (8, (.int .i64 1))] h1) (fun k1 =>
k1 .normal [(0, a0), (1, a1), (2, a2)] h1) (seqK (fun tT h2 =>
enterK C F.model_check [(get tT 1), (get tT 2)] h2 fun t17 h3 =>
bareK (xbin P .neq T.api_Errno (.tmp 18) (.const (.int .i64 0)) t17 (.int .i64 0)) h3 fun t19 h4 =>
mc t19 (fun k2 => k2 .ret [(6, (.int .i64 0)), (7, (.bool false)), (8, t17)] h4) (fun k2 =>
k2 .normal [(0, (get tT 0)), (1, (get tT 1))] h4) (seqK (fun tT_1 h5 =>
callK P C (.func (.func F.model_Model_place) #[(get tT_1 0)] #[]) [(get tT_1 1)] h5 fun t26 h6 =>
bareK (xextract t26 0) h6 fun t27 h7 =>
bareK (xextract t26 1) h7 fun t28 h8 =>
K0 .ret [(6, t27), (7, t28), (8, (.int .i64 0))] h8) K0)) K0)

theorem s_model_Model_at_eq (M : CombL) (C : CallF) (LP : LoopH) (a0 : Value) (a1 : Value) (a2 : Value) (H : AHeap) : dBodyL M Tryd.prog hints C LP F.model_Model_at [a0, a1, a2] H = s_model_Model_at M.b.g M.c M.s Tryd.prog C a0 a1 a2 H (endK Tryd.prog [.tmp 6, .tmp 7, .tmp 8]) := by kernel_rfl

/-! (*ticketline.model.Model).set -/

noncomputable def s_model_Model_set (mg : GT) (mc : CT) (ms : ST) (P : Program) (C : CallF) (a0 : Value) (a1 : Value) (a2 : Value) (a3 : Value) (H : AHeap) (K0 : K) : Res :=
bothK (newv T.api_Pair a3 H) fun t7 h1 =>
ms (fun k1 =>
mc a2 (fun k2 => bareK (xnilCheck a0) h1 fun t23 h2 =>
bareK (fad 0 t23) h2 fun t24 h3 =>
bareK (ld1 h3 t24) h3 fun t25 h4 =>
bareK (ldN 2 h4 t7) h4 fun t27 h5 =>
bareK (ixS 2 t25 a1) h5 fun t28 h6 =>
quietK (stN 2 h6 t28 t27) fun _ h7 =>
checkK true <|
k2 .normal [] h7) (fun k2 =>
bareK (xnilCheck a0) h1 fun t31 h8 =>
bareK (fad 0 t31) h8 fun t32 h9 =>
bareK (ld1 h9 t32) h9 fun t33 h10 =>
bareK (lenS t33) h10 fun t34 h11 =>
bareK (xbin P .eql T.int (.tmp 34) (.const (.int .i64 20000)) t34 (.int .i64 20000)) h11 fun t35 h12 =>
mc t35 (fun k3 => k3 .ret [(8, (.int .i64 7))] h12) (fun k3 =>
bareK (xnilCheck a0) h12 fun t11 h13 =>
bareK (fad 0 t11) h13 fun t12 h14 =>
bareK (ld1 h14 t12) h14 fun t13 h15 =>
bareK (ldN 2 h15 t7) h15 fun t15 h16 =>
bothK (bldL T.api_Pair [(.string (mk [])), (.string (mk []))] 1 [(0, t15)] h16) fun t16 h17 =>
enterK C F.slices_Insert_Pair [t13, a1, t16] h17 fun t17 h18 =>
bareK (xnilCheck a0) h18 fun t18 h19 =>
bareK (fad 0 t18) h19 fun t19 h20 =>
quietK (st1 h20 t19 t17) fun _ h21 =>
checkK (okV (some true) none h17 h18 h12 h12 && true) <|
k3 .normal [] h21) (afterK [] k2)) (blkK [] 0 k1)) (seqK (fun tT h22 =>
K0 .ret [(8, (.int .i64 0))] h22) K0)

theorem s_model_Model_set_eq (M : CombL) (C : CallF) (LP : LoopH) (a0 : Value) (a1 : Value) (a2 : Value) (a3 : Value) (H : AHeap) : dBodyL M Tryd.prog hints C LP F.model_Model_set [a0, a1, a2, a3] H = s_model_Model_set M.b.g M.c M.s Tryd.prog C a0 a1 a2 a3 H (endK Tryd.prog [.tmp 8]) := by kernel_rfl

/-! (*ticketline.model.Model).Get -/

noncomputable def s_model_Model_Get (mg : GT) (mc : CT) (ms : ST) (P : Program) (C : CallF) (a0 : Value) (a1 : Value) (H : AHeap) (K0 : K) : Res :=
enterK C F.model_Model_at [a0, a1, (.slice none 0 0)] H fun t12 h1 =>
bareK (xextract t12 0) h1 fun t13 h2 =>
bareK (xextract t12 1) h2 fun t14 h3 =>
bareK (xextract t12 2) h3 fun t15 h4 =>
ms (fun k1 =>
bareK (xbin P .neq T.api_Errno (.tmp 17) (.const (.int .i64 0)) t15 (.int .i64 0)) h4 fun t18 h5 =>
mc t18 (fun k2 => k2 .ret [(4, (.string (mk []))), (5, t15)] h5) (fun k2 =>
bareK (xun P .not t14) h5 fun t22 h6 =>
mc t22 (fun k3 => k3 .ret [(4, (.string (mk []))), (5, (.int .i64 9))] h6) (fun k3 =>
k3 .normal [(0, a0), (6, t13)] h6) (afterK [0, 6] k2)) (blkK [0, 6] 0 k1)) (seqK (fun tT h7 =>
bareK (xnilCheck (get tT 0)) h7 fun t24 h8 =>
bareK (fad 0 t24) h8 fun t25 h9 =>
bareK (ld1 h9 t25) h9 fun t26 h10 =>
bareK (ixS 2 t26 (get tT 6)) h10 fun t28 h11 =>
bareK (fad 1 t28) h11 fun t29 h12 =>
bareK (ld1 h12 t29) h12 fun t30 h13 =>
K0 .ret [(4, t30), (5, (.int .i64 0))] h13) K0)

theorem s_model_Model_Get_eq (M : CombL) (C : CallF) (LP : LoopH) (a0 : Value) (a1 : Value) (H : AHeap) : dBodyL M Tryd.prog hints C LP F.model_Model_Get [a0, a1] H = s_model_Model_Get M.b.g M.c M.s Tryd.prog C a0 a1 H (endK Tryd.prog [.tmp 4, .tmp 5]) := by kernel_rfl

/-! ticketline.ticketlinelaw47.counter -/

noncomputable def s_law_counter (mg : GT) (mc : CT) (ms : ST) (P : Program) (C : CallF) (L0 : Value → Value → Value → AHeap → K → Res) (a0 : Value) (H : AHeap) (K0 : K) : Res :=
ms (fun k1 =>
L0 a0 (.int .i64 0) (.int .i64 0) H (blkK [0, 3] 0 k1)) (seqK (fun tT h1 =>
bareK (xbin P .lss T.int (.tmp 33) (.const (.int .i64 1)) (get tT 3) (.int .i64 1)) h1 fun t34 h2 =>
mg t34 false (fun o2 => o2 (get tT 3) h2) h2 fun t36 h3 =>
mg t34 false (fun o3 => bareK (xbin P .gtr T.int (.tmp 36) (.const (.int .i64 1099511627776)) t36 (.int .i64 1099511627776)) h3 o3) h3 fun t37 h4 =>
pickK t34 (.bool true) t37 fun t38 =>
mg t38 false (fun o4 => o4 (get tT 3) h4) h4 fun t40 h5 =>
mg t38 false (fun o5 => enterK C F.law_decimal [t40] h5 o5) h5 fun t41 h6 =>
mg t38 false (fun o6 => o6 (get tT 0) h6) h6 fun t42 h7 =>
mg t38 false (fun o7 => bareK (xbin P .neq T.string (.tmp 41) (.tmp 42) t41 t42) h7 o7) h7 fun t43 h8 =>
pickK t38 (.bool true) t43 fun t44 =>
mc t44 (fun k8 => k8 .ret [(2, (.int .i64 0))] h8) (fun k8 =>
k8 .normal [(3, (get tT 3))] h8) (seqK (fun tT_1 h9 =>
K0 .ret [(2, (get tT_1 3))] h9) K0)) K0)

noncomputable def s_law_counter_b0 (mg : GT) (mc : CT) (ms : ST) (P : Program) (C : CallF) (L0 : Value → Value → Value → AHeap → K → Res) (v0 : Value) (v3 : Value) (v4 : Value) (H : AHeap) (k : K) : Res :=
bareK (lenT v0) H fun t7 h1 =>
bareK (xbin P .lss T.int (.tmp 5) (.tmp 7) v4 t7) h1 fun t8 h2 =>
mc t8 (fun k2 => k2 .normal [(0, v0), (3, v3), (4, v4)] h2) (fun k2 =>
k2 (.exit 0) [(8, t8), (7, t7), (6, v0), (5, v4), (0, v0), (3, v3), (4, v4)] h2) (seqK (fun tT h3 =>
ms (fun k3 =>
bareK (xindex P T.string (get tT 0) (get tT 4)) h3 fun t13 h4 =>
bareK (xbin P .lss T.uint8 (.tmp 13) (.const (.int .u8 48)) t13 (.int .u8 48)) h4 fun t14 h5 =>
mg t14 false (fun o4 => o4 (get tT 0) h5) h5 fun t16 h6 =>
mg t14 false (fun o5 => o5 (get tT 4) h6) h6 fun t17 h7 =>
mg t14 false (fun o6 => bareK (xindex P T.string t16 t17) h7 o6) h7 fun t18 h8 =>
mg t14 false (fun o7 => bareK (xbin P .gtr T.uint8 (.tmp 18) (.const (.int .u8 57)) t18 (.int .u8 57)) h8 o7) h8 fun t19 h9 =>
pickK t14 (.bool true) t19 fun t20 =>
mg t20 false (fun o8 => o8 (get tT 4) h9) h9 fun t22 h10 =>
mg t20 false (fun o9 => bareK (xbin P .geq T.int (.tmp 22) (.const (.int .i64 13)) t22 (.int .i64 13)) h10 o9) h10 fun t23 h11 =>
pickK t20 (.bool true) t23 fun t24 =>
mc t24 (fun k10 => k10 .ret [(2, (.int .i64 0))] h11) (fun k10 =>
k10 .normal [(0, (get tT 0)), (3, (get tT 3)), (4, (get tT 4))] h11) (seqK (fun tT_1 h12 =>
bareK (xbin P .mul T.int (.const (.int .i64 10)) (.tmp 25) (.int .i64 10) (get tT_1 3)) h12 fun t26 h13 =>
bareK (xindex P T.string (get tT_1 0) (get tT_1 4)) h13 fun t29 h14 =>
bareK (xbin P .sub T.uint8 (.tmp 29) (.const (.int .u8 48)) t29 (.int .u8 48)) h14 fun t30 h15 =>
bothK (xconv P T.uint8 T.int t30 h15) fun t31 h16 =>
bareK (xbin P .add T.int (.tmp 26) (.tmp 31) t26 t31) h16 fun t32 h17 =>
k3 .normal [(0, (get tT_1 0)), (3, t32), (4, (get tT_1 4))] h17) (blkK [0, 3, 4] 1 k3))) (seqK (fun tT_2 h18 =>
bareK (xbin P .add T.int (.tmp 9) (.const (.int .i64 1)) (get tT_2 4) (.int .i64 1)) h18 fun t10 h19 =>
k .normal [(0, (get tT_2 0)), (3, (get tT_2 3)), (4, t10)] h19) (afterK [0, 3, 4] k))) (afterK [0, 3, 4] k))

theorem s_law_counter_eq (M : CombL) (C : CallF) (LP : LoopH) (a0 : Value) (H : AHeap) : dBodyL M Tryd.prog hints C LP F.law_counter [a0] H = s_law_counter M.b.g M.c M.s Tryd.prog C (fun v0 v3 v4 H k => loopL M Tryd.prog hints C LP F.law_counter 0 [(0, v0), (3, v3), (4, v4)] H k) a0 H (endK Tryd.prog [.tmp 2]) := by kernel_rfl

theorem s_law_counter_b0_eq (M : CombL) (C : CallF) (LP : LoopH) (v0 : Value) (v3 : Value) (v4 : Value) (H : AHeap) (k : K) : bodyL M Tryd.prog hints C LP F.law_counter 0 [(0, v0), (3, v3), (4, v4)] H (afterK [0, 3, 4] k) = s_law_counter_b0 M.b.g M.c M.s Tryd.prog C (fun v0 v3 v4 H k => loopL M Tryd.prog hints C LP F.law_counter 0 [(0, v0), (3, v3), (4, v4)] H k) v0 v3 v4 H k := by kernel_rfl

/-! ticketline.ids.Take -/

noncomputable def s_ids_Take (mg : GT) (mc : CT) (ms : ST) (P : Program) (C : CallF) (a0 : Value) (a1 : Value) (a2 : Value) (H : AHeap) (K0 : K) : Res :=
bothK (newv T.api_Block (.agg #[(.int .i64 0), (.int .i64 0)]) H) fun t6 h1 =>
ms (fun k1 =>
bareK (xbin P .eql T.p_model_Model (.tmp 12) (.const (.pointer none)) a0 (.pointer none)) h1 fun t13 h2 =>
mc t13 (fun k2 => bareK (bldS #[(.int .i64 0), (.int .i64 0)] [(0, 1), (1, 1)] []) h2 fun t14 h3 =>
quietK (stN 2 h3 t6 t14) fun _ h4 =>
k2 .ret [(6, t6), (7, (.int .i64 1))] h4) (fun k2 =>
bareK (xbin P .lss T.int (.tmp 16) (.const (.int .i64 1)) a2 (.int .i64 1)) h2 fun t17 h5 =>
mg t17 false (fun o3 => o3 a2 h5) h5 fun t19 h6 =>
mg t17 false (fun o4 => bareK (xbin P .gtr T.int (.tmp 19) (.const (.int .i64 1000)) t19 (.int .i64 1000)) h6 o4) h6 fun t20 h7 =>
pickK t17 (.bool true) t20 fun t21 =>
mc t21 (fun k5 => bareK (bldS #[(.int .i64 0), (.int .i64 0)] [(0, 1), (1, 1)] []) h7 fun t22 h8 =>
quietK (stN 2 h8 t6 t22) fun _ h9 =>
k5 .ret [(6, t6), (7, (.int .i64 2))] h9) (fun k5 =>
k5 .normal [(0, a0), (1, a1), (2, a2), (6, t6)] h7) (afterK [0, 1, 2, 6] k2)) (blkK [0, 1, 2, 6] 0 k1)) (seqK (fun tT h10 =>
enterK C F.ids_Next [(get tT 0), (get tT 1)] h10 fun t26 h11 =>
bareK (xextract t26 0) h11 fun t27 h12 =>
bareK (xextract t26 1) h12 fun t28 h13 =>
ms (fun k6 =>
bareK (xbin P .neq T.api_Errno (.tmp 30) (.const (.int .i64 0)) t28 (.int .i64 0)) h13 fun t31 h14 =>
mc t31 (fun k7 => bareK (bldS #[(.int .i64 0), (.int .i64 0)] [(0, 1), (1, 1)] []) h14 fun t32 h15 =>
quietK (stN 2 h15 (get tT 6) t32) fun _ h16 =>
k7 .ret [(6, (get tT 6)), (7, t28)] h16) (fun k7 =>
bareK (xbin P .add T.int (.tmp 35) (.tmp 36) t27 (get tT 2)) h14 fun t37 h17 =>
bareK (xbin P .gtr T.int (.tmp 37) (.const (.int .i64 1099511627776)) t37 (.int .i64 1099511627776)) h17 fun t38 h18 =>
mc t38 (fun k8 => bareK (bldS #[(.int .i64 0), (.int .i64 0)] [(0, 1), (1, 1)] []) h18 fun t39 h19 =>
quietK (stN 2 h19 (get tT 6) t39) fun _ h20 =>
k8 .ret [(6, (get tT 6)), (7, (.int .i64 17))] h20) (fun k8 =>
k8 .normal [(0, (get tT 0)), (1, (get tT 1)), (2, (get tT 2)), (6, (get tT 6)), (8, t27)] h18) (afterK [0, 1, 2, 6, 8] k7)) (blkK [0, 1, 2, 6, 8] 1 k6)) (seqK (fun tT_1 h21 =>
bareK (xbin P .add T.int (.tmp 42) (.tmp 43) (get tT_1 8) (get tT_1 2)) h21 fun t44 h22 =>
enterK C F.strconv_Itoa [t44] h22 fun t45 h23 =>
enterK C F.model_Model_Put [(get tT_1 0), (get tT_1 1), t45] h23 fun t46 h24 =>
bareK (xbin P .neq T.api_Errno (.tmp 47) (.const (.int .i64 0)) t46 (.int .i64 0)) h24 fun t48 h25 =>
mc t48 (fun k9 => bareK (bldS #[(.int .i64 0), (.int .i64 0)] [(0, 1), (1, 1)] []) h25 fun t49 h26 =>
quietK (stN 2 h26 (get tT_1 6) t49) fun _ h27 =>
k9 .ret [(6, (get tT_1 6)), (7, t46)] h27) (fun k9 =>
k9 .normal [(2, (get tT_1 2)), (6, (get tT_1 6)), (8, (get tT_1 8))] h25) (seqK (fun tT_2 h28 =>
bareK (bldS #[(.int .i64 0), (.int .i64 0)] [(0, 1), (1, 1)] [(0, (get tT_2 8)), (1, (get tT_2 2))]) h28 fun t53 h29 =>
quietK (stN 2 h29 (get tT_2 6) t53) fun _ h30 =>
K0 .ret [(6, (get tT_2 6)), (7, (.int .i64 0))] h30) K0)) K0)) K0)

theorem s_ids_Take_eq (M : CombL) (C : CallF) (LP : LoopH) (a0 : Value) (a1 : Value) (a2 : Value) (H : AHeap) : dBodyL M Tryd.prog hints C LP F.ids_Take [a0, a1, a2] H = s_ids_Take M.b.g M.c M.s Tryd.prog C a0 a1 a2 H (endK Tryd.prog [.cell 6 T.api_Block, .tmp 7]) := by kernel_rfl

/-! (*ticketline.model.Model).Len -/

noncomputable def s_model_Model_Len (mg : GT) (mc : CT) (ms : ST) (P : Program) (C : CallF) (a0 : Value) (H : AHeap) (K0 : K) : Res :=
bareK (xbin P .eql T.p_model_Model (.tmp 3) (.const (.pointer none)) a0 (.pointer none)) H fun t4 h1 =>
mc t4 (fun k1 => k1 .ret [(2, (.int .i64 0))] h1) (fun k1 =>
k1 .normal [(0, a0)] h1) (seqK (fun tT h2 =>
bareK (xnilCheck (get tT 0)) h2 fun t6 h3 =>
bareK (fad 0 t6) h3 fun t7 h4 =>
bareK (ld1 h4 t7) h4 fun t8 h5 =>
bareK (lenS t8) h5 fun t9 h6 =>
K0 .ret [(2, t9)] h6) K0)

theorem s_model_Model_Len_eq (M : CombL) (C : CallF) (LP : LoopH) (a0 : Value) (H : AHeap) : dBodyL M Tryd.prog hints C LP F.model_Model_Len [a0] H = s_model_Model_Len M.b.g M.c M.s Tryd.prog C a0 H (endK Tryd.prog [.tmp 2]) := by kernel_rfl

/-! slices.Equal[[]ticketline.api.Pair,ticketline.api.Pair] -/

noncomputable def s_slices_Equal_Pair (mg : GT) (mc : CT) (ms : ST) (P : Program) (C : CallF) (L0 : Value → Value → Value → Value → AHeap → K → Res) (a0 : Value) (a1 : Value) (H : AHeap) (K0 : K) : Res :=
bareK (lenS a0) H fun t7 h1 =>
bareK (lenS a1) h1 fun t9 h2 =>
bareK (xbin P .neq T.int (.tmp 7) (.tmp 9) t7 t9) h2 fun t10 h3 =>
mc t10 (fun k1 => k1 .ret [(4, (.bool false))] h3) (fun k1 =>
k1 .normal [(0, a0), (1, a1)] h3) (seqK (fun tT h4 =>
bareK (lenS (get tT 0)) h4 fun t12 h5 =>
ms (fun k2 =>
L0 (get tT 0) (get tT 1) t12 (.int .i64 0) h5 (blkK [] 0 k2)) (seqK (fun tT_1 h6 =>
K0 .ret [(4, (.bool true))] h6) K0)) K0)

noncomputable def s_slices_Equal_Pair_b0 (mg : GT) (mc : CT) (ms : ST) (P : Program) (C : CallF) (L0 : Value → Value → Value → Value → AHeap → K → Res) (v0 : Value) (v1 : Value) (v12 : Value) (v13 : Value) (H : AHeap) (k : K) : Res :=
bareK (xbin P .lss T.int (.tmp 13) (.tmp 12) v13 v12) H fun t14 h6 =>
mc t14 (fun k3 => k3 .normal [(0, v0), (1, v1), (12, v12), (13, v13)] h6) (fun k3 =>
k3 (.exit 0) [(14, t14), (0, v0), (1, v1), (12, v12), (13, v13)] h6) (seqK (fun tT h7 =>
ms (fun k4 =>
bareK (ixS 2 (get tT 0) (get tT 13)) h7 fun t18 h8 =>
bareK (ldN 2 h8 t18) h8 fun t19 h9 =>
bareK (ixS 2 (get tT 1) (get tT 13)) h9 fun t22 h10 =>
bareK (ldN 2 h10 t22) h10 fun t23 h11 =>
bareK (xbin P .neq T.api_Pair (.tmp 19) (.tmp 23) t19 t23) h11 fun t24 h12 =>
checkK true <|
mc t24 (fun k5 => k5 .ret [(4, (.bool false))] h12) (fun k5 =>
k5 .normal [(0, (get tT 0)), (1, (get tT 1)), (12, (get tT 12)), (13, (get tT 13))] h12) (blkK [0, 1, 12, 13] 1 k4)) (seqK (fun tT_1 h13 =>
bareK (xbin P .add T.int (.tmp 13) (.const (.int .i64 1)) (get tT_1 13) (.int .i64 1)) h13 fun t25 h14 =>
k .normal [(0, (get tT_1 0)), (1, (get tT_1 1)), (12, (get tT_1 12)), (13, t25)] h14) (afterK [0, 1, 12, 13] k))) (afterK [0, 1, 12, 13] k))

theorem s_slices_Equal_Pair_eq (M : CombL) (C : CallF) (LP : LoopH) (a0 : Value) (a1 : Value) (H : AHeap) : dBodyL M Tryd.prog hints C LP F.slices_Equal_Pair [a0, a1] H = s_slices_Equal_Pair M.b.g M.c M.s Tryd.prog C (fun v0 v1 v12 v13 H k => loopL M Tryd.prog hints C LP F.slices_Equal_Pair 0 [(0, v0), (1, v1), (12, v12), (13, v13)] H k) a0 a1 H (endK Tryd.prog [.tmp 4]) := by kernel_rfl

theorem s_slices_Equal_Pair_b0_eq (M : CombL) (C : CallF) (LP : LoopH) (v0 : Value) (v1 : Value) (v12 : Value) (v13 : Value) (H : AHeap) (k : K) : bodyL M Tryd.prog hints C LP F.slices_Equal_Pair 0 [(0, v0), (1, v1), (12, v12), (13, v13)] H (afterK [0, 1, 12, 13] k) = s_slices_Equal_Pair_b0 M.b.g M.c M.s Tryd.prog C (fun v0 v1 v12 v13 H k => loopL M Tryd.prog hints C LP F.slices_Equal_Pair 0 [(0, v0), (1, v1), (12, v12), (13, v13)] H k) v0 v1 v12 v13 H k := by kernel_rfl

/-! (*ticketline.model.Model).Pairs -/

noncomputable def s_model_Model_Pairs (mg : GT) (mc : CT) (ms : ST) (P : Program) (C : CallF) (a0 : Value) (H : AHeap) (K0 : K) : Res :=
bareK (xbin P .eql T.p_model_Model (.tmp 3) (.const (.pointer none)) a0 (.pointer none)) H fun t4 h1 =>
mc t4 (fun k1 => k1 .ret [(2, (.slice none 0 0))] h1) (fun k1 =>
k1 .normal [(0, a0)] h1) (seqK (fun tT h2 =>
bareK (xnilCheck (get tT 0)) h2 fun t6 h3 =>
bareK (fad 0 t6) h3 fun t7 h4 =>
bareK (ld1 h4 t7) h4 fun t8 h5 =>
enterK C F.slices_Clone_Pair [t8] h5 fun t9 h6 =>
K0 .ret [(2, t9)] h6) K0)

theorem s_model_Model_Pairs_eq (M : CombL) (C : CallF) (LP : LoopH) (a0 : Value) (H : AHeap) : dBodyL M Tryd.prog hints C LP F.model_Model_Pairs [a0] H = s_model_Model_Pairs M.b.g M.c M.s Tryd.prog C a0 H (endK Tryd.prog [.tmp 2]) := by kernel_rfl

/-! ticketline.ticketlinelaw47.decimal -/

noncomputable def s_law_decimal (mg : GT) (mc : CT) (ms : ST) (P : Program) (C : CallF) (a0 : Value) (H : AHeap) (K0 : K) : Res :=
bareK (xbin P .lss T.int (.tmp 3) (.const (.int .i64 10)) a0 (.int .i64 10)) H fun t4 h1 =>
mc t4 (fun k1 => bareK (xbin P .add T.int (.const (.int .i64 48)) (.tmp 5) (.int .i64 48) a0) h1 fun t6 h2 =>
bothK (xconv P T.int T.uint8 t6 h2) fun t7 h3 =>
bothK (bldL T.uint8 [(.int .u8 0)] 1 [(0, t7)] h3) fun t8 h4 =>
bothK (xconv P T.sl_uint8 T.string t8 h4) fun t9 h5 =>
k1 .ret [(2, t9)] h5) (fun k1 =>
k1 .normal [(0, a0)] h1) (seqK (fun tT h6 =>
bareK (xbin P .quo T.int (.tmp 10) (.const (.int .i64 10)) (get tT 0) (.int .i64 10)) h6 fun t11 h7 =>
enterK C F.law_decimal [t11] h7 fun t12 h8 =>
bareK (xbin P .rem T.int (.tmp 13) (.const (.int .i64 10)) (get tT 0) (.int .i64 10)) h8 fun t14 h9 =>
bareK (xbin P .add T.int (.const (.int .i64 48)) (.tmp 14) (.int .i64 48) t14) h9 fun t15 h10 =>
bothK (xconv P T.int T.uint8 t15 h10) fun t16 h11 =>
bothK (bldL T.uint8 [(.int .u8 0)] 1 [(0, t16)] h11) fun t17 h12 =>
bothK (xconv P T.sl_uint8 T.string t17 h12) fun t18 h13 =>
bareK (xbin P .add T.string (.tmp 12) (.tmp 18) t12 t18) h13 fun t19 h14 =>
checkK (okV (some true) none h7 h8 h8 h8 && (okV (some true) none h7 h8 h8 h9 && (okV (some true) none h7 h8 h9 h10 && (okV (some true) (blockOf t15) h7 h8 h10 h11 && (okV (some true) none h7 h8 h11 h12 && (okV (some true) (blockOf t17) h7 h8 h12 h13 && true)))))) <|
K0 .ret [(2, t19)] h14) K0)

theorem s_law_decimal_eq (M : CombL) (C : CallF) (LP : LoopH) (a0 : Value) (H : AHeap) : dBodyL M Tryd.prog hints C LP F.law_decimal [a0] H = s_law_decimal M.b.g M.c M.s Tryd.prog C a0 H (endK Tryd.prog [.tmp 2]) := by kernel_rfl

/-! (*ticketline.ids.Giver).none -/

noncomputable def s_ids_Giver_none (mg : GT) (mc : CT) (ms : ST) (P : Program) (C : CallF) (a0 : Value) (H : AHeap) (K0 : K) : Res :=
bareK (xbin P .eql T.p_ids_Giver (.tmp 3) (.const (.pointer none)) a0 (.pointer none)) H fun t4 h1 =>
mg t4 false (fun o1 => o1 a0 h1) h1 fun t6 h2 =>
mg t4 false (fun o2 => bareK (xnilCheck t6) h2 o2) h2 fun t7 h3 =>
mg t4 false (fun o3 => bareK (fad 0 t7) h3 o3) h3 fun t8 h4 =>
mg t4 false (fun o4 => bareK (ld1 h4 t8) h4 o4) h4 fun t9 h5 =>
mg t4 false (fun o5 => bareK (xbin P .eql T.int (.tmp 9) (.const (.int .i64 0)) t9 (.int .i64 0)) h5 o5) h5 fun t10 h6 =>
pickK t4 (.bool true) t10 fun t11 =>
K0 .ret [(2, t11)] h6

theorem s_ids_Giver_none_eq (M : CombL) (C : CallF) (LP : LoopH) (a0 : Value) (H : AHeap) : dBodyL M Tryd.prog hints C LP F.ids_Giver_none [a0] H = s_ids_Giver_none M.b.g M.c M.s Tryd.prog C a0 H (endK Tryd.prog [.tmp 2]) := by kernel_rfl

/-! (*ticketline.ids.Giver).set -/

noncomputable def s_ids_Giver_set (mg : GT) (mc : CT) (ms : ST) (P : Program) (C : CallF) (a0 : Value) (a1 : Value) (a2 : Value) (H : AHeap) (K0 : K) : Res :=
bothK (newv T.api_Block a2 H) fun t5 h1 =>
bareK (fad 1 t5) h1 fun t6 h2 =>
bareK (ld1 h2 t6) h2 fun t7 h3 =>
bareK (xbin P .eql T.int (.tmp 7) (.const (.int .i64 0)) t7 (.int .i64 0)) h3 fun t8 h4 =>
mc t8 (fun k1 => bareK (xnilCheck a0) h4 fun t10 h5 =>
bareK (fad 1 t10) h5 fun t11 h6 =>
bareK (ld1 h6 t11) h6 fun t12 h7 =>
nextK C h7 (xbuiltin P .delete [T.map_string_api_Block, T.string] [t12, a1] h7) fun _ h8 =>
k1 .ret [] h8) (fun k1 =>
k1 .normal [(0, a0), (1, a1), (5, t5)] h4) (seqK (fun tT h9 =>
bareK (xnilCheck (get tT 0)) h9 fun t15 h10 =>
bareK (fad 1 t15) h10 fun t16 h11 =>
bareK (ld1 h11 t16) h11 fun t17 h12 =>
bareK (ldN 2 h12 (get tT 5)) h12 fun t19 h13 =>
quietK (xmapUpdate P T.map_string_api_Block t17 (get tT 1) t19 h13) fun _ h14 =>
checkK true <|
K0 .normal ((19, t19) :: (18, (get tT 1)) :: (17, t17) :: (16, t16) :: (15, t15) :: (14, (get tT 0)) :: tT) h14) K0)

theorem s_ids_Giver_set_eq (M : CombL) (C : CallF) (LP : LoopH) (a0 : Value) (a1 : Value) (a2 : Value) (H : AHeap) : dBodyL M Tryd.prog hints C LP F.ids_Giver_set [a0, a1, a2] H = s_ids_Giver_set M.b.g M.c M.s Tryd.prog C a0 a1 a2 H (endK Tryd.prog []) := by kernel_rfl

/-! slices.Sorted[string] -/

noncomputable def s_slices_Sorted_string (mg : GT) (mc : CT) (ms : ST) (P : Program) (C : CallF) (a0 : Value) (H : AHeap) (K0 : K) : Res :=
enterK C F.slices_Collect_string [a0] H fun t5 h1 =>
enterK C F.slices_Sort_string [t5] h1 fun t7 h2 =>
K0 .ret [(2, t5)] h2

theorem s_slices_Sorted_string_eq (M : CombL) (C : CallF) (LP : LoopH) (a0 : Value) (H : AHeap) : dBodyL M Tryd.prog hints C LP F.slices_Sorted_string [a0] H = s_slices_Sorted_string M.b.g M.c M.s Tryd.prog C a0 H (endK Tryd.prog [.tmp 2]) := by kernel_rfl

/-! maps.Keys[map[string]ticketline.api.Block,string,ticketline.api.Block] -/

noncomputable def s_maps_Keys_Block (mg : GT) (mc : CT) (ms : ST) (P : Program) (C : CallF) (a0 : Value) (H : AHeap) (K0 : K) : Res :=
bothK (newv T.map_string_api_Block a0 H) fun t1 h1 =>
K0 .ret [(2, (.func (.func F.maps_Keys_Block_1) #[] #[t1]))] h1

theorem s_maps_Keys_Block_eq (M : CombL) (C : CallF) (LP : LoopH) (a0 : Value) (H : AHeap) : dBodyL M Tryd.prog hints C LP F.maps_Keys_Block [a0] H = s_maps_Keys_Block M.b.g M.c M.s Tryd.prog C a0 H (endK Tryd.prog [.tmp 2]) := by kernel_rfl

/-! strconv.Itoa -/

noncomputable def s_strconv_Itoa (mg : GT) (mc : CT) (ms : ST) (P : Program) (C : CallF) (a0 : Value) (H : AHeap) (K0 : K) : Res :=
enterK C F.internal_strconv_Itoa [a0] H fun t4 h1 =>
K0 .ret [(2, t4)] h1

theorem s_strconv_Itoa_eq (M : CombL) (C : CallF) (LP : LoopH) (a0 : Value) (H : AHeap) : dBodyL M Tryd.prog hints C LP F.strconv_Itoa [a0] H = s_strconv_Itoa M.b.g M.c M.s Tryd.prog C a0 H (endK Tryd.prog [.tmp 2]) := by kernel_rfl

/-! ticketline.ids.check -/

noncomputable def s_ids_check (mg : GT) (mc : CT) (ms : ST) (P : Program) (C : CallF) (a0 : Value) (a1 : Value) (H : AHeap) (K0 : K) : Res :=
bareK (xbin P .eql T.p_model_Model (.tmp 6) (.const (.pointer none)) a0 (.pointer none)) H fun t7 h1 =>
mc t7 (fun k1 => k1 .ret [(4, (.int .i64 1))] h1) (fun k1 =>
k1 .normal [(1, a1)] h1) (seqK (fun tT h2 =>
bothK (newv T.model_Model (.agg #[(.slice none 0 0)]) h2) fun t5 h3 =>
enterK C F.model_Model_Put [t5, (get tT 1), (.string (mk []))] h3 fun t9 h4 =>
K0 .ret [(4, t9)] h4) K0)

theorem s_ids_check_eq (M : CombL) (C : CallF) (LP : LoopH) (a0 : Value) (a1 : Value) (H : AHeap) : dBodyL M Tryd.prog hints C LP F.ids_check [a0, a1] H = s_ids_check M.b.g M.c M.s Tryd.prog C a0 a1 H (endK Tryd.prog [.tmp 4]) := by kernel_rfl

/-! strconv.Atoi -/

noncomputable def s_strconv_Atoi (mg : GT) (mc : CT) (ms : ST) (P : Program) (C : CallF) (a0 : Value) (H : AHeap) (K0 : K) : Res :=
enterK C F.internal_strconv_Atoi [a0] H fun t8 h1 =>
bareK (xextract t8 0) h1 fun t9 h2 =>
bareK (xextract t8 1) h2 fun t10 h3 =>
bareK (xbin P .neq T.error (.tmp 11) (.const .nilIface) t10 .nilIface) h3 fun t12 h4 =>
mc t12 (fun k1 => enterK C F.strconv_toError [(.string (mk [65, 116, 111, 105])), a0, (.int .i64 0), (.int .i64 0), t10] h4 fun t16 h5 =>
k1 .ret [(2, t9), (3, t16)] h5) (fun k1 =>
k1 .normal [(4, t9)] h4) (seqK (fun tT h6 =>
K0 .ret [(2, (get tT 4)), (3, .nilIface)] h6) K0)

theorem s_strconv_Atoi_eq (M : CombL) (C : CallF) (LP : LoopH) (a0 : Value) (H : AHeap) : dBodyL M Tryd.prog hints C LP F.strconv_Atoi [a0] H = s_strconv_Atoi M.b.g M.c M.s Tryd.prog C a0 H (endK Tryd.prog [.tmp 2, .tmp 3]) := by kernel_rfl

/-! ticketline.model.check -/

noncomputable def s_model_check (mg : GT) (mc : CT) (ms : ST) (P : Program) (C : CallF) (a0 : Value) (a1 : Value) (H : AHeap) (K0 : K) : Res :=
ms (fun k1 =>
bareK (xbin P .eql T.string (.tmp 6) (.const (.string (mk []))) a0 (.string (mk []))) H fun t7 h1 =>
mc t7 (fun k2 => k2 .ret [(4, (.int .i64 2))] h1) (fun k2 =>
bareK (lenT a0) h1 fun t10 h2 =>
bareK (xbin P .gtr T.int (.tmp 10) (.const (.int .i64 24)) t10 (.int .i64 24)) h2 fun t11 h3 =>
mg t11 false (fun o3 => o3 a1 h3) h3 fun t13 h4 =>
mg t11 false (fun o4 => enterK C F.slices_ContainsFunc_string [t13, (.func (.func F.model_check_1) #[] #[])] h4 o4) h4 fun t14 h5 =>
pickK t11 (.bool true) t14 fun t15 =>
mc t15 (fun k5 => k5 .ret [(4, (.int .i64 5))] h5) (fun k5 =>
k5 .normal [] h5) (afterK [] k2)) (blkK [] 0 k1)) (seqK (fun tT h6 =>
K0 .ret [(4, (.int .i64 0))] h6) K0)

theorem s_model_check_eq (M : CombL) (C : CallF) (LP : LoopH) (a0 : Value) (a1 : Value) (H : AHeap) : dBodyL M Tryd.prog hints C LP F.model_check [a0, a1] H = s_model_check M.b.g M.c M.s Tryd.prog C a0 a1 H (endK Tryd.prog [.tmp 4]) := by kernel_rfl

/-! (*ticketline.model.Model).place -/

noncomputable def s_model_Model_place (mg : GT) (mc : CT) (ms : ST) (P : Program) (C : CallF) (a0 : Value) (a1 : Value) (H : AHeap) (K0 : K) : Res :=
bareK (xnilCheck a0) H fun t7 h1 =>
bareK (fad 0 t7) h1 fun t8 h2 =>
bareK (ld1 h2 t8) h2 fun t9 h3 =>
enterK C F.slices_BinarySearchFunc_string [t9, a1, (.func (.func F.model_Model_place_1) #[] #[])] h3 fun t11 h4 =>
bareK (xextract t11 0) h4 fun t12 h5 =>
bareK (xextract t11 1) h5 fun t13 h6 =>
K0 .ret [(4, t12), (5, t13)] h6

theorem s_model_Model_place_eq (M : CombL) (C : CallF) (LP : LoopH) (a0 : Value) (a1 : Value) (H : AHeap) : dBodyL M Tryd.prog hints C LP F.model_Model_place [a0, a1] H = s_model_Model_place M.b.g M.c M.s Tryd.prog C a0 a1 H (endK Tryd.prog [.tmp 4, .tmp 5]) := by kernel_rfl

/-! slices.Insert[[]ticketline.api.Pair,ticketline.api.Pair] -/

noncomputable def s_slices_Insert_Pair (mg : GT) (mc : CT) (ms : ST) (P : Program) (C : CallF) (a0 : Value) (a1 : Value) (a2 : Value) (H : AHeap) (K0 : K) : Res :=
bareK (slS T.api_Pair 2 a0 (some a1) none none H) H fun t12 h1 =>
bareK (lenS a2) h1 fun t14 h2 =>
bareK (xbin P .eql T.int (.tmp 15) (.const (.int .i64 0)) t14 (.int .i64 0)) h2 fun t16 h3 =>
mc t16 (fun k1 => k1 .ret [(6, a0)] h3) (fun k1 =>
k1 .normal [(0, a0), (1, a1), (2, a2), (7, t14)] h3) (seqK (fun tT h4 =>
bareK (lenS (get tT 0)) h4 fun t19 h5 =>
bareK (xbin P .eql T.int (.tmp 20) (.tmp 21) (get tT 1) t19) h5 fun t22 h6 =>
mc t22 (fun k2 => bothK (app T.api_Pair 2 32 (get tT 0) (srcS 2 (get tT 2) h6) h6) fun t25 h7 =>
k2 .ret [(6, t25)] h7) (fun k2 =>
k2 .normal [(0, (get tT 0)), (1, (get tT 1)), (2, (get tT 2)), (7, (get tT 7)), (8, t19)] h6) (seqK (fun tT_1 h8 =>
bareK (xbin P .add T.int (.tmp 26) (.tmp 27) (get tT_1 8) (get tT_1 7)) h8 fun t28 h9 =>
nextK C h9 (xbuiltin P .cap [T.sl_api_Pair] [(get tT_1 0)] h9) fun t30 h10 =>
bareK (xbin P .gtr T.int (.tmp 28) (.tmp 30) t28 t30) h10 fun t31 h11 =>
mc t31 (fun k3 => bareK (slS T.api_Pair 2 (get tT_1 0) none (some (get tT_1 1)) none h11) h11 fun t34 h12 =>
bareK (xbin P .add T.int (.tmp 35) (.tmp 36) (get tT_1 8) (get tT_1 7)) h12 fun t37 h13 =>
bareK (xbin P .sub T.int (.tmp 37) (.tmp 38) t37 (get tT_1 1)) h13 fun t39 h14 =>
bothK (app T.api_Pair 2 32 t34 (srcZ [(.string (mk [])), (.string (mk []))] 32 t39) h14) fun t40 h15 =>
bareK (slS T.api_Pair 2 t40 (some (get tT_1 1)) none none h15) h15 fun t43 h16 =>
bothK (cpy 2 t43 (get tT_1 2) h16) fun t45 h17 =>
bareK (xbin P .add T.int (.tmp 47) (.tmp 48) (get tT_1 1) (get tT_1 7)) h17 fun t49 h18 =>
bareK (slS T.api_Pair 2 t40 (some t49) none none h18) h18 fun t50 h19 =>
bareK (slS T.api_Pair 2 (get tT_1 0) (some (get tT_1 1)) none none h19) h19 fun t53 h20 =>
bothK (cpy 2 t50 t53 h20) fun t54 h21 =>
checkK true <|
k3 .ret [(6, t40)] h21) (fun k3 =>
k3 .normal [(0, (get tT_1 0)), (1, (get tT_1 1)), (2, (get tT_1 2)), (7, (get tT_1 7)), (8, (get tT_1 8))] h11) (seqK (fun tT_2 h22 =>
bareK (xbin P .add T.int (.tmp 57) (.tmp 58) (get tT_2 8) (get tT_2 7)) h22 fun t59 h23 =>
bareK (slS T.api_Pair 2 (get tT_2 0) none (some t59) none h23) h23 fun t60 h24 =>
bareK (xbin P .add T.int (.tmp 63) (.tmp 64) (get tT_2 1) (get tT_2 7)) h24 fun t65 h25 =>
bareK (slS T.api_Pair 2 t60 (some t65) none none h25) h25 fun t66 h26 =>
bareK (xext P Tryd.f56 [(get tT_2 2), t66] h26) h26 fun t67 h27 =>
bareK (xun P .not t67) h27 fun t68 h28 =>
mc t68 (fun k4 => bareK (xbin P .add T.int (.tmp 70) (.tmp 71) (get tT_2 1) (get tT_2 7)) h28 fun t72 h29 =>
bareK (slS T.api_Pair 2 t60 (some t72) none none h29) h29 fun t73 h30 =>
bareK (slS T.api_Pair 2 t60 (some (get tT_2 1)) none none h30) h30 fun t76 h31 =>
bothK (cpy 2 t73 t76 h31) fun t77 h32 =>
checkK true <|
bareK (slS T.api_Pair 2 t60 (some (get tT_2 1)) none none h32) h32 fun t80 h33 =>
bothK (cpy 2 t80 (get tT_2 2) h33) fun t82 h34 =>
k4 .ret [(6, t60)] h34) (fun k4 =>
k4 .normal [(0, t60), (1, (get tT_2 1)), (2, (get tT_2 2)), (7, (get tT_2 7)), (8, (get tT_2 8))] h28) (seqK (fun tT_3 h35 =>
bareK (slS T.api_Pair 2 (get tT_3 0) (some (get tT_3 8)) none none h35) h35 fun t86 h36 =>
bothK (cpy 2 t86 (get tT_3 2) h36) fun t88 h37 =>
bareK (slS T.api_Pair 2 (get tT_3 0) (some (get tT_3 1)) none none h37) h37 fun t91 h38 =>
enterK C F.slices_rotateRight_Pair [t91, (get tT_3 7)] h38 fun t93 h39 =>
K0 .ret [(6, (get tT_3 0))] h39) K0)) K0)) K0)) K0)

theorem s_slices_Insert_Pair_eq (M : CombL) (C : CallF) (LP : LoopH) (a0 : Value) (a1 : Value) (a2 : Value) (H : AHeap) : dBodyL M Tryd.prog hints C LP F.slices_Insert_Pair [a0, a1, a2] H = s_slices_Insert_Pair M.b.g M.c M.s Tryd.prog C a0 a1 a2 H (endK Tryd.prog [.tmp 6]) := by kernel_rfl

/-! slices.Clone[[]ticketline.api.Pair,ticketline.api.Pair] -/

noncomputable def s_slices_Clone_Pair (mg : GT) (mc : CT) (ms : ST) (P : Program) (C : CallF) (a0 : Value) (H : AHeap) (K0 : K) : Res :=
bareK (xbin P .eql T.sl_api_Pair (.tmp 3) (.const (.slice none 0 0)) a0 (.slice none 0 0)) H fun t4 h1 =>
mc t4 (fun k1 => k1 .ret [(2, (.slice none 0 0))] h1) (fun k1 =>
k1 .normal [(0, a0)] h1) (seqK (fun tT h2 =>
bothK (bldL T.api_Pair [(.string (mk [])), (.string (mk []))] 0 [] h2) fun t5 h3 =>
bothK (app T.api_Pair 2 32 t5 (srcS 2 (get tT 0) h3) h3) fun t7 h4 =>
K0 .ret [(2, t7)] h4) K0)

theorem s_slices_Clone_Pair_eq (M : CombL) (C : CallF) (LP : LoopH) (a0 : Value) (H : AHeap) : dBodyL M Tryd.prog hints C LP F.slices_Clone_Pair [a0] H = s_slices_Clone_Pair M.b.g M.c M.s Tryd.prog C a0 H (endK Tryd.prog [.tmp 2]) := by kernel_rfl

/-! slices.Collect[string] -/

noncomputable def s_slices_Collect_string (mg : GT) (mc : CT) (ms : ST) (P : Program) (C : CallF) (a0 : Value) (H : AHeap) (K0 : K) : Res :=
enterK C F.slices_AppendSeq_string [(.slice none 0 0), a0] H fun t4 h1 =>
K0 .ret [(2, t4)] h1

theorem s_slices_Collect_string_eq (M : CombL) (C : CallF) (LP : LoopH) (a0 : Value) (H : AHeap) : dBodyL M Tryd.prog hints C LP F.slices_Collect_string [a0] H = s_slices_Collect_string M.b.g M.c M.s Tryd.prog C a0 H (endK Tryd.prog [.tmp 2]) := by kernel_rfl

/-! slices.Sort[[]string,string] -/

noncomputable def s_slices_Sort_string (mg : GT) (mc : CT) (ms : ST) (P : Program) (C : CallF) (a0 : Value) (H : AHeap) (K0 : K) : Res :=
bareK (lenS a0) H fun t4 h1 =>
bothK (xconv P T.int T.uint t4 h1) fun t8 h2 =>
enterK C F.math_bits_Len [t8] h2 fun t9 h3 =>
enterK C F.slices_pdqsortOrdered_string [a0, (.int .i64 0), t4, t9] h3 fun t10 h4 =>
K0 .normal [(10, t10), (9, t9), (8, t8), (7, t4), (6, t4), (5, a0), (2, t4), (4, t4), (3, a0), (0, a0)] h4

theorem s_slices_Sort_string_eq (M : CombL) (C : CallF) (LP : LoopH) (a0 : Value) (H : AHeap) : dBodyL M Tryd.prog hints C LP F.slices_Sort_string [a0] H = s_slices_Sort_string M.b.g M.c M.s Tryd.prog C a0 H (endK Tryd.prog []) := by kernel_rfl

/-! internal.strconv.Itoa -/

noncomputable def s_internal_strconv_Itoa (mg : GT) (mc : CT) (ms : ST) (P : Program) (C : CallF) (a0 : Value) (H : AHeap) (K0 : K) : Res :=
enterK C F.internal_strconv_FormatInt [a0, (.int .i64 10)] H fun t4 h1 =>
K0 .ret [(2, t4)] h1

theorem s_internal_strconv_Itoa_eq (M : CombL) (C : CallF) (LP : LoopH) (a0 : Value) (H : AHeap) : dBodyL M Tryd.prog hints C LP F.internal_strconv_Itoa [a0] H = s_internal_strconv_Itoa M.b.g M.c M.s Tryd.prog C a0 H (endK Tryd.prog [.tmp 2]) := by kernel_rfl

/-! internal.strconv.Atoi -/

noncomputable def s_internal_strconv_Atoi (mg : GT) (mc : CT) (ms : ST) (P : Program) (C : CallF) (L0 : Value → Value → Value → Value → Value → AHeap → K → Res) (a0 : Value) (H : AHeap) (K0 : K) : Res :=
bareK (lenT a0) H fun t12 h1 =>
mg (.bool false) true (fun o1 => o1 t12 h1) h1 fun t14 h2 =>
mg (.bool false) true (fun o2 => bareK (xbin P .lss T.int (.const (.int .i64 0)) (.tmp 14) (.int .i64 0) t14) h2 o2) h2 fun t15 h3 =>
mg (.bool false) true (fun o3 => o3 t15 h3) h3 fun t16 h4 =>
mg t16 true (fun o4 => o4 t12 h4) h4 fun t17 h5 =>
mg t16 true (fun o5 => bareK (xbin P .lss T.int (.tmp 17) (.const (.int .i64 10)) t17 (.int .i64 10)) h5 o5) h5 fun t18 h6 =>
mg (.bool false) true (fun o6 => pickK t16 t18 (.bool false) fun v => o6 v h6) h6 fun t19 h7 =>
pickK (.bool false) t19 (.bool false) fun t20 =>
mg t20 false (fun o7 => o7 (.bool true) h7) h7 fun t22 h8 =>
mg t22 true (fun o8 => o8 t12 h8) h8 fun t23 h9 =>
mg t22 true (fun o9 => bareK (xbin P .lss T.int (.const (.int .i64 0)) (.tmp 23) (.int .i64 0) t23) h9 o9) h9 fun t24 h10 =>
mg t22 true (fun o10 => o10 t24 h10) h10 fun t25 h11 =>
mg t25 true (fun o11 => o11 t12 h11) h11 fun t26 h12 =>
mg t25 true (fun o12 => bareK (xbin P .lss T.int (.tmp 26) (.const (.int .i64 19)) t26 (.int .i64 19)) h12 o12) h12 fun t27 h13 =>
mg t22 true (fun o13 => pickK t25 t27 (.bool false) fun v => o13 v h13) h13 fun t28 h14 =>
mg t20 false (fun o14 => pickK t22 t28 (.bool false) fun v => o14 v h14) h14 fun t29 h15 =>
pickK t20 (.bool true) t29 fun t30 =>
mc t30 (fun k15 => bareK (xindex P T.string a0 (.int .i64 0)) h15 fun t33 h16 =>
bareK (xbin P .eql T.uint8 (.tmp 33) (.const (.int .u8 45)) t33 (.int .u8 45)) h16 fun t34 h17 =>
mg t34 false (fun o16 => o16 a0 h17) h17 fun t36 h18 =>
mg t34 false (fun o17 => bareK (xindex P T.string t36 (.int .i64 0)) h18 o17) h18 fun t37 h19 =>
mg t34 false (fun o18 => bareK (xbin P .eql T.uint8 (.tmp 37) (.const (.int .u8 43)) t37 (.int .u8 43)) h19 o18) h19 fun t38 h20 =>
pickK t34 (.bool true) t38 fun t39 =>
mc t39 (fun k19 => bareK (slT a0 (some (.int .i64 1)) none) h20 fun t41 h21 =>
bareK (lenT t41) h21 fun t43 h22 =>
bareK (xbin P .lss T.int (.tmp 43) (.const (.int .i64 1)) t43 (.int .i64 1)) h22 fun t44 h23 =>
mc t44 (fun k20 => k20 .ret [(2, (.int .i64 0)), (3, (.iface T.internal_strconv_Error (.int .i64 2)))] h23) (fun k20 =>
k20 .normal [(0, t41), (5, a0)] h23) (afterK [0, 5] k19)) (fun k19 =>
k19 .normal [(0, a0), (5, a0)] h20) (seqK (fun tT h24 =>
bothK (xconv P T.string T.sl_uint8 (get tT 0) h24) fun t47 h25 =>
bareK (lenS t47) h25 fun t48 h26 =>
ms (fun k21 =>
L0 (get tT 5) (.int .i64 0) t47 t48 (.int .i64 0) h26 (blkK [5, 6] 0 k21)) (seqK (fun tT_1 h27 =>
bareK (xindex P T.string (get tT_1 5) (.int .i64 0)) h27 fun t65 h28 =>
bareK (xbin P .eql T.uint8 (.tmp 65) (.const (.int .u8 45)) t65 (.int .u8 45)) h28 fun t66 h29 =>
mc t66 (fun k22 => bareK (xun P .neg (get tT_1 6)) h29 fun t68 h30 =>
k22 .normal [(6, t68)] h30) (fun k22 =>
k22 .normal [(6, (get tT_1 6))] h29) (seqK (fun tT_2 h31 =>
k15 .ret [(2, (get tT_2 6)), (3, .nilIface)] h31) (afterK [0] k15))) (afterK [0] k15))) (afterK [0] k15))) (fun k15 =>
k15 .normal [(0, a0)] h15) (seqK (fun tT_3 h32 =>
enterK C F.internal_strconv_ParseInt [(get tT_3 0), (.int .i64 10), (.int .i64 0)] h32 fun t72 h33 =>
bareK (xextract t72 0) h33 fun t73 h34 =>
bareK (xextract t72 1) h34 fun t74 h35 =>
K0 .ret [(2, t73), (3, t74)] h35) K0)

noncomputable def s_internal_strconv_Atoi_b0 (mg : GT) (mc : CT) (ms : ST) (P : Program) (C : CallF) (L0 : Value → Value → Value → Value → Value → AHeap → K → Res) (v5 : Value) (v6 : Value) (v47 : Value) (v48 : Value) (v49 : Value) (H : AHeap) (k : K) : Res :=
bareK (xbin P .lss T.int (.tmp 49) (.tmp 48) v49 v48) H fun t50 h27 =>
mc t50 (fun k22 => k22 .normal [(5, v5), (6, v6), (47, v47), (48, v48), (49, v49)] h27) (fun k22 =>
k22 (.exit 0) [(50, t50), (5, v5), (6, v6), (47, v47), (48, v48), (49, v49)] h27) (seqK (fun tT h28 =>
ms (fun k23 =>
bareK (ixS 1 (get tT 47) (get tT 49)) h28 fun t51 h29 =>
bareK (ld1 h29 t51) h29 fun t52 h30 =>
bareK (xbin P .sub T.uint8 (.tmp 53) (.const (.int .u8 48)) t52 (.int .u8 48)) h30 fun t54 h31 =>
bareK (xbin P .gtr T.uint8 (.tmp 55) (.const (.int .u8 9)) t54 (.int .u8 9)) h31 fun t56 h32 =>
mc t56 (fun k24 => k24 .ret [(2, (.int .i64 0)), (3, (.iface T.internal_strconv_Error (.int .i64 2)))] h32) (fun k24 =>
k24 .normal [(5, (get tT 5)), (6, (get tT 6)), (8, t54), (47, (get tT 47)), (48, (get tT 48)), (49, (get tT 49))] h32) (seqK (fun tT_1 h33 =>
bareK (xbin P .mul T.int (.tmp 58) (.const (.int .i64 10)) (get tT_1 6) (.int .i64 10)) h33 fun t59 h34 =>
bothK (xconv P T.uint8 T.int (get tT_1 8) h34) fun t61 h35 =>
bareK (xbin P .add T.int (.tmp 59) (.tmp 61) t59 t61) h35 fun t62 h36 =>
k23 .normal [(5, (get tT_1 5)), (6, t62), (47, (get tT_1 47)), (48, (get tT_1 48)), (49, (get tT_1 49))] h36) (blkK [5, 6, 47, 48, 49] 1 k23))) (seqK (fun tT_2 h37 =>
bareK (xbin P .add T.int (.tmp 49) (.const (.int .i64 1)) (get tT_2 49) (.int .i64 1)) h37 fun t63 h38 =>
k .normal [(5, (get tT_2 5)), (6, (get tT_2 6)), (47, (get tT_2 47)), (48, (get tT_2 48)), (49, t63)] h38) (afterK [5, 6, 47, 48, 49] k))) (afterK [5, 6, 47, 48, 49] k))

theorem s_internal_strconv_Atoi_eq (M : CombL) (C : CallF) (LP : LoopH) (a0 : Value) (H : AHeap) : dBodyL M Tryd.prog hints C LP F.internal_strconv_Atoi [a0] H = s_internal_strconv_Atoi M.b.g M.c M.s Tryd.prog C (fun v5 v6 v47 v48 v49 H k => loopL M Tryd.prog hints C LP F.internal_strconv_Atoi 0 [(5, v5), (6, v6), (47, v47), (48, v48), (49, v49)] H k) a0 H (endK Tryd.prog [.tmp 2, .tmp 3]) := by kernel_rfl

theorem s_internal_strconv_Atoi_b0_eq (M : CombL) (C : CallF) (LP : LoopH) (v5 : Value) (v6 : Value) (v47 : Value) (v48 : Value) (v49 : Value) (H : AHeap) (k : K) : bodyL M Tryd.prog hints C LP F.internal_strconv_Atoi 0 [(5, v5), (6, v6), (47, v47), (48, v48), (49, v49)] H (afterK [5, 6, 47, 48, 49] k) = s_internal_strconv_Atoi_b0 M.b.g M.c M.s Tryd.prog C (fun v5 v6 v47 v48 v49 H k => loopL M Tryd.prog hints C LP F.internal_strconv_Atoi 0 [(5, v5), (6, v6), (47, v47), (48, v48), (49, v49)] H k) v5 v6 v47 v48 v49 H k := by kernel_rfl

/-! strconv.toError -/

noncomputable def s_strconv_toError (mg : GT) (mc : CT) (ms : ST) (P : Program) (C : CallF) (a0 : Value) (a1 : Value) (a2 : Value) (a3 : Value) (a4 : Value) (H : AHeap) (K0 : K) : Res :=
ms (fun k1 =>
bareK (xbin P .eql T.error (.tmp 11) (.tmp 13) a4 (.iface T.internal_strconv_Error (.int .i64 2))) H fun t14 h1 =>
mc t14 (fun k2 => enterK C F.strconv_syntaxError [a0, a1] h1 fun t17 h2 =>
k2 .ret [(10, (.iface T.p_strconv_NumError t17))] h2) (fun k2 =>
bareK (xbin P .eql T.error (.tmp 11) (.tmp 20) a4 (.iface T.internal_strconv_Error (.int .i64 1))) h1 fun t21 h3 =>
mc t21 (fun k3 => enterK C F.strconv_rangeError [a0, a1] h3 fun t24 h4 =>
k3 .ret [(10, (.iface T.p_strconv_NumError t24))] h4) (fun k3 =>
bareK (xbin P .eql T.error (.tmp 11) (.tmp 27) a4 (.iface T.internal_strconv_Error (.int .i64 3))) h3 fun t28 h5 =>
mc t28 (fun k4 => enterK C F.strconv_baseError [a0, a1, a2] h5 fun t32 h6 =>
k4 .ret [(10, (.iface T.p_strconv_NumError t32))] h6) (fun k4 =>
bareK (xbin P .eql T.error (.tmp 11) (.tmp 35) a4 (.iface T.internal_strconv_Error (.int .i64 4))) h5 fun t36 h7 =>
mc t36 (fun k5 => enterK C F.strconv_bitSizeError [a0, a1, a3] h7 fun t40 h8 =>
k5 .ret [(10, (.iface T.p_strconv_NumError t40))] h8) (fun k5 =>
k5 .normal [(4, a4)] h7) (afterK [4] k4)) (afterK [4] k3)) (afterK [4] k2)) (blkK [4] 0 k1)) (seqK (fun tT h9 =>
K0 .ret [(10, (get tT 4))] h9) K0)

theorem s_strconv_toError_eq (M : CombL) (C : CallF) (LP : LoopH) (a0 : Value) (a1 : Value) (a2 : Value) (a3 : Value) (a4 : Value) (H : AHeap) : dBodyL M Tryd.prog hints C LP F.strconv_toError [a0, a1, a2, a3, a4] H = s_strconv_toError M.b.g M.c M.s Tryd.prog C a0 a1 a2 a3 a4 H (endK Tryd.prog [.tmp 10]) := by kernel_rfl

/-! slices.ContainsFunc[[]string,string] -/

noncomputable def s_slices_ContainsFunc_string (mg : GT) (mc : CT) (ms : ST) (P : Program) (C : CallF) (a0 : Value) (a1 : Value) (H : AHeap) (K0 : K) : Res :=
enterK C F.slices_IndexFunc_string [a0, a1] H fun t7 h1 =>
bareK (xbin P .geq T.int (.tmp 7) (.const (.int .i64 0)) t7 (.int .i64 0)) h1 fun t8 h2 =>
K0 .ret [(4, t8)] h2

theorem s_slices_ContainsFunc_string_eq (M : CombL) (C : CallF) (LP : LoopH) (a0 : Value) (a1 : Value) (H : AHeap) : dBodyL M Tryd.prog hints C LP F.slices_ContainsFunc_string [a0, a1] H = s_slices_ContainsFunc_string M.b.g M.c M.s Tryd.prog C a0 a1 H (endK Tryd.prog [.tmp 4]) := by kernel_rfl

/-! ticketline.model.check$1 -/

noncomputable def s_model_check_1 (mg : GT) (mc : CT) (ms : ST) (P : Program) (C : CallF) (a0 : Value) (H : AHeap) (K0 : K) : Res :=
bareK (lenT a0) H fun t4 h1 =>
bareK (xbin P .gtr T.int (.tmp 4) (.const (.int .i64 40)) t4 (.int .i64 40)) h1 fun t5 h2 =>
K0 .ret [(2, t5)] h2

theorem s_model_check_1_eq (M : CombL) (C : CallF) (LP : LoopH) (a0 : Value) (H : AHeap) : dBodyL M Tryd.prog hints C LP F.model_check_1 [a0] H = s_model_check_1 M.b.g M.c M.s Tryd.prog C a0 H (endK Tryd.prog [.tmp 2]) := by kernel_rfl

/-! slices.BinarySearchFunc[[]ticketline.api.Pair,ticketline.api.Pair,string] -/

noncomputable def s_slices_BinarySearchFunc_string (mg : GT) (mc : CT) (ms : ST) (P : Program) (C : CallF) (L0 : Value → Value → Value → Value → Value → Value → AHeap → K → Res) (a0 : Value) (a1 : Value) (a2 : Value) (H : AHeap) (K0 : K) : Res :=
bareK (lenS a0) H fun t13 h1 =>
ms (fun k1 =>
L0 a0 a1 a2 t13 (.int .i64 0) t13 h1 (blkK [0, 1, 2, 8, 9] 0 k1)) (seqK (fun tT h2 =>
bareK (xbin P .lss T.int (.tmp 36) (.tmp 37) (get tT 9) (get tT 8)) h2 fun t38 h3 =>
mg t38 true (fun o2 => o2 (get tT 2) h3) h3 fun t40 h4 =>
mg t38 true (fun o3 => o3 (get tT 0) h4) h4 fun t41 h5 =>
mg t38 true (fun o4 => o4 (get tT 9) h5) h5 fun t42 h6 =>
mg t38 true (fun o5 => bareK (ixS 2 t41 t42) h6 o5) h6 fun t43 h7 =>
mg t38 true (fun o6 => bareK (ldN 2 h7 t43) h7 o6) h7 fun t44 h8 =>
mg t38 true (fun o7 => o7 (get tT 1) h8) h8 fun t45 h9 =>
mg t38 true (fun o8 => callK P C t40 [t44, t45] h9 o8) h9 fun t46 h10 =>
mg t38 true (fun o9 => bareK (xbin P .eql T.int (.tmp 46) (.const (.int .i64 0)) t46 (.int .i64 0)) h10 o9) h10 fun t47 h11 =>
pickK t38 t47 (.bool false) fun t48 =>
K0 .ret [(6, (get tT 9)), (7, t48)] h11) K0)

noncomputable def s_slices_BinarySearchFunc_string_b0 (mg : GT) (mc : CT) (ms : ST) (P : Program) (C : CallF) (L0 : Value → Value → Value → Value → Value → Value → AHeap → K → Res) (v0 : Value) (v1 : Value) (v2 : Value) (v8 : Value) (v9 : Value) (v10 : Value) (H : AHeap) (k : K) : Res :=
bareK (xbin P .lss T.int (.tmp 15) (.tmp 16) v9 v10) H fun t17 h2 =>
mc t17 (fun k2 => k2 .normal [(0, v0), (1, v1), (2, v2), (8, v8), (9, v9), (10, v10)] h2) (fun k2 =>
k2 (.exit 0) [(17, t17), (16, v10), (15, v9), (0, v0), (1, v1), (2, v2), (8, v8), (9, v9), (10, v10)] h2) (seqK (fun tT h3 =>
ms (fun k3 =>
bareK (xbin P .add T.int (.tmp 18) (.tmp 19) (get tT 9) (get tT 10)) h3 fun t20 h4 =>
bothK (xconv P T.int T.uint t20 h4) fun t21 h5 =>
bareK (xbin P .shr T.uint (.tmp 21) (.const (.int .u64 1)) t21 (.int .u64 1)) h5 fun t22 h6 =>
bothK (xconv P T.uint T.int t22 h6) fun t23 h7 =>
bareK (ixS 2 (get tT 0) t23) h7 fun t27 h8 =>
bareK (ldN 2 h8 t27) h8 fun t28 h9 =>
callK P C (get tT 2) [t28, (get tT 1)] h9 fun t30 h10 =>
bareK (xbin P .lss T.int (.tmp 30) (.const (.int .i64 0)) t30 (.int .i64 0)) h10 fun t31 h11 =>
mc t31 (fun k4 => bareK (xbin P .add T.int (.tmp 32) (.const (.int .i64 1)) t23 (.int .i64 1)) h11 fun t33 h12 =>
k4 .normal [(0, (get tT 0)), (1, (get tT 1)), (2, (get tT 2)), (8, (get tT 8)), (9, t33), (10, (get tT 10))] h12) (fun k4 =>
k4 .normal [(0, (get tT 0)), (1, (get tT 1)), (2, (get tT 2)), (8, (get tT 8)), (9, (get tT 9)), (10, t23)] h11) (blkK [0, 1, 2, 8, 9, 10] 1 k3)) (afterK [0, 1, 2, 8, 9, 10] k)) (afterK [0, 1, 2, 8, 9, 10] k))

theorem s_slices_BinarySearchFunc_string_eq (M : CombL) (C : CallF) (LP : LoopH) (a0 : Value) (a1 : Value) (a2 : Value) (H : AHeap) : dBodyL M Tryd.prog hints C LP F.slices_BinarySearchFunc_string [a0, a1, a2] H = s_slices_BinarySearchFunc_string M.b.g M.c M.s Tryd.prog C (fun v0 v1 v2 v8 v9 v10 H k => loopL M Tryd.prog hints C LP F.slices_BinarySearchFunc_string 0 [(0, v0), (1, v1), (2, v2), (8, v8), (9, v9), (10, v10)] H k) a0 a1 a2 H (endK Tryd.prog [.tmp 6, .tmp 7]) := by kernel_rfl

theorem s_slices_BinarySearchFunc_string_b0_eq (M : CombL) (C : CallF) (LP : LoopH) (v0 : Value) (v1 : Value) (v2 : Value) (v8 : Value) (v9 : Value) (v10 : Value) (H : AHeap) (k : K) : bodyL M Tryd.prog hints C LP F.slices_BinarySearchFunc_string 0 [(0, v0), (1, v1), (2, v2), (8, v8), (9, v9), (10, v10)] H (afterK [0, 1, 2, 8, 9, 10] k) = s_slices_BinarySearchFunc_string_b0 M.b.g M.c M.s Tryd.prog C (fun v0 v1 v2 v8 v9 v10 H k => loopL M Tryd.prog hints C LP F.slices_BinarySearchFunc_string 0 [(0, v0), (1, v1), (2, v2), (8, v8), (9, v9), (10, v10)] H k) v0 v1 v2 v8 v9 v10 H k := by kernel_rfl

/-! (*ticketline.model.Model).place$1 -/

noncomputable def s_model_Model_place_1 (mg : GT) (mc : CT) (ms : ST) (P : Program) (C : CallF) (a0 : Value) (a1 : Value) (H : AHeap) (K0 : K) : Res :=
bothK (newv T.api_Pair a0 H) fun t2 h1 =>
bareK (fad 0 t2) h1 fun t5 h2 =>
bareK (ld1 h2 t5) h2 fun t6 h3 =>
enterK C F.keys_Compare [t6, a1] h3 fun t8 h4 =>
K0 .ret [(4, t8)] h4

theorem s_model_Model_place_1_eq (M : CombL) (C : CallF) (LP : LoopH) (a0 : Value) (a1 : Value) (H : AHeap) : dBodyL M Tryd.prog hints C LP F.model_Model_place_1 [a0, a1] H = s_model_Model_place_1 M.b.g M.c M.s Tryd.prog C a0 a1 H (endK Tryd.prog [.tmp 4]) := by kernel_rfl

/-! ticketline.keys.Compare -/

noncomputable def s_keys_Compare (mg : GT) (mc : CT) (ms : ST) (P : Program) (C : CallF) (a0 : Value) (a1 : Value) (H : AHeap) (K0 : K) : Res :=
enterK C F.strings_Compare [a0, a1] H fun t7 h1 =>
K0 .ret [(4, t7)] h1

theorem s_keys_Compare_eq (M : CombL) (C : CallF) (LP : LoopH) (a0 : Value) (a1 : Value) (H : AHeap) : dBodyL M Tryd.prog hints C LP F.keys_Compare [a0, a1] H = s_keys_Compare M.b.g M.c M.s Tryd.prog C a0 a1 H (endK Tryd.prog [.tmp 4]) := by kernel_rfl

/-! slices.rotateRight[ticketline.api.Pair] -/

noncomputable def s_slices_rotateRight_Pair (mg : GT) (mc : CT) (ms : ST) (P : Program) (C : CallF) (a0 : Value) (a1 : Value) (H : AHeap) (K0 : K) : Res :=
bareK (lenS a0) H fun t6 h1 =>
bareK (xbin P .sub T.int (.tmp 6) (.tmp 7) t6 a1) h1 fun t8 h2 =>
enterK C F.slices_rotateLeft_Pair [a0, t8] h2 fun t9 h3 =>
K0 .normal [(9, t9), (8, t8), (7, a1), (6, t6), (5, a0), (4, a0), (0, a0), (1, a1)] h3

theorem s_slices_rotateRight_Pair_eq (M : CombL) (C : CallF) (LP : LoopH) (a0 : Value) (a1 : Value) (H : AHeap) : dBodyL M Tryd.prog hints C LP F.slices_rotateRight_Pair [a0, a1] H = s_slices_rotateRight_Pair M.b.g M.c M.s Tryd.prog C a0 a1 H (endK Tryd.prog []) := by kernel_rfl

/-! slices.pdqsortOrdered[string] -/

noncomputable def s_slices_pdqsortOrdered_string (mg : GT) (mc : CT) (ms : ST) (P : Program) (C : CallF) (L0 : Value → Value → Value → Value → Value → Value → AHeap → K → Res) (a0 : Value) (a1 : Value) (a2 : Value) (a3 : Value) (H : AHeap) (K0 : K) : Res :=
ms (fun k1 =>
L0 a0 a1 a2 a3 (.bool true) (.bool true) H (blkK [] 0 k1)) K0

noncomputable def s_slices_pdqsortOrdered_string_b0 (mg : GT) (mc : CT) (ms : ST) (P : Program) (C : CallF) (L0 : Value → Value → Value → Value → Value → Value → AHeap → K → Res) (v0 : Value) (v1 : Value) (v2 : Value) (v3 : Value) (v8 : Value) (v9 : Value) (H : AHeap) (k : K) : Res :=
ms (fun k2 =>
bareK (xbin P .sub T.int (.tmp 19) (.tmp 20) v2 v1) H fun t21 h1 =>
bareK (xbin P .leq T.int (.tmp 22) (.const (.int .i64 12)) t21 (.int .i64 12)) h1 fun t23 h2 =>
mc t23 (fun k3 => enterK C F.slices_insertionSortOrdered_string [v0, v1, v2] h2 fun t27 h3 =>
k3 .ret [] h3) (fun k3 =>
k3 .normal [(0, v0), (1, v1), (2, v2), (3, v3), (8, v8), (9, v9), (10, t21)] h2) (seqK (fun tT h4 =>
bareK (xbin P .eql T.int (.tmp 28) (.const (.int .i64 0)) (get tT 3) (.int .i64 0)) h4 fun t29 h5 =>
mc t29 (fun k4 => enterK C F.slices_heapSortOrdered_string [(get tT 0), (get tT 1), (get tT 2)] h5 fun t33 h6 =>
k4 .ret [] h6) (fun k4 =>
k4 .normal [(0, (get tT 0)), (1, (get tT 1)), (2, (get tT 2)), (3, (get tT 3)), (8, (get tT 8)), (9, (get tT 9)), (10, (get tT 10))] h5) (seqK (fun tT_1 h7 =>
bareK (xun P .not (get tT_1 8)) h7 fun t35 h8 =>
mc t35 (fun k5 => enterK C F.slices_breakPatternsOrdered_string [(get tT_1 0), (get tT_1 1), (get tT_1 2)] h8 fun t39 h9 =>
bareK (xbin P .sub T.int (.tmp 40) (.const (.int .i64 1)) (get tT_1 3) (.int .i64 1)) h9 fun t41 h10 =>
k5 .normal [(0, (get tT_1 0)), (1, (get tT_1 1)), (2, (get tT_1 2)), (3, t41), (8, (get tT_1 8)), (9, (get tT_1 9)), (10, (get tT_1 10))] h10) (fun k5 =>
k5 .normal [(0, (get tT_1 0)), (1, (get tT_1 1)), (2, (get tT_1 2)), (3, (get tT_1 3)), (8, (get tT_1 8)), (9, (get tT_1 9)), (10, (get tT_1 10))] h8) (seqK (fun tT_2 h11 =>
enterK C F.slices_choosePivotOrdered_string [(get tT_2 0), (get tT_2 1), (get tT_2 2)] h11 fun t46 h12 =>
bareK (xextract t46 0) h12 fun t47 h13 =>
bareK (xextract t46 1) h13 fun t48 h14 =>
bareK (xbin P .eql T.slices_sortedHint (.tmp 49) (.const (.int .i64 2)) t48 (.int .i64 2)) h14 fun t50 h15 =>
mc t50 (fun k6 => enterK C F.slices_reverseRangeOrdered_string [(get tT_2 0), (get tT_2 1), (get tT_2 2)] h15 fun t54 h16 =>
bareK (xbin P .sub T.int (.tmp 55) (.const (.int .i64 1)) (get tT_2 2) (.int .i64 1)) h16 fun t56 h17 =>
bareK (xbin P .sub T.int (.tmp 57) (.tmp 58) t47 (get tT_2 1)) h17 fun t59 h18 =>
bareK (xbin P .sub T.int (.tmp 56) (.tmp 59) t56 t59) h18 fun t60 h19 =>
k6 .normal [(0, (get tT_2 0)), (1, (get tT_2 1)), (2, (get tT_2 2)), (3, (get tT_2 3)), (8, (get tT_2 8)), (9, (get tT_2 9)), (10, (get tT_2 10)), (11, t60), (12, (.int .i64 1))] h19) (fun k6 =>
k6 .normal [(0, (get tT_2 0)), (1, (get tT_2 1)), (2, (get tT_2 2)), (3, (get tT_2 3)), (8, (get tT_2 8)), (9, (get tT_2 9)), (10, (get tT_2 10)), (11, t47), (12, t48)] h15) (seqK (fun tT_3 h20 =>
mg (get tT_3 8) true (fun o7 => o7 (get tT_3 9) h20) h20 fun t63 h21 =>
pickK (get tT_3 8) t63 (.bool false) fun t64 =>
mg t64 true (fun o8 => o8 (get tT_3 12) h21) h21 fun t66 h22 =>
mg t64 true (fun o9 => bareK (xbin P .eql T.slices_sortedHint (.tmp 66) (.const (.int .i64 1)) t66 (.int .i64 1)) h22 o9) h22 fun t67 h23 =>
pickK t64 t67 (.bool false) fun t68 =>
mc t68 (fun k10 => enterK C F.slices_partialInsertionSortOrdered_string [(get tT_3 0), (get tT_3 1), (get tT_3 2)] h23 fun t72 h24 =>
mc t72 (fun k11 => k11 .ret [] h24) (fun k11 =>
k11 .normal [(0, (get tT_3 0)), (1, (get tT_3 1)), (2, (get tT_3 2)), (3, (get tT_3 3)), (8, (get tT_3 8)), (9, (get tT_3 9)), (10, (get tT_3 10)), (11, (get tT_3 11))] h24) (afterK [0, 1, 2, 3, 8, 9, 10, 11] k10)) (fun k10 =>
k10 .normal [(0, (get tT_3 0)), (1, (get tT_3 1)), (2, (get tT_3 2)), (3, (get tT_3 3)), (8, (get tT_3 8)), (9, (get tT_3 9)), (10, (get tT_3 10)), (11, (get tT_3 11))] h23) (seqK (fun tT_4 h25 =>
bareK (xbin P .gtr T.int (.tmp 73) (.const (.int .i64 0)) (get tT_4 1) (.int .i64 0)) h25 fun t74 h26 =>
mg t74 true (fun o12 => o12 (get tT_4 0) h26) h26 fun t76 h27 =>
mg t74 true (fun o13 => o13 (get tT_4 1) h27) h27 fun t77 h28 =>
mg t74 true (fun o14 => bareK (xbin P .sub T.int (.tmp 77) (.const (.int .i64 1)) t77 (.int .i64 1)) h28 o14) h28 fun t78 h29 =>
mg t74 true (fun o15 => bareK (ixS 1 t76 t78) h29 o15) h29 fun t79 h30 =>
mg t74 true (fun o16 => bareK (ld1 h30 t79) h30 o16) h30 fun t80 h31 =>
mg t74 true (fun o17 => o17 (get tT_4 0) h31) h31 fun t81 h32 =>
mg t74 true (fun o18 => o18 (get tT_4 11) h32) h32 fun t82 h33 =>
mg t74 true (fun o19 => bareK (ixS 1 t81 t82) h33 o19) h33 fun t83 h34 =>
mg t74 true (fun o20 => bareK (ld1 h34 t83) h34 o20) h34 fun t84 h35 =>
mg t74 true (fun o21 => enterK C F.cmp_Less_string [t80, t84] h35 o21) h35 fun t85 h36 =>
mg t74 true (fun o22 => bareK (xun P .not t85) h36 o22) h36 fun t86 h37 =>
pickK t74 t86 (.bool false) fun t87 =>
checkK true <|
mc t87 (fun k23 => enterK C F.slices_partitionEqualOrdered_string [(get tT_4 0), (get tT_4 1), (get tT_4 2), (get tT_4 11)] h37 fun t92 h38 =>
k23 (.exit 1) ((1, t92) :: (93, t92) :: (13, t92) :: (92, t92) :: (91, (get tT_4 11)) :: (90, (get tT_4 2)) :: (89, (get tT_4 1)) :: (88, (get tT_4 0)) :: (87, t87) :: (86, t86) :: (85, t85) :: (84, t84) :: (83, t83) :: (82, t82) :: (81, t81) :: (80, t80) :: (79, t79) :: (78, t78) :: (77, t77) :: (76, t76) :: (75, t74) :: (74, t74) :: (73, (get tT_4 1)) :: tT_4) h38) (fun k23 =>
k23 .normal [(0, (get tT_4 0)), (1, (get tT_4 1)), (2, (get tT_4 2)), (3, (get tT_4 3)), (10, (get tT_4 10)), (11, (get tT_4 11))] h37) (seqK (fun tT_5 h39 =>
enterK C F.slices_partitionOrdered_string [(get tT_5 0), (get tT_5 1), (get tT_5 2), (get tT_5 11)] h39 fun t99 h40 =>
bareK (xextract t99 0) h40 fun t100 h41 =>
bareK (xextract t99 1) h41 fun t101 h42 =>
bareK (xbin P .sub T.int (.tmp 103) (.tmp 104) t100 (get tT_5 1)) h42 fun t105 h43 =>
bareK (xbin P .sub T.int (.tmp 106) (.tmp 107) (get tT_5 2) t100) h43 fun t108 h44 =>
bareK (xbin P .quo T.int (.tmp 109) (.const (.int .i64 8)) (get tT_5 10) (.int .i64 8)) h44 fun t110 h45 =>
bareK (xbin P .lss T.int (.tmp 111) (.tmp 112) t105 t108) h45 fun t113 h46 =>
mc t113 (fun k24 => bareK (xbin P .geq T.int (.tmp 114) (.tmp 115) t105 t110) h46 fun t116 h47 =>
enterK C F.slices_pdqsortOrdered_string [(get tT_5 0), (get tT_5 1), t100, (get tT_5 3)] h47 fun t121 h48 =>
bareK (xbin P .add T.int (.tmp 122) (.const (.int .i64 1)) t100 (.int .i64 1)) h48 fun t123 h49 =>
k24 .normal [(0, (get tT_5 0)), (1, t123), (2, (get tT_5 2)), (3, (get tT_5 3)), (8, t116), (9, t101)] h49) (fun k24 =>
bareK (xbin P .geq T.int (.tmp 124) (.tmp 125) t108 t110) h46 fun t126 h50 =>
bareK (xbin P .add T.int (.tmp 128) (.const (.int .i64 1)) t100 (.int .i64 1)) h50 fun t129 h51 =>
enterK C F.slices_pdqsortOrdered_string [(get tT_5 0), t129, (get tT_5 2), (get tT_5 3)] h51 fun t132 h52 =>
k24 .normal [(0, (get tT_5 0)), (1, (get tT_5 1)), (2, t100), (3, (get tT_5 3)), (8, t126), (9, t101)] h52) (blkK [0, 1, 2, 3, 8, 9] 1 k2)) (blkK [0, 1, 2, 3, 8, 9] 1 k2))) (blkK [0, 1, 2, 3, 8, 9] 1 k2))) (blkK [0, 1, 2, 3, 8, 9] 1 k2))) (blkK [0, 1, 2, 3, 8, 9] 1 k2))) (blkK [0, 1, 2, 3, 8, 9] 1 k2))) (blkK [0, 1, 2, 3, 8, 9] 1 k2))) (afterK [0, 1, 2, 3, 8, 9] k)

theorem s_slices_pdqsortOrdered_string_eq (M : CombL) (C : CallF) (LP : LoopH) (a0 : Value) (a1 : Value) (a2 : Value) (a3 : Value) (H : AHeap) : dBodyL M Tryd.prog hints C LP F.slices_pdqsortOrdered_string [a0, a1, a2, a3] H = s_slices_pdqsortOrdered_string M.b.g M.c M.s Tryd.prog C (fun v0 v1 v2 v3 v8 v9 H k => loopL M Tryd.prog hints C LP F.slices_pdqsortOrdered_string 0 [(0, v0), (1, v1), (2, v2), (3, v3), (8, v8), (9, v9)] H k) a0 a1 a2 a3 H (endK Tryd.prog []) := by kernel_rfl

theorem s_slices_pdqsortOrdered_string_b0_eq (M : CombL) (C : CallF) (LP : LoopH) (v0 : Value) (v1 : Value) (v2 : Value) (v3 : Value) (v8 : Value) (v9 : Value) (H : AHeap) (k : K) : bodyL M Tryd.prog hints C LP F.slices_pdqsortOrdered_string 0 [(0, v0), (1, v1), (2, v2), (3, v3), (8, v8), (9, v9)] H (afterK [0, 1, 2, 3, 8, 9] k) = s_slices_pdqsortOrdered_string_b0 M.b.g M.c M.s Tryd.prog C (fun v0 v1 v2 v3 v8 v9 H k => loopL M Tryd.prog hints C LP F.slices_pdqsortOrdered_string 0 [(0, v0), (1, v1), (2, v2), (3, v3), (8, v8), (9, v9)] H k) v0 v1 v2 v3 v8 v9 H k := by kernel_rfl

/-! math.bits.Len -/

noncomputable def s_math_bits_Len (mg : GT) (mc : CT) (ms : ST) (P : Program) (C : CallF) (a0 : Value) (H : AHeap) (K0 : K) : Res :=
mc (.bool false) (fun k1 => bothK (xconv P T.uint T.uint32 a0 H) fun t4 h1 =>
enterK C F.math_bits_Len32 [t4] h1 fun t5 h2 =>
k1 .ret [(2, t5)] h2) (fun k1 =>
k1 .normal [(0, a0)] H) (seqK (fun tT h3 =>
enterK C F.math_bits_Len64 [(get tT 0)] h3 fun t7 h4 =>
K0 .ret [(2, t7)] h4) K0)

theorem s_math_bits_Len_eq (M : CombL) (C : CallF) (LP : LoopH) (a0 : Value) (H : AHeap) : dBodyL M Tryd.prog hints C LP F.math_bits_Len [a0] H = s_math_bits_Len M.b.g M.c M.s Tryd.prog C a0 H (endK Tryd.prog [.tmp 2]) := by kernel_rfl

/-! internal.strconv.FormatInt -/

noncomputable def s_internal_strconv_FormatInt (mg : GT) (mc : CT) (ms : ST) (P : Program) (C : CallF) (a0 : Value) (a1 : Value) (H : AHeap) (K0 : K) : Res :=
bareK (xbin P .eql T.int (.tmp 10) (.const (.int .i64 10)) a1 (.int .i64 10)) H fun t11 h1 =>
mc t11 (fun k1 => bareK (xbin P .leq T.int64 (.const (.int .i64 0)) (.tmp 12) (.int .i64 0) a0) h1 fun t13 h2 =>
mg t13 true (fun o2 => o2 a0 h2) h2 fun t15 h3 =>
mg t13 true (fun o3 => bareK (xbin P .lss T.int64 (.tmp 15) (.const (.int .i64 100)) t15 (.int .i64 100)) h3 o3) h3 fun t16 h4 =>
pickK t13 t16 (.bool false) fun t17 =>
mc t17 (fun k4 => enterK C F.internal_strconv_small [a0] h4 fun t19 h5 =>
k4 .ret [(4, t19)] h5) (fun k4 =>
k4 .normal [(0, a0)] h4) (seqK (fun tT h6 =>
bothK (newv T.n24_uint8 (.agg #[(.int .u8 0), (.int .u8 0), (.int .u8 0), (.int .u8 0), (.int .u8 0), (.int .u8 0), (.int .u8 0), (.int .u8 0), (.int .u8 0), (.int .u8 0), (.int .u8 0), (.int .u8 0), (.int .u8 0), (.int .u8 0), (.int .u8 0), (.int .u8 0), (.int .u8 0), (.int .u8 0), (.int .u8 0), (.int .u8 0), (.int .u8 0), (.int .u8 0), (.int .u8 0), (.int .u8 0)]) h6) fun t5 h7 =>
bothK (xconv P T.int64 T.uint64 (get tT 0) h7) fun t21 h8 =>
bareK (xbin P .lss T.int64 (.tmp 22) (.const (.int .i64 0)) (get tT 0) (.int .i64 0)) h8 fun t23 h9 =>
mc t23 (fun k5 => bareK (xun P .neg t21) h9 fun t25 h10 =>
k5 .normal [(0, (get tT 0)), (5, t5), (6, t25)] h10) (fun k5 =>
k5 .normal [(0, (get tT 0)), (5, t5), (6, t21)] h9) (seqK (fun tT_1 h11 =>
enterK C F.internal_strconv_numDigits [(get tT_1 6)] h11 fun t27 h12 =>
bareK (xbin P .add T.int (.const (.int .i64 1)) (.tmp 28) (.int .i64 1) t27) h12 fun t29 h13 =>
bareK (slA 24 1 (get tT_1 5) (some (.int .i64 1)) (some t29)) h13 fun t30 h14 =>
enterK C F.internal_strconv_formatBase10 [t30, (get tT_1 6)] h14 fun t32 h15 =>
bareK (xbin P .lss T.int64 (.tmp 33) (.const (.int .i64 0)) (get tT_1 0) (.int .i64 0)) h15 fun t34 h16 =>
mc t34 (fun k6 => bareK (ixA 24 1 (get tT_1 5) (.int .i64 0)) h16 fun t35 h17 =>
quietK (st1 h17 t35 (.int .u8 45)) fun _ h18 =>
bareK (xbin P .add T.int (.const (.int .i64 1)) (.tmp 36) (.int .i64 1) t27) h18 fun t37 h19 =>
bareK (slA 24 1 (get tT_1 5) none (some t37)) h19 fun t38 h20 =>
bothK (xconv P T.sl_uint8 T.string t38 h20) fun t39 h21 =>
k6 .ret [(4, t39)] h21) (fun k6 =>
k6 .normal [(5, (get tT_1 5)), (7, t27)] h16) (seqK (fun tT_2 h22 =>
bareK (xbin P .add T.int (.const (.int .i64 1)) (.tmp 40) (.int .i64 1) (get tT_2 7)) h22 fun t41 h23 =>
bareK (slA 24 1 (get tT_2 5) (some (.int .i64 1)) (some t41)) h23 fun t42 h24 =>
bothK (xconv P T.sl_uint8 T.string t42 h24) fun t43 h25 =>
k1 .ret [(4, t43)] h25) (afterK [0, 1] k1))) (afterK [0, 1] k1))) (afterK [0, 1] k1))) (fun k1 =>
k1 .normal [(0, a0), (1, a1)] h1) (seqK (fun tT_3 h26 =>
bothK (xconv P T.int64 T.uint64 (get tT_3 0) h26) fun t46 h27 =>
bareK (xbin P .lss T.int64 (.tmp 48) (.const (.int .i64 0)) (get tT_3 0) (.int .i64 0)) h27 fun t49 h28 =>
enterK C F.internal_strconv_formatBits [(.slice none 0 0), t46, (get tT_3 1), t49, (.bool false)] h28 fun t50 h29 =>
bareK (xextract t50 0) h29 fun t51 h30 =>
bareK (xextract t50 1) h30 fun t52 h31 =>
K0 .ret [(4, t52)] h31) K0)

theorem s_internal_strconv_FormatInt_eq (M : CombL) (C : CallF) (LP : LoopH) (a0 : Value) (a1 : Value) (H : AHeap) : dBodyL M Tryd.prog hints C LP F.internal_strconv_FormatInt [a0, a1] H = s_internal_strconv_FormatInt M.b.g M.c M.s Tryd.prog C a0 a1 H (endK Tryd.prog [.tmp 4]) := by kernel_rfl

/-! internal.strconv.ParseInt -/

noncomputable def s_internal_strconv_ParseInt (mg : GT) (mc : CT) (ms : ST) (P : Program) (C : CallF) (a0 : Value) (a1 : Value) (a2 : Value) (H : AHeap) (K0 : K) : Res :=
bareK (xbin P .eql T.string (.tmp 12) (.const (.string (mk []))) a0 (.string (mk []))) H fun t13 h1 =>
mc t13 (fun k1 => k1 .ret [(6, (.int .i64 0)), (7, (.iface T.internal_strconv_Error (.int .i64 2)))] h1) (fun k1 =>
k1 .normal [(0, a0), (1, a1), (2, a2)] h1) (seqK (fun tT h2 =>
bareK (xindex P T.string (get tT 0) (.int .i64 0)) h2 fun t16 h3 =>
ms (fun k2 =>
bareK (xbin P .eql T.uint8 (.tmp 16) (.const (.int .u8 43)) t16 (.int .u8 43)) h3 fun t18 h4 =>
mc t18 (fun k3 => bareK (slT (get tT 0) (some (.int .i64 1)) none) h4 fun t20 h5 =>
k3 .normal [(0, t20), (1, (get tT 1)), (2, (get tT 2)), (8, (.bool false))] h5) (fun k3 =>
bareK (xbin P .eql T.uint8 (.tmp 16) (.const (.int .u8 45)) t16 (.int .u8 45)) h4 fun t22 h6 =>
mc t22 (fun k4 => bareK (slT (get tT 0) (some (.int .i64 1)) none) h6 fun t24 h7 =>
k4 .normal [(0, t24), (1, (get tT 1)), (2, (get tT 2)), (8, (.bool true))] h7) (fun k4 =>
k4 .normal [(0, (get tT 0)), (1, (get tT 1)), (2, (get tT 2)), (8, (.bool false))] h6) (afterK [0, 1, 2, 8] k3)) (blkK [0, 1, 2, 8] 0 k2)) (seqK (fun tT_1 h8 =>
enterK C F.internal_strconv_ParseUint [(get tT_1 0), (get tT_1 1), (get tT_1 2)] h8 fun t29 h9 =>
bareK (xextract t29 0) h9 fun t30 h10 =>
bareK (xextract t29 1) h10 fun t31 h11 =>
bareK (xbin P .neq T.error (.tmp 32) (.const .nilIface) t31 .nilIface) h11 fun t33 h12 =>
mg t33 true (fun o5 => o5 t31 h12) h12 fun t35 h13 =>
mg t33 true (fun o6 => o6 (.iface T.internal_strconv_Error (.int .i64 1)) h13) h13 fun t36 h14 =>
mg t33 true (fun o7 => bareK (xbin P .neq T.error (.tmp 35) (.tmp 36) t35 t36) h14 o7) h14 fun t37 h15 =>
pickK t33 t37 (.bool false) fun t38 =>
mc t38 (fun k8 => k8 .ret [(6, (.int .i64 0)), (7, t31)] h15) (fun k8 =>
k8 .normal [(2, (get tT_1 2)), (8, (get tT_1 8)), (9, t30)] h15) (seqK (fun tT_2 h16 =>
bareK (xbin P .eql T.int (.tmp 40) (.const (.int .i64 0)) (get tT_2 2) (.int .i64 0)) h16 fun t41 h17 =>
mc t41 (fun k9 => k9 .normal [(2, (.int .i64 64)), (8, (get tT_2 8)), (9, (get tT_2 9))] h17) (fun k9 =>
k9 .normal [(2, (get tT_2 2)), (8, (get tT_2 8)), (9, (get tT_2 9))] h17) (seqK (fun tT_3 h18 =>
bareK (xbin P .sub T.int (.tmp 42) (.const (.int .i64 1)) (get tT_3 2) (.int .i64 1)) h18 fun t43 h19 =>
bothK (xconv P T.int T.uint t43 h19) fun t44 h20 =>
bareK (xbin P .shl T.uint64 (.const (.int .u64 1)) (.tmp 44) (.int .u64 1) t44) h20 fun t45 h21 =>
bareK (xun P .not (get tT_3 8)) h21 fun t47 h22 =>
mg t47 true (fun o10 => o10 (get tT_3 9) h22) h22 fun t49 h23 =>
mg t47 true (fun o11 => o11 t45 h23) h23 fun t50 h24 =>
mg t47 true (fun o12 => bareK (xbin P .geq T.uint64 (.tmp 49) (.tmp 50) t49 t50) h24 o12) h24 fun t51 h25 =>
pickK t47 t51 (.bool false) fun t52 =>
mc t52 (fun k13 => bareK (xbin P .sub T.uint64 (.tmp 53) (.const (.int .u64 1)) t45 (.int .u64 1)) h25 fun t54 h26 =>
bothK (xconv P T.uint64 T.int64 t54 h26) fun t55 h27 =>
k13 .ret [(6, t55), (7, (.iface T.internal_strconv_Error (.int .i64 1)))] h27) (fun k13 =>
k13 .normal [(8, (get tT_3 8)), (9, (get tT_3 9)), (10, t45)] h25) (seqK (fun tT_4 h28 =>
mg (get tT_4 8) true (fun o14 => o14 (get tT_4 9) h28) h28 fun t59 h29 =>
mg (get tT_4 8) true (fun o15 => o15 (get tT_4 10) h29) h29 fun t60 h30 =>
mg (get tT_4 8) true (fun o16 => bareK (xbin P .gtr T.uint64 (.tmp 59) (.tmp 60) t59 t60) h30 o16) h30 fun t61 h31 =>
pickK (get tT_4 8) t61 (.bool false) fun t62 =>
mc t62 (fun k17 => bothK (xconv P T.uint64 T.int64 (get tT_4 10) h31) fun t64 h32 =>
bareK (xun P .neg t64) h32 fun t65 h33 =>
k17 .ret [(6, t65), (7, (.iface T.internal_strconv_Error (.int .i64 1)))] h33) (fun k17 =>
k17 .normal [(8, (get tT_4 8)), (9, (get tT_4 9))] h31) (seqK (fun tT_5 h34 =>
bothK (xconv P T.uint64 T.int64 (get tT_5 9) h34) fun t68 h35 =>
mc (get tT_5 8) (fun k18 => bareK (xun P .neg t68) h35 fun t71 h36 =>
k18 .normal [(11, t71)] h36) (fun k18 =>
k18 .normal [(11, t68)] h35) (seqK (fun tT_6 h37 =>
K0 .ret [(6, (get tT_6 11)), (7, .nilIface)] h37) K0)) K0)) K0)) K0)) K0)) K0)) K0)

theorem s_internal_strconv_ParseInt_eq (M : CombL) (C : CallF) (LP : LoopH) (a0 : Value) (a1 : Value) (a2 : Value) (H : AHeap) : dBodyL M Tryd.prog hints C LP F.internal_strconv_ParseInt [a0, a1, a2] H = s_internal_strconv_ParseInt M.b.g M.c M.s Tryd.prog C a0 a1 a2 H (endK Tryd.prog [.tmp 6, .tmp 7]) := by kernel_rfl

/-! strconv.syntaxError -/

noncomputable def s_strconv_syntaxError (mg : GT) (mc : CT) (ms : ST) (P : Program) (C : CallF) (a0 : Value) (a1 : Value) (H : AHeap) (K0 : K) : Res :=
enterK C F.internal_stringslite_Clone [a1] H fun t7 h1 =>
bareK (ld1 h1 top) h1 fun t8 h2 =>
bareK (bldS #[(.string (mk [])), (.string (mk [])), .nilIface] [(0, 1), (1, 1), (2, 1)] [(0, a0), (1, t7), (2, t8)]) h2 fun t9 h3 =>
bothK (newv T.strconv_NumError t9 h3) fun t10 h4 =>
checkK (okV (some true) none H h1 H H && (okV (some true) (blockOf top) H h1 h1 h2 && true)) <|
K0 .ret [(4, t10)] h4

theorem s_strconv_syntaxError_eq (M : CombL) (C : CallF) (LP : LoopH) (a0 : Value) (a1 : Value) (H : AHeap) : dBodyL M Tryd.prog hints C LP F.strconv_syntaxError [a0, a1] H = s_strconv_syntaxError M.b.g M.c M.s Tryd.prog C a0 a1 H (endK Tryd.prog [.tmp 4]) := by kernel_rfl

/-! strconv.rangeError -/

noncomputable def s_strconv_rangeError (mg : GT) (mc : CT) (ms : ST) (P : Program) (C : CallF) (a0 : Value) (a1 : Value) (H : AHeap) (K0 : K) : Res :=
enterK C F.internal_stringslite_Clone [a1] H fun t7 h1 =>
bareK (ld1 h1 top) h1 fun t8 h2 =>
bareK (bldS #[(.string (mk [])), (.string (mk [])), .nilIface] [(0, 1), (1, 1), (2, 1)] [(0, a0), (1, t7), (2, t8)]) h2 fun t9 h3 =>
bothK (newv T.strconv_NumError t9 h3) fun t10 h4 =>
checkK (okV (some true) none H h1 H H && (okV (some true) (blockOf top) H h1 h1 h2 && true)) <|
K0 .ret [(4, t10)] h4

theorem s_strconv_rangeError_eq (M : CombL) (C : CallF) (LP : LoopH) (a0 : Value) (a1 : Value) (H : AHeap) : dBodyL M Tryd.prog hints C LP F.strconv_rangeError [a0, a1] H = s_strconv_rangeError M.b.g M.c M.s Tryd.prog C a0 a1 H (endK Tryd.prog [.tmp 4]) := by kernel_rfl

/-! strconv.baseError -/

noncomputable def s_strconv_baseError (mg : GT) (mc : CT) (ms : ST) (P : Program) (C : CallF) (a0 : Value) (a1 : Value) (a2 : Value) (H : AHeap) (K0 : K) : Res :=
enterK C F.internal_stringslite_Clone [a1] H fun t9 h1 =>
enterK C F.strconv_Itoa [a2] h1 fun t11 h2 =>
bareK (xbin P .add T.string (.const (.string (mk [105, 110, 118, 97, 108, 105, 100, 32, 98, 97, 115, 101, 32]))) (.tmp 11) (.string (mk [105, 110, 118, 97, 108, 105, 100, 32, 98, 97, 115, 101, 32])) t11) h2 fun t12 h3 =>
enterK C F.errors_New [t12] h3 fun t13 h4 =>
bareK (bldS #[(.string (mk [])), (.string (mk [])), .nilIface] [(0, 1), (1, 1), (2, 1)] [(0, a0), (1, t9), (2, t13)]) h4 fun t14 h5 =>
bothK (newv T.strconv_NumError t14 h5) fun t15 h6 =>
K0 .ret [(6, t15)] h6

theorem s_strconv_baseError_eq (M : CombL) (C : CallF) (LP : LoopH) (a0 : Value) (a1 : Value) (a2 : Value) (H : AHeap) : dBodyL M Tryd.prog hints C LP F.strconv_baseError [a0, a1, a2] H = s_strconv_baseError M.b.g M.c M.s Tryd.prog C a0 a1 a2 H (endK Tryd.prog [.tmp 6]) := by kernel_rfl

/-! strconv.bitSizeError -/

noncomputable def s_strconv_bitSizeError (mg : GT) (mc : CT) (ms : ST) (P : Program) (C : CallF) (a0 : Value) (a1 : Value) (a2 : Value) (H : AHeap) (K0 : K) : Res :=
enterK C F.internal_stringslite_Clone [a1] H fun t9 h1 =>
enterK C F.strconv_Itoa [a2] h1 fun t11 h2 =>
bareK (xbin P .add T.string (.const (.string (mk [105, 110, 118, 97, 108, 105, 100, 32, 98, 105, 116, 32, 115, 105, 122, 101, 32]))) (.tmp 11) (.string (mk [105, 110, 118, 97, 108, 105, 100, 32, 98, 105, 116, 32, 115, 105, 122, 101, 32])) t11) h2 fun t12 h3 =>
enterK C F.errors_New [t12] h3 fun t13 h4 =>
bareK (bldS #[(.string (mk [])), (.string (mk [])), .nilIface] [(0, 1), (1, 1), (2, 1)] [(0, a0), (1, t9), (2, t13)]) h4 fun t14 h5 =>
bothK (newv T.strconv_NumError t14 h5) fun t15 h6 =>
K0 .ret [(6, t15)] h6

theorem s_strconv_bitSizeError_eq (M : CombL) (C : CallF) (LP : LoopH) (a0 : Value) (a1 : Value) (a2 : Value) (H : AHeap) : dBodyL M Tryd.prog hints C LP F.strconv_bitSizeError [a0, a1, a2] H = s_strconv_bitSizeError M.b.g M.c M.s Tryd.prog C a0 a1 a2 H (endK Tryd.prog [.tmp 6]) := by kernel_rfl

/-! slices.IndexFunc[[]string,string] -/

noncomputable def s_slices_IndexFunc_string (mg : GT) (mc : CT) (ms : ST) (P : Program) (C : CallF) (L0 : Value → Value → Value → Value → AHeap → K → Res) (a0 : Value) (a1 : Value) (H : AHeap) (K0 : K) : Res :=
bareK (lenS a0) H fun t7 h1 =>
ms (fun k1 =>
L0 a0 a1 t7 (.int .i64 0) h1 (blkK [] 0 k1)) (seqK (fun tT h2 =>
K0 .ret [(4, (.int .i64 (-1)))] h2) K0)

noncomputable def s_slices_IndexFunc_string_b0 (mg : GT) (mc : CT) (ms : ST) (P : Program) (C : CallF) (L0 : Value → Value → Value → Value → AHeap → K → Res) (v0 : Value) (v1 : Value) (v7 : Value) (v8 : Value) (H : AHeap) (k : K) : Res :=
bareK (xbin P .lss T.int (.tmp 8) (.tmp 7) v8 v7) H fun t9 h2 =>
mc t9 (fun k2 => k2 .normal [(0, v0), (1, v1), (7, v7), (8, v8)] h2) (fun k2 =>
k2 (.exit 0) [(9, t9), (0, v0), (1, v1), (7, v7), (8, v8)] h2) (seqK (fun tT h3 =>
ms (fun k3 =>
bareK (ixS 1 (get tT 0) (get tT 8)) h3 fun t14 h4 =>
bareK (ld1 h4 t14) h4 fun t15 h5 =>
callK P C (get tT 1) [t15] h5 fun t16 h6 =>
mc t16 (fun k4 => k4 .ret [(4, (get tT 8))] h6) (fun k4 =>
k4 .normal [(0, (get tT 0)), (1, (get tT 1)), (7, (get tT 7)), (8, (get tT 8))] h6) (blkK [0, 1, 7, 8] 1 k3)) (seqK (fun tT_1 h7 =>
bareK (xbin P .add T.int (.tmp 8) (.const (.int .i64 1)) (get tT_1 8) (.int .i64 1)) h7 fun t18 h8 =>
k .normal [(0, (get tT_1 0)), (1, (get tT_1 1)), (7, (get tT_1 7)), (8, t18)] h8) (afterK [0, 1, 7, 8] k))) (afterK [0, 1, 7, 8] k))

theorem s_slices_IndexFunc_string_eq (M : CombL) (C : CallF) (LP : LoopH) (a0 : Value) (a1 : Value) (H : AHeap) : dBodyL M Tryd.prog hints C LP F.slices_IndexFunc_string [a0, a1] H = s_slices_IndexFunc_string M.b.g M.c M.s Tryd.prog C (fun v0 v1 v7 v8 H k => loopL M Tryd.prog hints C LP F.slices_IndexFunc_string 0 [(0, v0), (1, v1), (7, v7), (8, v8)] H k) a0 a1 H (endK Tryd.prog [.tmp 4]) := by kernel_rfl

theorem s_slices_IndexFunc_string_b0_eq (M : CombL) (C : CallF) (LP : LoopH) (v0 : Value) (v1 : Value) (v7 : Value) (v8 : Value) (H : AHeap) (k : K) : bodyL M Tryd.prog hints C LP F.slices_IndexFunc_string 0 [(0, v0), (1, v1), (7, v7), (8, v8)] H (afterK [0, 1, 7, 8] k) = s_slices_IndexFunc_string_b0 M.b.g M.c M.s Tryd.prog C (fun v0 v1 v7 v8 H k => loopL M Tryd.prog hints C LP F.slices_IndexFunc_string 0 [(0, v0), (1, v1), (7, v7), (8, v8)] H k) v0 v1 v7 v8 H k := by kernel_rfl

/-! strings.Compare -/

noncomputable def s_strings_Compare (mg : GT) (mc : CT) (ms : ST) (P : Program) (C : CallF) (a0 : Value) (a1 : Value) (H : AHeap) (K0 : K) : Res :=
enterK C F.internal_bytealg_CompareString [a0, a1] H fun t7 h1 =>
K0 .ret [(4, t7)] h1

theorem s_strings_Compare_eq (M : CombL) (C : CallF) (LP : LoopH) (a0 : Value) (a1 : Value) (H : AHeap) : dBodyL M Tryd.prog hints C LP F.strings_Compare [a0, a1] H = s_strings_Compare M.b.g M.c M.s Tryd.prog C a0 a1 H (endK Tryd.prog [.tmp 4]) := by kernel_rfl

/-! slices.rotateLeft[ticketline.api.Pair] -/

noncomputable def s_slices_rotateLeft_Pair (mg : GT) (mc : CT) (ms : ST) (P : Program) (C : CallF) (a0 : Value) (a1 : Value) (H : AHeap) (K0 : K) : Res :=
bareK (slS T.api_Pair 2 a0 none (some a1) none H) H fun t6 h1 =>
enterK C F.slices_Reverse_Pair [t6] h1 fun t7 h2 =>
bareK (slS T.api_Pair 2 a0 (some a1) none none h2) h2 fun t10 h3 =>
enterK C F.slices_Reverse_Pair [t10] h3 fun t11 h4 =>
enterK C F.slices_Reverse_Pair [a0] h4 fun t13 h5 =>
K0 .normal [(13, t13), (12, a0), (11, t11), (10, t10), (9, a1), (8, a0), (7, t7), (6, t6), (5, a1), (4, a0), (0, a0), (1, a1)] h5

theorem s_slices_rotateLeft_Pair_eq (M : CombL) (C : CallF) (LP : LoopH) (a0 : Value) (a1 : Value) (H : AHeap) : dBodyL M Tryd.prog hints C LP F.slices_rotateLeft_Pair [a0, a1] H = s_slices_rotateLeft_Pair M.b.g M.c M.s Tryd.prog C a0 a1 H (endK Tryd.prog []) := by kernel_rfl

/-! slices.insertionSortOrdered[string] -/

noncomputable def s_slices_insertionSortOrdered_string (mg : GT) (mc : CT) (ms : ST) (P : Program) (C : CallF) (L0 : Value → Value → Value → Value → AHeap → K → Res) (L1 : Value → Value → Value → Value → Value → AHeap → K → Res) (a0 : Value) (a1 : Value) (a2 : Value) (H : AHeap) (K0 : K) : Res :=
bareK (xbin P .add T.int (.tmp 8) (.const (.int .i64 1)) a1 (.int .i64 1)) H fun t9 h1 =>
ms (fun k1 =>
L0 a0 a1 a2 t9 h1 (blkK [] 0 k1)) K0

noncomputable def s_slices_insertionSortOrdered_string_b0 (mg : GT) (mc : CT) (ms : ST) (P : Program) (C : CallF) (L0 : Value → Value → Value → Value → AHeap → K → Res) (L1 : Value → Value → Value → Value → Value → AHeap → K → Res) (v0 : Value) (v1 : Value) (v2 : Value) (v6 : Value) (H : AHeap) (k : K) : Res :=
bareK (xbin P .lss T.int (.tmp 10) (.tmp 11) v6 v2) H fun t12 h2 =>
mc t12 (fun k2 => k2 .normal [(0, v0), (1, v1), (2, v2), (6, v6)] h2) (fun k2 =>
k2 (.exit 0) [(12, t12), (11, v2), (10, v6), (0, v0), (1, v1), (2, v2), (6, v6)] h2) (seqK (fun tT h3 =>
ms (fun k3 =>
ms (fun k4 =>
L1 (get tT 0) (get tT 1) (get tT 2) (get tT 6) (get tT 6) h3 (blkK [0, 1, 2, 6] 2 k4)) (blkK [0, 1, 2, 6] 1 k3)) (seqK (fun tT_1 h4 =>
bareK (xbin P .add T.int (.tmp 13) (.const (.int .i64 1)) (get tT_1 6) (.int .i64 1)) h4 fun t14 h5 =>
k .normal [(0, (get tT_1 0)), (1, (get tT_1 1)), (2, (get tT_1 2)), (6, t14)] h5) (afterK [0, 1, 2, 6] k))) (afterK [0, 1, 2, 6] k))

noncomputable def s_slices_insertionSortOrdered_string_b1 (mg : GT) (mc : CT) (ms : ST) (P : Program) (C : CallF) (L0 : Value → Value → Value → Value → AHeap → K → Res) (L1 : Value → Value → Value → Value → Value → AHeap → K → Res) (v0 : Value) (v1 : Value) (v2 : Value) (v6 : Value) (v7 : Value) (H : AHeap) (k : K) : Res :=
bareK (xbin P .gtr T.int (.tmp 16) (.tmp 17) v7 v1) H fun t18 h4 =>
mg t18 true (fun o5 => o5 v0 h4) h4 fun t20 h5 =>
mg t18 true (fun o6 => o6 v7 h5) h5 fun t21 h6 =>
mg t18 true (fun o7 => bareK (ixS 1 t20 t21) h6 o7) h6 fun t22 h7 =>
mg t18 true (fun o8 => bareK (ld1 h7 t22) h7 o8) h7 fun t23 h8 =>
mg t18 true (fun o9 => o9 v0 h8) h8 fun t24 h9 =>
mg t18 true (fun o10 => o10 v7 h9) h9 fun t25 h10 =>
mg t18 true (fun o11 => bareK (xbin P .sub T.int (.tmp 25) (.const (.int .i64 1)) t25 (.int .i64 1)) h10 o11) h10 fun t26 h11 =>
mg t18 true (fun o12 => bareK (ixS 1 t24 t26) h11 o12) h11 fun t27 h12 =>
mg t18 true (fun o13 => bareK (ld1 h12 t27) h12 o13) h12 fun t28 h13 =>
mg t18 true (fun o14 => enterK C F.cmp_Less_string [t23, t28] h13 o14) h13 fun t29 h14 =>
pickK t18 t29 (.bool false) fun t30 =>
checkK true <|
mc t30 (fun k15 => k15 .normal [(0, v0), (1, v1), (2, v2), (6, v6), (7, v7)] h14) (fun k15 =>
k15 (.exit 2) [(30, t30), (29, t29), (28, t28), (27, t27), (26, t26), (25, t25), (24, t24), (23, t23), (22, t22), (21, t21), (20, t20), (19, t18), (18, t18), (17, v1), (16, v7), (0, v0), (1, v1), (2, v2), (6, v6), (7, v7)] h14) (seqK (fun tT h15 =>
ms (fun k16 =>
bareK (xbin P .sub T.int (.tmp 36) (.const (.int .i64 1)) (get tT 7) (.int .i64 1)) h15 fun t37 h16 =>
bareK (xbin P .sub T.int (.tmp 39) (.const (.int .i64 1)) (get tT 7) (.int .i64 1)) h16 fun t40 h17 =>
bareK (ixS 1 (get tT 0) t40) h17 fun t41 h18 =>
bareK (ld1 h18 t41) h18 fun t42 h19 =>
bareK (ixS 1 (get tT 0) (get tT 7)) h19 fun t45 h20 =>
bareK (ld1 h20 t45) h20 fun t46 h21 =>
bareK (ixS 1 (get tT 0) (get tT 7)) h21 fun t47 h22 =>
quietK (st1 h22 t47 t42) fun _ h23 =>
bareK (ixS 1 (get tT 0) t37) h23 fun t48 h24 =>
quietK (st1 h24 t48 t46) fun _ h25 =>
checkK (okV (some true) none h22 h23 h15 h15 && (okV (some true) none h22 h23 h15 h15 && (okV (some true) none h22 h23 h15 h16 && true))) <|
k16 .normal [(0, (get tT 0)), (1, (get tT 1)), (2, (get tT 2)), (6, (get tT 6)), (7, (get tT 7))] h25) (seqK (fun tT_1 h26 =>
bareK (xbin P .sub T.int (.tmp 31) (.const (.int .i64 1)) (get tT_1 7) (.int .i64 1)) h26 fun t32 h27 =>
k .normal [(0, (get tT_1 0)), (1, (get tT_1 1)), (2, (get tT_1 2)), (6, (get tT_1 6)), (7, t32)] h27) (afterK [0, 1, 2, 6, 7] k))) (afterK [0, 1, 2, 6, 7] k))

theorem s_slices_insertionSortOrdered_string_eq (M : CombL) (C : CallF) (LP : LoopH) (a0 : Value) (a1 : Value) (a2 : Value) (H : AHeap) : dBodyL M Tryd.prog hints C LP F.slices_insertionSortOrdered_string [a0, a1, a2] H = s_slices_insertionSortOrdered_string M.b.g M.c M.s Tryd.prog C (fun v0 v1 v2 v6 H k => loopL M Tryd.prog hints C LP F.slices_insertionSortOrdered_string 0 [(0, v0), (1, v1), (2, v2), (6, v6)] H k) (fun v0 v1 v2 v6 v7 H k => loopL M Tryd.prog hints C LP F.slices_insertionSortOrdered_string 1 [(0, v0), (1, v1), (2, v2), (6, v6), (7, v7)] H k) a0 a1 a2 H (endK Tryd.prog []) := by kernel_rfl

theorem s_slices_insertionSortOrdered_string_b0_eq (M : CombL) (C : CallF) (LP : LoopH) (v0 : Value) (v1 : Value) (v2 : Value) (v6 : Value) (H : AHeap) (k : K) : bodyL M Tryd.prog hints C LP F.slices_insertionSortOrdered_string 0 [(0, v0), (1, v1), (2, v2), (6, v6)] H (afterK [0, 1, 2, 6] k) = s_slices_insertionSortOrdered_string_b0 M.b.g M.c M.s Tryd.prog C (fun v0 v1 v2 v6 H k => loopL M Tryd.prog hints C LP F.slices_insertionSortOrdered_string 0 [(0, v0), (1, v1), (2, v2), (6, v6)] H k) (fun v0 v1 v2 v6 v7 H k => loopL M Tryd.prog hints C LP F.slices_insertionSortOrdered_string 1 [(0, v0), (1, v1), (2, v2), (6, v6), (7, v7)] H k) v0 v1 v2 v6 H k := by kernel_rfl

theorem s_slices_insertionSortOrdered_string_b1_eq (M : CombL) (C : CallF) (LP : LoopH) (v0 : Value) (v1 : Value) (v2 : Value) (v6 : Value) (v7 : Value) (H : AHeap) (k : K) : bodyL M Tryd.prog hints C LP F.slices_insertionSortOrdered_string 1 [(0, v0), (1, v1), (2, v2), (6, v6), (7, v7)] H (afterK [0, 1, 2, 6, 7] k) = s_slices_insertionSortOrdered_string_b1 M.b.g M.c M.s Tryd.prog C (fun v0 v1 v2 v6 H k => loopL M Tryd.prog hints C LP F.slices_insertionSortOrdered_string 0 [(0, v0), (1, v1), (2, v2), (6, v6)] H k) (fun v0 v1 v2 v6 v7 H k => loopL M Tryd.prog hints C LP F.slices_insertionSortOrdered_string 1 [(0, v0), (1, v1), (2, v2), (6, v6), (7, v7)] H k) v0 v1 v2 v6 v7 H k := by kernel_rfl

/-! slices.heapSortOrdered[string] -/

noncomputable def s_slices_heapSortOrdered_string (mg : GT) (mc : CT) (ms : ST) (P : Program) (C : CallF) (L0 : Value → Value → Value → Value → Value → AHeap → K → Res) (L1 : Value → Value → Value → Value → AHeap → K → Res) (a0 : Value) (a1 : Value) (a2 : Value) (H : AHeap) (K0 : K) : Res :=
bareK (xbin P .sub T.int (.tmp 12) (.tmp 13) a2 a1) H fun t14 h1 =>
bareK (xbin P .sub T.int (.tmp 15) (.const (.int .i64 1)) t14 (.int .i64 1)) h1 fun t16 h2 =>
bareK (xbin P .quo T.int (.tmp 16) (.const (.int .i64 2)) t16 (.int .i64 2)) h2 fun t17 h3 =>
ms (fun k1 =>
L0 a0 a1 (.int .i64 0) t14 t17 h3 (blkK [0, 6, 7, 8] 0 k1)) (seqK (fun tT h4 =>
bareK (xbin P .sub T.int (.tmp 27) (.const (.int .i64 1)) (get tT 8) (.int .i64 1)) h4 fun t28 h5 =>
ms (fun k2 =>
L1 (get tT 0) (get tT 6) (get tT 7) t28 h5 (blkK [] 2 k2)) K0) K0)

noncomputable def s_slices_heapSortOrdered_string_b0 (mg : GT) (mc : CT) (ms : ST) (P : Program) (C : CallF) (L0 : Value → Value → Value → Value → Value → AHeap → K → Res) (L1 : Value → Value → Value → Value → AHeap → K → Res) (v0 : Value) (v6 : Value) (v7 : Value) (v8 : Value) (v9 : Value) (H : AHeap) (k : K) : Res :=
bareK (xbin P .geq T.int (.tmp 18) (.const (.int .i64 0)) v9 (.int .i64 0)) H fun t19 h4 =>
mc t19 (fun k2 => k2 .normal [(0, v0), (6, v6), (7, v7), (8, v8), (9, v9)] h4) (fun k2 =>
k2 (.exit 0) [(19, t19), (18, v9), (0, v0), (6, v6), (7, v7), (8, v8), (9, v9)] h4) (seqK (fun tT h5 =>
ms (fun k3 =>
enterK C F.slices_siftDownOrdered_string [(get tT 0), (get tT 9), (get tT 8), (get tT 6)] h5 fun t26 h6 =>
k3 .normal [(0, (get tT 0)), (6, (get tT 6)), (7, (get tT 7)), (8, (get tT 8)), (9, (get tT 9))] h6) (seqK (fun tT_1 h7 =>
bareK (xbin P .sub T.int (.tmp 20) (.const (.int .i64 1)) (get tT_1 9) (.int .i64 1)) h7 fun t21 h8 =>
k .normal [(0, (get tT_1 0)), (6, (get tT_1 6)), (7, (get tT_1 7)), (8, (get tT_1 8)), (9, t21)] h8) (afterK [0, 6, 7, 8, 9] k))) (afterK [0, 6, 7, 8, 9] k))

noncomputable def s_slices_heapSortOrdered_string_b1 (mg : GT) (mc : CT) (ms : ST) (P : Program) (C : CallF) (L0 : Value → Value → Value → Value → Value → AHeap → K → Res) (L1 : Value → Value → Value → Value → AHeap → K → Res) (v0 : Value) (v6 : Value) (v7 : Value) (v10 : Value) (H : AHeap) (k : K) : Res :=
bareK (xbin P .geq T.int (.tmp 29) (.const (.int .i64 0)) v10 (.int .i64 0)) H fun t30 h6 =>
mc t30 (fun k3 => k3 .normal [(0, v0), (6, v6), (7, v7), (10, v10)] h6) (fun k3 =>
k3 (.exit 2) [(30, t30), (29, v10), (0, v0), (6, v6), (7, v7), (10, v10)] h6) (seqK (fun tT h7 =>
ms (fun k4 =>
bareK (xbin P .add T.int (.tmp 36) (.tmp 37) (get tT 6) (get tT 10)) h7 fun t38 h8 =>
bareK (xbin P .add T.int (.tmp 40) (.tmp 41) (get tT 6) (get tT 10)) h8 fun t42 h9 =>
bareK (ixS 1 (get tT 0) t42) h9 fun t43 h10 =>
bareK (ld1 h10 t43) h10 fun t44 h11 =>
bareK (ixS 1 (get tT 0) (get tT 6)) h11 fun t47 h12 =>
bareK (ld1 h12 t47) h12 fun t48 h13 =>
bareK (ixS 1 (get tT 0) (get tT 6)) h13 fun t49 h14 =>
quietK (st1 h14 t49 t44) fun _ h15 =>
bareK (ixS 1 (get tT 0) t38) h15 fun t50 h16 =>
quietK (st1 h16 t50 t48) fun _ h17 =>
checkK (okV (some true) none h14 h15 h7 h7 && (okV (some true) none h14 h15 h7 h7 && (okV (some true) none h14 h15 h7 h7 && (okV (some true) none h14 h15 h7 h8 && true)))) <|
enterK C F.slices_siftDownOrdered_string [(get tT 0), (get tT 7), (get tT 10), (get tT 6)] h17 fun t55 h18 =>
k4 .normal [(0, (get tT 0)), (6, (get tT 6)), (7, (get tT 7)), (10, (get tT 10))] h18) (seqK (fun tT_1 h19 =>
bareK (xbin P .sub T.int (.tmp 31) (.const (.int .i64 1)) (get tT_1 10) (.int .i64 1)) h19 fun t32 h20 =>
k .normal [(0, (get tT_1 0)), (6, (get tT_1 6)), (7, (get tT_1 7)), (10, t32)] h20) (afterK [0, 6, 7, 10] k))) (afterK [0, 6, 7, 10] k))

theorem s_slices_heapSortOrdered_string_eq (M : CombL) (C : CallF) (LP : LoopH) (a0 : Value) (a1 : Value) (a2 : Value) (H : AHeap) : dBodyL M Tryd.prog hints C LP F.slices_heapSortOrdered_string [a0, a1, a2] H = s_slices_heapSortOrdered_string M.b.g M.c M.s Tryd.prog C (fun v0 v6 v7 v8 v9 H k => loopL M Tryd.prog hints C LP F.slices_heapSortOrdered_string 0 [(0, v0), (6, v6), (7, v7), (8, v8), (9, v9)] H k) (fun v0 v6 v7 v10 H k => loopL M Tryd.prog hints C LP F.slices_heapSortOrdered_string 1 [(0, v0), (6, v6), (7, v7), (10, v10)] H k) a0 a1 a2 H (endK Tryd.prog []) := by kernel_rfl

theorem s_slices_heapSortOrdered_string_b0_eq (M : CombL) (C : CallF) (LP : LoopH) (v0 : Value) (v6 : Value) (v7 : Value) (v8 : Value) (v9 : Value) (H : AHeap) (k : K) : bodyL M Tryd.prog hints C LP F.slices_heapSortOrdered_string 0 [(0, v0), (6, v6), (7, v7), (8, v8), (9, v9)] H (afterK [0, 6, 7, 8, 9] k) = s_slices_heapSortOrdered_string_b0 M.b.g M.c M.s Tryd.prog C (fun v0 v6 v7 v8 v9 H k => loopL M Tryd.prog hints C LP F.slices_heapSortOrdered_string 0 [(0, v0), (6, v6), (7, v7), (8, v8), (9, v9)] H k) (fun v0 v6 v7 v10 H k => loopL M Tryd.prog hints C LP F.slices_heapSortOrdered_string 1 [(0, v0), (6, v6), (7, v7), (10, v10)] H k) v0 v6 v7 v8 v9 H k := by kernel_rfl

theorem s_slices_heapSortOrdered_string_b1_eq (M : CombL) (C : CallF) (LP : LoopH) (v0 : Value) (v6 : Value) (v7 : Value) (v10 : Value) (H : AHeap) (k : K) : bodyL M Tryd.prog hints C LP F.slices_heapSortOrdered_string 1 [(0, v0), (6, v6), (7, v7), (10, v10)] H (afterK [0, 6, 7, 10] k) = s_slices_heapSortOrdered_string_b1 M.b.g M.c M.s Tryd.prog C (fun v0 v6 v7 v8 v9 H k => loopL M Tryd.prog hints C LP F.slices_heapSortOrdered_string 0 [(0, v0), (6, v6), (7, v7), (8, v8), (9, v9)] H k) (fun v0 v6 v7 v10 H k => loopL M Tryd.prog hints C LP F.slices_heapSortOrdered_string 1 [(0, v0), (6, v6), (7, v7), (10, v10)] H k) v0 v6 v7 v10 H k := by kernel_rfl

/-! slices.breakPatternsOrdered[string] -/

noncomputable def s_slices_breakPatternsOrdered_string (mg : GT) (mc : CT) (ms : ST) (P : Program) (C : CallF) (L0 : Value → Value → Value → Value → Value → Value → AHeap → K → Res) (a0 : Value) (a1 : Value) (a2 : Value) (H : AHeap) (K0 : K) : Res :=
bareK (xbin P .sub T.int (.tmp 11) (.tmp 12) a2 a1) H fun t13 h1 =>
bareK (xbin P .geq T.int (.tmp 14) (.const (.int .i64 8)) t13 (.int .i64 8)) h1 fun t15 h2 =>
mc t15 (fun k1 => bothK (xconv P T.int T.slices_xorshift t13 h2) fun t17 h3 =>
bothK (newv T.slices_xorshift (.int .u64 0) h3) fun t7 h4 =>
quietK (st1 h4 t7 t17) fun _ h5 =>
enterK C F.slices_nextPowerOfTwo [t13] h5 fun t19 h6 =>
bareK (xbin P .quo T.int (.tmp 21) (.const (.int .i64 4)) t13 (.int .i64 4)) h6 fun t22 h7 =>
bareK (xbin P .mul T.int (.tmp 22) (.const (.int .i64 2)) t22 (.int .i64 2)) h7 fun t23 h8 =>
bareK (xbin P .add T.int (.tmp 20) (.tmp 23) a1 t23) h8 fun t24 h9 =>
bareK (xbin P .sub T.int (.tmp 24) (.const (.int .i64 1)) t24 (.int .i64 1)) h9 fun t25 h10 =>
ms (fun k2 =>
L0 a0 a1 t13 t7 t19 t25 h10 (blkK [] 0 k2)) (afterK [] k1)) (fun k1 =>
k1 .normal [] h2) K0

noncomputable def s_slices_breakPatternsOrdered_string_b0 (mg : GT) (mc : CT) (ms : ST) (P : Program) (C : CallF) (L0 : Value → Value → Value → Value → Value → Value → AHeap → K → Res) (v0 : Value) (v1 : Value) (v6 : Value) (v7 : Value) (v8 : Value) (v9 : Value) (H : AHeap) (k : K) : Res :=
bareK (xbin P .quo T.int (.tmp 28) (.const (.int .i64 4)) v6 (.int .i64 4)) H fun t29 h11 =>
bareK (xbin P .mul T.int (.tmp 29) (.const (.int .i64 2)) t29 (.int .i64 2)) h11 fun t30 h12 =>
bareK (xbin P .add T.int (.tmp 27) (.tmp 30) v1 t30) h12 fun t31 h13 =>
bareK (xbin P .add T.int (.tmp 31) (.const (.int .i64 1)) t31 (.int .i64 1)) h13 fun t32 h14 =>
bareK (xbin P .leq T.int (.tmp 26) (.tmp 32) v9 t32) h14 fun t33 h15 =>
mc t33 (fun k3 => k3 .normal [(0, v0), (1, v1), (6, v6), (7, v7), (8, v8), (9, v9)] h15) (fun k3 =>
k3 (.exit 0) [(33, t33), (32, t32), (31, t31), (30, t30), (29, t29), (28, v6), (27, v1), (26, v9), (0, v0), (1, v1), (6, v6), (7, v7), (8, v8), (9, v9)] h15) (seqK (fun tT h16 =>
ms (fun k4 =>
enterK C F.slices_xorshift_Next [(get tT 7)] h16 fun t36 h17 =>
bareK (xbin P .sub T.uint (.tmp 37) (.const (.int .u64 1)) (get tT 8) (.int .u64 1)) h17 fun t38 h18 =>
bareK (xbin P .and T.uint (.tmp 36) (.tmp 38) t36 t38) h18 fun t39 h19 =>
bothK (xconv P T.uint T.int t39 h19) fun t40 h20 =>
bareK (xbin P .geq T.int (.tmp 41) (.tmp 42) t40 (get tT 6)) h20 fun t43 h21 =>
mc t43 (fun k5 => bareK (xbin P .sub T.int (.tmp 44) (.tmp 45) t40 (get tT 6)) h21 fun t46 h22 =>
k5 .normal [(0, (get tT 0)), (1, (get tT 1)), (6, (get tT 6)), (7, (get tT 7)), (8, (get tT 8)), (9, (get tT 9)), (10, t46)] h22) (fun k5 =>
k5 .normal [(0, (get tT 0)), (1, (get tT 1)), (6, (get tT 6)), (7, (get tT 7)), (8, (get tT 8)), (9, (get tT 9)), (10, t40)] h21) (seqK (fun tT_1 h23 =>
bareK (xbin P .add T.int (.tmp 50) (.tmp 51) (get tT_1 1) (get tT_1 10)) h23 fun t52 h24 =>
bareK (xbin P .add T.int (.tmp 54) (.tmp 55) (get tT_1 1) (get tT_1 10)) h24 fun t56 h25 =>
bareK (ixS 1 (get tT_1 0) t56) h25 fun t57 h26 =>
bareK (ld1 h26 t57) h26 fun t58 h27 =>
bareK (ixS 1 (get tT_1 0) (get tT_1 9)) h27 fun t61 h28 =>
bareK (ld1 h28 t61) h28 fun t62 h29 =>
bareK (ixS 1 (get tT_1 0) (get tT_1 9)) h29 fun t63 h30 =>
quietK (st1 h30 t63 t58) fun _ h31 =>
bareK (ixS 1 (get tT_1 0) t52) h31 fun t64 h32 =>
quietK (st1 h32 t64 t62) fun _ h33 =>
checkK (okV (some true) none h30 h31 h23 h23 && (okV (some true) none h30 h31 h23 h23 && (okV (some true) none h30 h31 h23 h23 && (okV (some true) none h30 h31 h23 h24 && true)))) <|
k4 .normal [(0, (get tT_1 0)), (1, (get tT_1 1)), (6, (get tT_1 6)), (7, (get tT_1 7)), (8, (get tT_1 8)), (9, (get tT_1 9))] h33) (blkK [0, 1, 6, 7, 8, 9] 1 k4))) (seqK (fun tT_2 h34 =>
bareK (xbin P .add T.int (.tmp 34) (.const (.int .i64 1)) (get tT_2 9) (.int .i64 1)) h34 fun t35 h35 =>
k .normal [(0, (get tT_2 0)), (1, (get tT_2 1)), (6, (get tT_2 6)), (7, (get tT_2 7)), (8, (get tT_2 8)), (9, t35)] h35) (afterK [0, 1, 6, 7, 8, 9] k))) (afterK [0, 1, 6, 7, 8, 9] k))

theorem s_slices_breakPatternsOrdered_string_eq (M : CombL) (C : CallF) (LP : LoopH) (a0 : Value) (a1 : Value) (a2 : Value) (H : AHeap) : dBodyL M Tryd.prog hints C LP F.slices_breakPatternsOrdered_string [a0, a1, a2] H = s_slices_breakPatternsOrdered_string M.b.g M.c M.s Tryd.prog C (fun v0 v1 v6 v7 v8 v9 H k => loopL M Tryd.prog hints C LP F.slices_breakPatternsOrdered_string 0 [(0, v0), (1, v1), (6, v6), (7, v7), (8, v8), (9, v9)] H k) a0 a1 a2 H (endK Tryd.prog []) := by kernel_rfl

theorem s_slices_breakPatternsOrdered_string_b0_eq (M : CombL) (C : CallF) (LP : LoopH) (v0 : Value) (v1 : Value) (v6 : Value) (v7 : Value) (v8 : Value) (v9 : Value) (H : AHeap) (k : K) : bodyL M Tryd.prog hints C LP F.slices_breakPatternsOrdered_string 0 [(0, v0), (1, v1), (6, v6), (7, v7), (8, v8), (9, v9)] H (afterK [0, 1, 6, 7, 8, 9] k) = s_slices_breakPatternsOrdered_string_b0 M.b.g M.c M.s Tryd.prog C (fun v0 v1 v6 v7 v8 v9 H k => loopL M Tryd.prog hints C LP F.slices_breakPatternsOrdered_string 0 [(0, v0), (1, v1), (6, v6), (7, v7), (8, v8), (9, v9)] H k) v0 v1 v6 v7 v8 v9 H k := by kernel_rfl

/-! slices.choosePivotOrdered[string] -/

noncomputable def s_slices_choosePivotOrdered_string (mg : GT) (mc : CT) (ms : ST) (P : Program) (C : CallF) (a0 : Value) (a1 : Value) (a2 : Value) (H : AHeap) (K0 : K) : Res :=
bareK (xbin P .sub T.int (.tmp 13) (.tmp 14) a2 a1) H fun t15 h1 =>
bothK (newv T.int (.int .i64 0) h1) fun t9 h2 =>
bareK (xbin P .quo T.int (.tmp 17) (.const (.int .i64 4)) t15 (.int .i64 4)) h2 fun t18 h3 =>
bareK (xbin P .mul T.int (.tmp 18) (.const (.int .i64 1)) t18 (.int .i64 1)) h3 fun t19 h4 =>
bareK (xbin P .add T.int (.tmp 16) (.tmp 19) a1 t19) h4 fun t20 h5 =>
bareK (xbin P .quo T.int (.tmp 22) (.const (.int .i64 4)) t15 (.int .i64 4)) h5 fun t23 h6 =>
bareK (xbin P .mul T.int (.tmp 23) (.const (.int .i64 2)) t23 (.int .i64 2)) h6 fun t24 h7 =>
bareK (xbin P .add T.int (.tmp 21) (.tmp 24) a1 t24) h7 fun t25 h8 =>
bareK (xbin P .quo T.int (.tmp 27) (.const (.int .i64 4)) t15 (.int .i64 4)) h8 fun t28 h9 =>
bareK (xbin P .mul T.int (.tmp 28) (.const (.int .i64 3)) t28 (.int .i64 3)) h9 fun t29 h10 =>
bareK (xbin P .add T.int (.tmp 26) (.tmp 29) a1 t29) h10 fun t30 h11 =>
bareK (xbin P .geq T.int (.tmp 31) (.const (.int .i64 8)) t15 (.int .i64 8)) h11 fun t32 h12 =>
mc t32 (fun k1 => bareK (xbin P .geq T.int (.tmp 33) (.const (.int .i64 50)) t15 (.int .i64 50)) h12 fun t34 h13 =>
mc t34 (fun k2 => enterK C F.slices_medianAdjacentOrdered_string [a0, t20, t9] h13 fun t37 h14 =>
enterK C F.slices_medianAdjacentOrdered_string [a0, t25, t9] h14 fun t40 h15 =>
enterK C F.slices_medianAdjacentOrdered_string [a0, t30, t9] h15 fun t43 h16 =>
k2 .normal [(0, a0), (9, t9), (10, t37), (11, t40), (12, t43)] h16) (fun k2 =>
k2 .normal [(0, a0), (9, t9), (10, t20), (11, t25), (12, t30)] h13) (seqK (fun tT h17 =>
enterK C F.slices_medianOrdered_string [(get tT 0), (get tT 10), (get tT 11), (get tT 12), (get tT 9)] h17 fun t48 h18 =>
k1 .normal [(9, (get tT 9)), (11, t48)] h18) (afterK [9, 11] k1))) (fun k1 =>
k1 .normal [(9, t9), (11, t25)] h12) (seqK (fun tT_1 h19 =>
bareK (ld1 h19 (get tT_1 9)) h19 fun t49 h20 =>
ms (fun k3 =>
bareK (xbin P .eql T.int (.tmp 49) (.const (.int .i64 0)) t49 (.int .i64 0)) h20 fun t52 h21 =>
mc t52 (fun k4 => k4 .ret [(6, (get tT_1 11)), (7, (.int .i64 1))] h21) (fun k4 =>
bareK (xbin P .eql T.int (.tmp 49) (.const (.int .i64 12)) t49 (.int .i64 12)) h21 fun t55 h22 =>
mc t55 (fun k5 => k5 .ret [(6, (get tT_1 11)), (7, (.int .i64 2))] h22) (fun k5 =>
k5 .ret [(6, (get tT_1 11)), (7, (.int .i64 0))] h22) (afterK [6, 7] k4)) (blkK [6, 7] 0 k3)) K0) K0)

theorem s_slices_choosePivotOrdered_string_eq (M : CombL) (C : CallF) (LP : LoopH) (a0 : Value) (a1 : Value) (a2 : Value) (H : AHeap) : dBodyL M Tryd.prog hints C LP F.slices_choosePivotOrdered_string [a0, a1, a2] H = s_slices_choosePivotOrdered_string M.b.g M.c M.s Tryd.prog C a0 a1 a2 H (endK Tryd.prog [.tmp 6, .tmp 7]) := by kernel_rfl

/-! slices.reverseRangeOrdered[string] -/

noncomputable def s_slices_reverseRangeOrdered_string (mg : GT) (mc : CT) (ms : ST) (P : Program) (C : CallF) (L0 : Value → Value → Value → AHeap → K → Res) (a0 : Value) (a1 : Value) (a2 : Value) (H : AHeap) (K0 : K) : Res :=
bareK (xbin P .sub T.int (.tmp 9) (.const (.int .i64 1)) a2 (.int .i64 1)) H fun t10 h1 =>
ms (fun k1 =>
L0 a0 a1 t10 h1 (blkK [] 0 k1)) K0

noncomputable def s_slices_reverseRangeOrdered_string_b0 (mg : GT) (mc : CT) (ms : ST) (P : Program) (C : CallF) (L0 : Value → Value → Value → AHeap → K → Res) (v0 : Value) (v6 : Value) (v7 : Value) (H : AHeap) (k : K) : Res :=
bareK (xbin P .lss T.int (.tmp 11) (.tmp 12) v6 v7) H fun t13 h2 =>
mc t13 (fun k2 => k2 .normal [(0, v0), (6, v6), (7, v7)] h2) (fun k2 =>
k2 (.exit 0) [(13, t13), (12, v7), (11, v6), (0, v0), (6, v6), (7, v7)] h2) (seqK (fun tT h3 =>
ms (fun k3 =>
bareK (ixS 1 (get tT 0) (get tT 7)) h3 fun t20 h4 =>
bareK (ld1 h4 t20) h4 fun t21 h5 =>
bareK (ixS 1 (get tT 0) (get tT 6)) h5 fun t24 h6 =>
bareK (ld1 h6 t24) h6 fun t25 h7 =>
bareK (ixS 1 (get tT 0) (get tT 6)) h7 fun t26 h8 =>
quietK (st1 h8 t26 t21) fun _ h9 =>
bareK (ixS 1 (get tT 0) (get tT 7)) h9 fun t27 h10 =>
quietK (st1 h10 t27 t25) fun _ h11 =>
checkK (okV (some true) none h8 h9 h3 h3 && (okV (some true) none h8 h9 h3 h3 && true)) <|
bareK (xbin P .add T.int (.tmp 28) (.const (.int .i64 1)) (get tT 6) (.int .i64 1)) h11 fun t29 h12 =>
bareK (xbin P .sub T.int (.tmp 30) (.const (.int .i64 1)) (get tT 7) (.int .i64 1)) h12 fun t31 h13 =>
k3 .normal [(0, (get tT 0)), (6, t29), (7, t31)] h13) (afterK [0, 6, 7] k)) (afterK [0, 6, 7] k))

theorem s_slices_reverseRangeOrdered_string_eq (M : CombL) (C : CallF) (LP : LoopH) (a0 : Value) (a1 : Value) (a2 : Value) (H : AHeap) : dBodyL M Tryd.prog hints C LP F.slices_reverseRangeOrdered_string [a0, a1, a2] H = s_slices_reverseRangeOrdered_string M.b.g M.c M.s Tryd.prog C (fun v0 v6 v7 H k => loopL M Tryd.prog hints C LP F.slices_reverseRangeOrdered_string 0 [(0, v0), (6, v6), (7, v7)] H k) a0 a1 a2 H (endK Tryd.prog []) := by kernel_rfl

theorem s_slices_reverseRangeOrdered_string_b0_eq (M : CombL) (C : CallF) (LP : LoopH) (v0 : Value) (v6 : Value) (v7 : Value) (H : AHeap) (k : K) : bodyL M Tryd.prog hints C LP F.slices_reverseRangeOrdered_string 0 [(0, v0), (6, v6), (7, v7)] H (afterK [0, 6, 7] k) = s_slices_reverseRangeOrdered_string_b0 M.b.g M.c M.s Tryd.prog C (fun v0 v6 v7 H k => loopL M Tryd.prog hints C LP F.slices_reverseRangeOrdered_string 0 [(0, v0), (6, v6), (7, v7)] H k) v0 v6 v7 H k := by kernel_rfl

/-! slices.partialInsertionSortOrdered[string] -/

noncomputable def s_slices_partialInsertionSortOrdered_string (mg : GT) (mc : CT) (ms : ST) (P : Program) (C : CallF) (L0 : Value → Value → Value → Value → Value → AHeap → K → Res) (L1 : Value → Value → Value → Value → Value → AHeap → K → Res) (L2 : Value → Value → Value → Value → Value → Value → AHeap → K → Res) (L3 : Value → Value → Value → Value → Value → Value → AHeap → K → Res) (a0 : Value) (a1 : Value) (a2 : Value) (H : AHeap) (K0 : K) : Res :=
bareK (xbin P .add T.int (.tmp 11) (.const (.int .i64 1)) a1 (.int .i64 1)) H fun t12 h1 =>
ms (fun k1 =>
L0 a0 a1 a2 t12 (.int .i64 0) h1 (blkK [] 0 k1)) (seqK (fun tT h2 =>
K0 .ret [(6, (.bool false))] h2) K0)

noncomputable def s_slices_partialInsertionSortOrdered_string_b0 (mg : GT) (mc : CT) (ms : ST) (P : Program) (C : CallF) (L0 : Value → Value → Value → Value → Value → AHeap → K → Res) (L1 : Value → Value → Value → Value → Value → AHeap → K → Res) (L2 : Value → Value → Value → Value → Value → Value → AHeap → K → Res) (L3 : Value → Value → Value → Value → Value → Value → AHeap → K → Res) (v0 : Value) (v1 : Value) (v2 : Value) (v7 : Value) (v8 : Value) (H : AHeap) (k : K) : Res :=
bareK (xbin P .lss T.int (.tmp 13) (.const (.int .i64 5)) v8 (.int .i64 5)) H fun t14 h2 =>
mc t14 (fun k2 => k2 .normal [(0, v0), (1, v1), (2, v2), (7, v7), (8, v8)] h2) (fun k2 =>
k2 (.exit 0) [(14, t14), (13, v8), (0, v0), (1, v1), (2, v2), (7, v7), (8, v8)] h2) (seqK (fun tT h3 =>
ms (fun k3 =>
ms (fun k4 =>
L1 (get tT 0) (get tT 1) (get tT 2) (get tT 7) (get tT 8) h3 (blkK [0, 1, 2, 7, 8] 2 k4)) (seqK (fun tT_1 h4 =>
bareK (xbin P .eql T.int (.tmp 35) (.tmp 36) (get tT_1 7) (get tT_1 2)) h4 fun t37 h5 =>
mc t37 (fun k5 => k5 .ret [(6, (.bool true))] h5) (fun k5 =>
k5 .normal [(0, (get tT_1 0)), (1, (get tT_1 1)), (2, (get tT_1 2)), (7, (get tT_1 7)), (8, (get tT_1 8))] h5) (seqK (fun tT_2 h6 =>
bareK (xbin P .sub T.int (.tmp 38) (.tmp 39) (get tT_2 2) (get tT_2 1)) h6 fun t40 h7 =>
bareK (xbin P .lss T.int (.tmp 40) (.const (.int .i64 50)) t40 (.int .i64 50)) h7 fun t41 h8 =>
mc t41 (fun k6 => k6 .ret [(6, (.bool false))] h8) (fun k6 =>
k6 .normal [(0, (get tT_2 0)), (1, (get tT_2 1)), (2, (get tT_2 2)), (7, (get tT_2 7)), (8, (get tT_2 8))] h8) (seqK (fun tT_3 h9 =>
bareK (xbin P .sub T.int (.tmp 45) (.const (.int .i64 1)) (get tT_3 7) (.int .i64 1)) h9 fun t46 h10 =>
bareK (xbin P .sub T.int (.tmp 48) (.const (.int .i64 1)) (get tT_3 7) (.int .i64 1)) h10 fun t49 h11 =>
bareK (ixS 1 (get tT_3 0) t49) h11 fun t50 h12 =>
bareK (ld1 h12 t50) h12 fun t51 h13 =>
bareK (ixS 1 (get tT_3 0) (get tT_3 7)) h13 fun t54 h14 =>
bareK (ld1 h14 t54) h14 fun t55 h15 =>
bareK (ixS 1 (get tT_3 0) (get tT_3 7)) h15 fun t56 h16 =>
quietK (st1 h16 t56 t51) fun _ h17 =>
bareK (ixS 1 (get tT_3 0) t46) h17 fun t57 h18 =>
quietK (st1 h18 t57 t55) fun _ h19 =>
checkK (okV (some true) none h16 h17 h9 h9 && (okV (some true) none h16 h17 h9 h9 && (okV (some true) none h16 h17 h9 h10 && true))) <|
bareK (xbin P .sub T.int (.tmp 58) (.tmp 59) (get tT_3 7) (get tT_3 1)) h19 fun t60 h20 =>
bareK (xbin P .geq T.int (.tmp 60) (.const (.int .i64 2)) t60 (.int .i64 2)) h20 fun t61 h21 =>
mc t61 (fun k7 => bareK (xbin P .sub T.int (.tmp 62) (.const (.int .i64 1)) (get tT_3 7) (.int .i64 1)) h21 fun t63 h22 =>
ms (fun k8 =>
L2 (get tT_3 0) (get tT_3 1) (get tT_3 2) (get tT_3 7) (get tT_3 8) t63 h22 (blkK [0, 1, 2, 7, 8] 4 k8)) (afterK [0, 1, 2, 7, 8] k7)) (fun k7 =>
k7 .normal [(0, (get tT_3 0)), (1, (get tT_3 1)), (2, (get tT_3 2)), (7, (get tT_3 7)), (8, (get tT_3 8))] h21) (seqK (fun tT_4 h23 =>
bareK (xbin P .sub T.int (.tmp 95) (.tmp 96) (get tT_4 2) (get tT_4 7)) h23 fun t97 h24 =>
bareK (xbin P .geq T.int (.tmp 97) (.const (.int .i64 2)) t97 (.int .i64 2)) h24 fun t98 h25 =>
mc t98 (fun k9 => bareK (xbin P .add T.int (.tmp 99) (.const (.int .i64 1)) (get tT_4 7) (.int .i64 1)) h25 fun t100 h26 =>
ms (fun k10 =>
L3 (get tT_4 0) (get tT_4 1) (get tT_4 2) (get tT_4 7) (get tT_4 8) t100 h26 (blkK [0, 1, 2, 7, 8] 6 k10)) (afterK [0, 1, 2, 7, 8] k9)) (fun k9 =>
k9 .normal [(0, (get tT_4 0)), (1, (get tT_4 1)), (2, (get tT_4 2)), (7, (get tT_4 7)), (8, (get tT_4 8))] h25) (blkK [0, 1, 2, 7, 8] 1 k3)) (blkK [0, 1, 2, 7, 8] 1 k3))) (blkK [0, 1, 2, 7, 8] 1 k3))) (blkK [0, 1, 2, 7, 8] 1 k3))) (blkK [0, 1, 2, 7, 8] 1 k3))) (seqK (fun tT_5 h27 =>
bareK (xbin P .add T.int (.tmp 15) (.const (.int .i64 1)) (get tT_5 8) (.int .i64 1)) h27 fun t16 h28 =>
k .normal [(0, (get tT_5 0)), (1, (get tT_5 1)), (2, (get tT_5 2)), (7, (get tT_5 7)), (8, t16)] h28) (afterK [0, 1, 2, 7, 8] k))) (afterK [0, 1, 2, 7, 8] k))

noncomputable def s_slices_partialInsertionSortOrdered_string_b1 (mg : GT) (mc : CT) (ms : ST) (P : Program) (C : CallF) (L0 : Value → Value → Value → Value → Value → AHeap → K → Res) (L1 : Value → Value → Value → Value → Value → AHeap → K → Res) (L2 : Value → Value → Value → Value → Value → Value → AHeap → K → Res) (L3 : Value → Value → Value → Value → Value → Value → AHeap → K → Res) (v0 : Value) (v1 : Value) (v2 : Value) (v7 : Value) (v8 : Value) (H : AHeap) (k : K) : Res :=
bareK (xbin P .lss T.int (.tmp 17) (.tmp 18) v7 v2) H fun t19 h4 =>
mg t19 true (fun o5 => o5 v0 h4) h4 fun t21 h5 =>
mg t19 true (fun o6 => o6 v7 h5) h5 fun t22 h6 =>
mg t19 true (fun o7 => bareK (ixS 1 t21 t22) h6 o7) h6 fun t23 h7 =>
mg t19 true (fun o8 => bareK (ld1 h7 t23) h7 o8) h7 fun t24 h8 =>
mg t19 true (fun o9 => o9 v0 h8) h8 fun t25 h9 =>
mg t19 true (fun o10 => o10 v7 h9) h9 fun t26 h10 =>
mg t19 true (fun o11 => bareK (xbin P .sub T.int (.tmp 26) (.const (.int .i64 1)) t26 (.int .i64 1)) h10 o11) h10 fun t27 h11 =>
mg t19 true (fun o12 => bareK (ixS 1 t25 t27) h11 o12) h11 fun t28 h12 =>
mg t19 true (fun o13 => bareK (ld1 h12 t28) h12 o13) h12 fun t29 h13 =>
mg t19 true (fun o14 => enterK C F.cmp_Less_string [t24, t29] h13 o14) h13 fun t30 h14 =>
mg t19 true (fun o15 => bareK (xun P .not t30) h14 o15) h14 fun t31 h15 =>
pickK t19 t31 (.bool false) fun t32 =>
checkK true <|
mc t32 (fun k16 => k16 .normal [(0, v0), (1, v1), (2, v2), (7, v7), (8, v8)] h15) (fun k16 =>
k16 (.exit 2) [(32, t32), (31, t31), (30, t30), (29, t29), (28, t28), (27, t27), (26, t26), (25, t25), (24, t24), (23, t23), (22, t22), (21, t21), (20, t19), (19, t19), (18, v2), (17, v7), (0, v0), (1, v1), (2, v2), (7, v7), (8, v8)] h15) (seqK (fun tT h16 =>
ms (fun k17 =>
bareK (xbin P .add T.int (.tmp 33) (.const (.int .i64 1)) (get tT 7) (.int .i64 1)) h16 fun t34 h17 =>
k17 .normal [(0, (get tT 0)), (1, (get tT 1)), (2, (get tT 2)), (7, t34), (8, (get tT 8))] h17) (afterK [0, 1, 2, 7, 8] k)) (afterK [0, 1, 2, 7, 8] k))

noncomputable def s_slices_partialInsertionSortOrdered_string_b2 (mg : GT) (mc : CT) (ms : ST) (P : Program) (C : CallF) (L0 : Value → Value → Value → Value → Value → AHeap → K → Res) (L1 : Value → Value → Value → Value → Value → AHeap → K → Res) (L2 : Value → Value → Value → Value → Value → Value → AHeap → K → Res) (L3 : Value → Value → Value → Value → Value → Value → AHeap → K → Res) (v0 : Value) (v1 : Value) (v2 : Value) (v7 : Value) (v8 : Value) (v9 : Value) (H : AHeap) (k : K) : Res :=
bareK (xbin P .geq T.int (.tmp 64) (.const (.int .i64 1)) v9 (.int .i64 1)) H fun t65 h23 =>
mc t65 (fun k9 => k9 .normal [(0, v0), (1, v1), (2, v2), (7, v7), (8, v8), (9, v9)] h23) (fun k9 =>
k9 (.exit 4) [(65, t65), (64, v9), (0, v0), (1, v1), (2, v2), (7, v7), (8, v8), (9, v9)] h23) (seqK (fun tT h24 =>
ms (fun k10 =>
bareK (ixS 1 (get tT 0) (get tT 9)) h24 fun t70 h25 =>
bareK (ld1 h25 t70) h25 fun t71 h26 =>
bareK (xbin P .sub T.int (.tmp 73) (.const (.int .i64 1)) (get tT 9) (.int .i64 1)) h26 fun t74 h27 =>
bareK (ixS 1 (get tT 0) t74) h27 fun t75 h28 =>
bareK (ld1 h28 t75) h28 fun t76 h29 =>
enterK C F.cmp_Less_string [t71, t76] h29 fun t77 h30 =>
bareK (xun P .not t77) h30 fun t78 h31 =>
checkK true <|
mc t78 (fun k11 => k11 (.exit 4) ((78, t78) :: (77, t77) :: (76, t76) :: (75, t75) :: (74, t74) :: (73, (get tT 9)) :: (72, (get tT 0)) :: (71, t71) :: (70, t70) :: (69, (get tT 9)) :: (68, (get tT 0)) :: tT) h31) (fun k11 =>
k11 .normal [(0, (get tT 0)), (1, (get tT 1)), (2, (get tT 2)), (7, (get tT 7)), (8, (get tT 8)), (9, (get tT 9))] h31) (seqK (fun tT_1 h32 =>
bareK (xbin P .sub T.int (.tmp 82) (.const (.int .i64 1)) (get tT_1 9) (.int .i64 1)) h32 fun t83 h33 =>
bareK (xbin P .sub T.int (.tmp 85) (.const (.int .i64 1)) (get tT_1 9) (.int .i64 1)) h33 fun t86 h34 =>
bareK (ixS 1 (get tT_1 0) t86) h34 fun t87 h35 =>
bareK (ld1 h35 t87) h35 fun t88 h36 =>
bareK (ixS 1 (get tT_1 0) (get tT_1 9)) h36 fun t91 h37 =>
bareK (ld1 h37 t91) h37 fun t92 h38 =>
bareK (ixS 1 (get tT_1 0) (get tT_1 9)) h38 fun t93 h39 =>
quietK (st1 h39 t93 t88) fun _ h40 =>
bareK (ixS 1 (get tT_1 0) t83) h40 fun t94 h41 =>
quietK (st1 h41 t94 t92) fun _ h42 =>
checkK (okV (some true) none h39 h40 h32 h32 && (okV (some true) none h39 h40 h32 h32 && (okV (some true) none h39 h40 h32 h33 && true))) <|
k10 .normal [(0, (get tT_1 0)), (1, (get tT_1 1)), (2, (get tT_1 2)), (7, (get tT_1 7)), (8, (get tT_1 8)), (9, (get tT_1 9))] h42) (blkK [0, 1, 2, 7, 8, 9] 5 k10))) (seqK (fun tT_2 h43 =>
bareK (xbin P .sub T.int (.tmp 66) (.const (.int .i64 1)) (get tT_2 9) (.int .i64 1)) h43 fun t67 h44 =>
k .normal [(0, (get tT_2 0)), (1, (get tT_2 1)), (2, (get tT_2 2)), (7, (get tT_2 7)), (8, (get tT_2 8)), (9, t67)] h44) (afterK [0, 1, 2, 7, 8, 9] k))) (afterK [0, 1, 2, 7, 8, 9] k))

noncomputable def s_slices_partialInsertionSortOrdered_string_b3 (mg : GT) (mc : CT) (ms : ST) (P : Program) (C : CallF) (L0 : Value → Value → Value → Value → Value → AHeap → K → Res) (L1 : Value → Value → Value → Value → Value → AHeap → K → Res) (L2 : Value → Value → Value → Value → Value → Value → AHeap → K → Res) (L3 : Value → Value → Value → Value → Value → Value → AHeap → K → Res) (v0 : Value) (v1 : Value) (v2 : Value) (v7 : Value) (v8 : Value) (v10 : Value) (H : AHeap) (k : K) : Res :=
bareK (xbin P .lss T.int (.tmp 101) (.tmp 102) v10 v2) H fun t103 h27 =>
mc t103 (fun k11 => k11 .normal [(0, v0), (1, v1), (2, v2), (7, v7), (8, v8), (10, v10)] h27) (fun k11 =>
k11 (.exit 6) [(103, t103), (102, v2), (101, v10), (0, v0), (1, v1), (2, v2), (7, v7), (8, v8), (10, v10)] h27) (seqK (fun tT h28 =>
ms (fun k12 =>
bareK (ixS 1 (get tT 0) (get tT 10)) h28 fun t108 h29 =>
bareK (ld1 h29 t108) h29 fun t109 h30 =>
bareK (xbin P .sub T.int (.tmp 111) (.const (.int .i64 1)) (get tT 10) (.int .i64 1)) h30 fun t112 h31 =>
bareK (ixS 1 (get tT 0) t112) h31 fun t113 h32 =>
bareK (ld1 h32 t113) h32 fun t114 h33 =>
enterK C F.cmp_Less_string [t109, t114] h33 fun t115 h34 =>
bareK (xun P .not t115) h34 fun t116 h35 =>
checkK true <|
mc t116 (fun k13 => k13 (.exit 6) ((116, t116) :: (115, t115) :: (114, t114) :: (113, t113) :: (112, t112) :: (111, (get tT 10)) :: (110, (get tT 0)) :: (109, t109) :: (108, t108) :: (107, (get tT 10)) :: (106, (get tT 0)) :: tT) h35) (fun k13 =>
k13 .normal [(0, (get tT 0)), (1, (get tT 1)), (2, (get tT 2)), (7, (get tT 7)), (8, (get tT 8)), (10, (get tT 10))] h35) (seqK (fun tT_1 h36 =>
bareK (xbin P .sub T.int (.tmp 120) (.const (.int .i64 1)) (get tT_1 10) (.int .i64 1)) h36 fun t121 h37 =>
bareK (xbin P .sub T.int (.tmp 123) (.const (.int .i64 1)) (get tT_1 10) (.int .i64 1)) h37 fun t124 h38 =>
bareK (ixS 1 (get tT_1 0) t124) h38 fun t125 h39 =>
bareK (ld1 h39 t125) h39 fun t126 h40 =>
bareK (ixS 1 (get tT_1 0) (get tT_1 10)) h40 fun t129 h41 =>
bareK (ld1 h41 t129) h41 fun t130 h42 =>
bareK (ixS 1 (get tT_1 0) (get tT_1 10)) h42 fun t131 h43 =>
quietK (st1 h43 t131 t126) fun _ h44 =>
bareK (ixS 1 (get tT_1 0) t121) h44 fun t132 h45 =>
quietK (st1 h45 t132 t130) fun _ h46 =>
checkK (okV (some true) none h43 h44 h36 h36 && (okV (some true) none h43 h44 h36 h36 && (okV (some true) none h43 h44 h36 h37 && true))) <|
k12 .normal [(0, (get tT_1 0)), (1, (get tT_1 1)), (2, (get tT_1 2)), (7, (get tT_1 7)), (8, (get tT_1 8)), (10, (get tT_1 10))] h46) (blkK [0, 1, 2, 7, 8, 10] 7 k12))) (seqK (fun tT_2 h47 =>
bareK (xbin P .add T.int (.tmp 104) (.const (.int .i64 1)) (get tT_2 10) (.int .i64 1)) h47 fun t105 h48 =>
k .normal [(0, (get tT_2 0)), (1, (get tT_2 1)), (2, (get tT_2 2)), (7, (get tT_2 7)), (8, (get tT_2 8)), (10, t105)] h48) (afterK [0, 1, 2, 7, 8, 10] k))) (afterK [0, 1, 2, 7, 8, 10] k))

theorem s_slices_partialInsertionSortOrdered_string_eq (M : CombL) (C : CallF) (LP : LoopH) (a0 : Value) (a1 : Value) (a2 : Value) (H : AHeap) : dBodyL M Tryd.prog hints C LP F.slices_partialInsertionSortOrdered_string [a0, a1, a2] H = s_slices_partialInsertionSortOrdered_string M.b.g M.c M.s Tryd.prog C (fun v0 v1 v2 v7 v8 H k => loopL M Tryd.prog hints C LP F.slices_partialInsertionSortOrdered_string 0 [(0, v0), (1, v1), (2, v2), (7, v7), (8, v8)] H k) (fun v0 v1 v2 v7 v8 H k => loopL M Tryd.prog hints C LP F.slices_partialInsertionSortOrdered_string 1 [(0, v0), (1, v1), (2, v2), (7, v7), (8, v8)] H k) (fun v0 v1 v2 v7 v8 v9 H k => loopL M Tryd.prog hints C LP F.slices_partialInsertionSortOrdered_string 2 [(0, v0), (1, v1), (2, v2), (7, v7), (8, v8), (9, v9)] H k) (fun v0 v1 v2 v7 v8 v10 H k => loopL M Tryd.prog hints C LP F.slices_partialInsertionSortOrdered_string 3 [(0, v0), (1, v1), (2, v2), (7, v7), (8, v8), (10, v10)] H k) a0 a1 a2 H (endK Tryd.prog [.tmp 6]) := by kernel_rfl

theorem s_slices_partialInsertionSortOrdered_string_b0_eq (M : CombL) (C : CallF) (LP : LoopH) (v0 : Value) (v1 : Value) (v2 : Value) (v7 : Value) (v8 : Value) (H : AHeap) (k : K) : bodyL M Tryd.prog hints C LP F.slices_partialInsertionSortOrdered_string 0 [(0, v0), (1, v1), (2, v2), (7, v7), (8, v8)] H (afterK [0, 1, 2, 7, 8] k) = s_slices_partialInsertionSortOrdered_string_b0 M.b.g M.c M.s Tryd.prog C (fun v0 v1 v2 v7 v8 H k => loopL M Tryd.prog hints C LP F.slices_partialInsertionSortOrdered_string 0 [(0, v0), (1, v1), (2, v2), (7, v7), (8, v8)] H k) (fun v0 v1 v2 v7 v8 H k => loopL M Tryd.prog hints C LP F.slices_partialInsertionSortOrdered_string 1 [(0, v0), (1, v1), (2, v2), (7, v7), (8, v8)] H k) (fun v0 v1 v2 v7 v8 v9 H k => loopL M Tryd.prog hints C LP F.slices_partialInsertionSortOrdered_string 2 [(0, v0), (1, v1), (2, v2), (7, v7), (8, v8), (9, v9)] H k) (fun v0 v1 v2 v7 v8 v10 H k => loopL M Tryd.prog hints C LP F.slices_partialInsertionSortOrdered_string 3 [(0, v0), (1, v1), (2, v2), (7, v7), (8, v8), (10, v10)] H k) v0 v1 v2 v7 v8 H k := by kernel_rfl

theorem s_slices_partialInsertionSortOrdered_string_b1_eq (M : CombL) (C : CallF) (LP : LoopH) (v0 : Value) (v1 : Value) (v2 : Value) (v7 : Value) (v8 : Value) (H : AHeap) (k : K) : bodyL M Tryd.prog hints C LP F.slices_partialInsertionSortOrdered_string 1 [(0, v0), (1, v1), (2, v2), (7, v7), (8, v8)] H (afterK [0, 1, 2, 7, 8] k) = s_slices_partialInsertionSortOrdered_string_b1 M.b.g M.c M.s Tryd.prog C (fun v0 v1 v2 v7 v8 H k => loopL M Tryd.prog hints C LP F.slices_partialInsertionSortOrdered_string 0 [(0, v0), (1, v1), (2, v2), (7, v7), (8, v8)] H k) (fun v0 v1 v2 v7 v8 H k => loopL M Tryd.prog hints C LP F.slices_partialInsertionSortOrdered_string 1 [(0, v0), (1, v1), (2, v2), (7, v7), (8, v8)] H k) (fun v0 v1 v2 v7 v8 v9 H k => loopL M Tryd.prog hints C LP F.slices_partialInsertionSortOrdered_string 2 [(0, v0), (1, v1), (2, v2), (7, v7), (8, v8), (9, v9)] H k) (fun v0 v1 v2 v7 v8 v10 H k => loopL M Tryd.prog hints C LP F.slices_partialInsertionSortOrdered_string 3 [(0, v0), (1, v1), (2, v2), (7, v7), (8, v8), (10, v10)] H k) v0 v1 v2 v7 v8 H k := by kernel_rfl

theorem s_slices_partialInsertionSortOrdered_string_b2_eq (M : CombL) (C : CallF) (LP : LoopH) (v0 : Value) (v1 : Value) (v2 : Value) (v7 : Value) (v8 : Value) (v9 : Value) (H : AHeap) (k : K) : bodyL M Tryd.prog hints C LP F.slices_partialInsertionSortOrdered_string 2 [(0, v0), (1, v1), (2, v2), (7, v7), (8, v8), (9, v9)] H (afterK [0, 1, 2, 7, 8, 9] k) = s_slices_partialInsertionSortOrdered_string_b2 M.b.g M.c M.s Tryd.prog C (fun v0 v1 v2 v7 v8 H k => loopL M Tryd.prog hints C LP F.slices_partialInsertionSortOrdered_string 0 [(0, v0), (1, v1), (2, v2), (7, v7), (8, v8)] H k) (fun v0 v1 v2 v7 v8 H k => loopL M Tryd.prog hints C LP F.slices_partialInsertionSortOrdered_string 1 [(0, v0), (1, v1), (2, v2), (7, v7), (8, v8)] H k) (fun v0 v1 v2 v7 v8 v9 H k => loopL M Tryd.prog hints C LP F.slices_partialInsertionSortOrdered_string 2 [(0, v0), (1, v1), (2, v2), (7, v7), (8, v8), (9, v9)] H k) (fun v0 v1 v2 v7 v8 v10 H k => loopL M Tryd.prog hints C LP F.slices_partialInsertionSortOrdered_string 3 [(0, v0), (1, v1), (2, v2), (7, v7), (8, v8), (10, v10)] H k) v0 v1 v2 v7 v8 v9 H k := by kernel_rfl

theorem s_slices_partialInsertionSortOrdered_string_b3_eq (M : CombL) (C : CallF) (LP : LoopH) (v0 : Value) (v1 : Value) (v2 : Value) (v7 : Value) (v8 : Value) (v10 : Value) (H : AHeap) (k : K) : bodyL M Tryd.prog hints C LP F.slices_partialInsertionSortOrdered_string 3 [(0, v0), (1, v1), (2, v2), (7, v7), (8, v8), (10, v10)] H (afterK [0, 1, 2, 7, 8, 10] k) = s_slices_partialInsertionSortOrdered_string_b3 M.b.g M.c M.s Tryd.prog C (fun v0 v1 v2 v7 v8 H k => loopL M Tryd.prog hints C LP F.slices_partialInsertionSortOrdered_string 0 [(0, v0), (1, v1), (2, v2), (7, v7), (8, v8)] H k) (fun v0 v1 v2 v7 v8 H k => loopL M Tryd.prog hints C LP F.slices_partialInsertionSortOrdered_string 1 [(0, v0), (1, v1), (2, v2), (7, v7), (8, v8)] H k) (fun v0 v1 v2 v7 v8 v9 H k => loopL M Tryd.prog hints C LP F.slices_partialInsertionSortOrdered_string 2 [(0, v0), (1, v1), (2, v2), (7, v7), (8, v8), (9, v9)] H k) (fun v0 v1 v2 v7 v8 v10 H k => loopL M Tryd.prog hints C LP F.slices_partialInsertionSortOrdered_string 3 [(0, v0), (1, v1), (2, v2), (7, v7), (8, v8), (10, v10)] H k) v0 v1 v2 v7 v8 v10 H k := by kernel_rfl

/-! cmp.Less[string] -/

noncomputable def s_cmp_Less_string (mg : GT) (mc : CT) (ms : ST) (P : Program) (C : CallF) (a0 : Value) (a1 : Value) (H : AHeap) (K0 : K) : Res :=
enterK C F.cmp_isNaN_string [a0] H fun t6 h1 =>
mg t6 true (fun o1 => o1 a1 h1) h1 fun t8 h2 =>
mg t6 true (fun o2 => enterK C F.cmp_isNaN_string [t8] h2 o2) h2 fun t9 h3 =>
mg t6 true (fun o3 => bareK (xun P .not t9) h3 o3) h3 fun t10 h4 =>
pickK t6 t10 (.bool false) fun t11 =>
mg t11 false (fun o4 => o4 a0 h4) h4 fun t13 h5 =>
mg t11 false (fun o5 => o5 a1 h5) h5 fun t14 h6 =>
mg t11 false (fun o6 => bareK (xbin P .lss T.string (.tmp 13) (.tmp 14) t13 t14) h6 o6) h6 fun t15 h7 =>
pickK t11 (.bool true) t15 fun t16 =>
K0 .ret [(4, t16)] h7

theorem s_cmp_Less_string_eq (M : CombL) (C : CallF) (LP : LoopH) (a0 : Value) (a1 : Value) (H : AHeap) : dBodyL M Tryd.prog hints C LP F.cmp_Less_string [a0, a1] H = s_cmp_Less_string M.b.g M.c M.s Tryd.prog C a0 a1 H (endK Tryd.prog [.tmp 4]) := by kernel_rfl

/-! slices.partitionEqualOrdered[string] -/

noncomputable def s_slices_partitionEqualOrdered_string (mg : GT) (mc : CT) (ms : ST) (P : Program) (C : CallF) (L0 : Value → Value → Value → Value → AHeap → K → Res) (L1 : Value → Value → Value → Value → AHeap → K → Res) (L2 : Value → Value → Value → Value → AHeap → K → Res) (a0 : Value) (a1 : Value) (a2 : Value) (a3 : Value) (H : AHeap) (K0 : K) : Res :=
bareK (ixS 1 a0 a3) H fun t17 h1 =>
bareK (ld1 h1 t17) h1 fun t18 h2 =>
bareK (ixS 1 a0 a1) h2 fun t21 h3 =>
bareK (ld1 h3 t21) h3 fun t22 h4 =>
bareK (ixS 1 a0 a1) h4 fun t23 h5 =>
quietK (st1 h5 t23 t18) fun _ h6 =>
bareK (ixS 1 a0 a3) h6 fun t24 h7 =>
quietK (st1 h7 t24 t22) fun _ h8 =>
checkK (okV (some true) none h5 h6 H H && (okV (some true) none h5 h6 H H && true)) <|
bareK (xbin P .add T.int (.tmp 25) (.const (.int .i64 1)) a1 (.int .i64 1)) h8 fun t26 h9 =>
bareK (xbin P .sub T.int (.tmp 27) (.const (.int .i64 1)) a2 (.int .i64 1)) h9 fun t28 h10 =>
ms (fun k1 =>
L0 a0 a1 t26 t28 h10 (blkK [9] 0 k1)) (seqK (fun tT h11 =>
K0 .ret [(8, (get tT 9))] h11) K0)

noncomputable def s_slices_partitionEqualOrdered_string_b0 (mg : GT) (mc : CT) (ms : ST) (P : Program) (C : CallF) (L0 : Value → Value → Value → Value → AHeap → K → Res) (L1 : Value → Value → Value → Value → AHeap → K → Res) (L2 : Value → Value → Value → Value → AHeap → K → Res) (v0 : Value) (v1 : Value) (v9 : Value) (v10 : Value) (H : AHeap) (k : K) : Res :=
ms (fun k2 =>
ms (fun k3 =>
L1 v0 v1 v9 v10 H (blkK [0, 1, 9, 10] 2 k3)) (seqK (fun tT h11 =>
ms (fun k4 =>
L2 (get tT 0) (get tT 1) (get tT 9) (get tT 10) h11 (blkK [0, 1, 9, 10] 4 k4)) (seqK (fun tT_1 h12 =>
bareK (xbin P .gtr T.int (.tmp 62) (.tmp 63) (get tT_1 9) (get tT_1 10)) h12 fun t64 h13 =>
mc t64 (fun k5 => k5 (.exit 0) ((64, t64) :: (63, (get tT_1 10)) :: (62, (get tT_1 9)) :: tT_1) h13) (fun k5 =>
k5 .normal [(0, (get tT_1 0)), (1, (get tT_1 1)), (9, (get tT_1 9)), (10, (get tT_1 10))] h13) (seqK (fun tT_2 h14 =>
bareK (ixS 1 (get tT_2 0) (get tT_2 10)) h14 fun t71 h15 =>
bareK (ld1 h15 t71) h15 fun t72 h16 =>
bareK (ixS 1 (get tT_2 0) (get tT_2 9)) h16 fun t75 h17 =>
bareK (ld1 h17 t75) h17 fun t76 h18 =>
bareK (ixS 1 (get tT_2 0) (get tT_2 9)) h18 fun t77 h19 =>
quietK (st1 h19 t77 t72) fun _ h20 =>
bareK (ixS 1 (get tT_2 0) (get tT_2 10)) h20 fun t78 h21 =>
quietK (st1 h21 t78 t76) fun _ h22 =>
checkK (okV (some true) none h19 h20 h14 h14 && (okV (some true) none h19 h20 h14 h14 && true)) <|
bareK (xbin P .add T.int (.tmp 79) (.const (.int .i64 1)) (get tT_2 9) (.int .i64 1)) h22 fun t80 h23 =>
bareK (xbin P .sub T.int (.tmp 81) (.const (.int .i64 1)) (get tT_2 10) (.int .i64 1)) h23 fun t82 h24 =>
k2 .normal [(0, (get tT_2 0)), (1, (get tT_2 1)), (9, t80), (10, t82)] h24) (blkK [0, 1, 9, 10] 1 k2))) (blkK [0, 1, 9, 10] 1 k2))) (blkK [0, 1, 9, 10] 1 k2))) (afterK [0, 1, 9, 10] k)

noncomputable def s_slices_partitionEqualOrdered_string_b1 (mg : GT) (mc : CT) (ms : ST) (P : Program) (C : CallF) (L0 : Value → Value → Value → Value → AHeap → K → Res) (L1 : Value → Value → Value → Value → AHeap → K → Res) (L2 : Value → Value → Value → Value → AHeap → K → Res) (v0 : Value) (v1 : Value) (v9 : Value) (v10 : Value) (H : AHeap) (k : K) : Res :=
bareK (xbin P .leq T.int (.tmp 29) (.tmp 30) v9 v10) H fun t31 h11 =>
mg t31 true (fun o4 => o4 v0 h11) h11 fun t33 h12 =>
mg t31 true (fun o5 => o5 v1 h12) h12 fun t34 h13 =>
mg t31 true (fun o6 => bareK (ixS 1 t33 t34) h13 o6) h13 fun t35 h14 =>
mg t31 true (fun o7 => bareK (ld1 h14 t35) h14 o7) h14 fun t36 h15 =>
mg t31 true (fun o8 => o8 v0 h15) h15 fun t37 h16 =>
mg t31 true (fun o9 => o9 v9 h16) h16 fun t38 h17 =>
mg t31 true (fun o10 => bareK (ixS 1 t37 t38) h17 o10) h17 fun t39 h18 =>
mg t31 true (fun o11 => bareK (ld1 h18 t39) h18 o11) h18 fun t40 h19 =>
mg t31 true (fun o12 => enterK C F.cmp_Less_string [t36, t40] h19 o12) h19 fun t41 h20 =>
mg t31 true (fun o13 => bareK (xun P .not t41) h20 o13) h20 fun t42 h21 =>
pickK t31 t42 (.bool false) fun t43 =>
checkK true <|
mc t43 (fun k14 => k14 .normal [(0, v0), (1, v1), (9, v9), (10, v10)] h21) (fun k14 =>
k14 (.exit 2) [(43, t43), (42, t42), (41, t41), (40, t40), (39, t39), (38, t38), (37, t37), (36, t36), (35, t35), (34, t34), (33, t33), (32, t31), (31, t31), (30, v10), (29, v9), (0, v0), (1, v1), (9, v9), (10, v10)] h21) (seqK (fun tT h22 =>
ms (fun k15 =>
bareK (xbin P .add T.int (.tmp 44) (.const (.int .i64 1)) (get tT 9) (.int .i64 1)) h22 fun t45 h23 =>
k15 .normal [(0, (get tT 0)), (1, (get tT 1)), (9, t45), (10, (get tT 10))] h23) (afterK [0, 1, 9, 10] k)) (afterK [0, 1, 9, 10] k))

noncomputable def s_slices_partitionEqualOrdered_string_b2 (mg : GT) (mc : CT) (ms : ST) (P : Program) (C : CallF) (L0 : Value → Value → Value → Value → AHeap → K → Res) (L1 : Value → Value → Value → Value → AHeap → K → Res) (L2 : Value → Value → Value → Value → AHeap → K → Res) (v0 : Value) (v1 : Value) (v9 : Value) (v10 : Value) (H : AHeap) (k : K) : Res :=
bareK (xbin P .leq T.int (.tmp 46) (.tmp 47) v9 v10) H fun t48 h12 =>
mg t48 true (fun o5 => o5 v0 h12) h12 fun t50 h13 =>
mg t48 true (fun o6 => o6 v1 h13) h13 fun t51 h14 =>
mg t48 true (fun o7 => bareK (ixS 1 t50 t51) h14 o7) h14 fun t52 h15 =>
mg t48 true (fun o8 => bareK (ld1 h15 t52) h15 o8) h15 fun t53 h16 =>
mg t48 true (fun o9 => o9 v0 h16) h16 fun t54 h17 =>
mg t48 true (fun o10 => o10 v10 h17) h17 fun t55 h18 =>
mg t48 true (fun o11 => bareK (ixS 1 t54 t55) h18 o11) h18 fun t56 h19 =>
mg t48 true (fun o12 => bareK (ld1 h19 t56) h19 o12) h19 fun t57 h20 =>
mg t48 true (fun o13 => enterK C F.cmp_Less_string [t53, t57] h20 o13) h20 fun t58 h21 =>
pickK t48 t58 (.bool false) fun t59 =>
checkK true <|
mc t59 (fun k14 => k14 .normal [(0, v0), (1, v1), (9, v9), (10, v10)] h21) (fun k14 =>
k14 (.exit 4) [(59, t59), (58, t58), (57, t57), (56, t56), (55, t55), (54, t54), (53, t53), (52, t52), (51, t51), (50, t50), (49, t48), (48, t48), (47, v10), (46, v9), (0, v0), (1, v1), (9, v9), (10, v10)] h21) (seqK (fun tT h22 =>
ms (fun k15 =>
bareK (xbin P .sub T.int (.tmp 60) (.const (.int .i64 1)) (get tT 10) (.int .i64 1)) h22 fun t61 h23 =>
k15 .normal [(0, (get tT 0)), (1, (get tT 1)), (9, (get tT 9)), (10, t61)] h23) (afterK [0, 1, 9, 10] k)) (afterK [0, 1, 9, 10] k))

theorem s_slices_partitionEqualOrdered_string_eq (M : CombL) (C : CallF) (LP : LoopH) (a0 : Value) (a1 : Value) (a2 : Value) (a3 : Value) (H : AHeap) : dBodyL M Tryd.prog hints C LP F.slices_partitionEqualOrdered_string [a0, a1, a2, a3] H = s_slices_partitionEqualOrdered_string M.b.g M.c M.s Tryd.prog C (fun v0 v1 v9 v10 H k => loopL M Tryd.prog hints C LP F.slices_partitionEqualOrdered_string 0 [(0, v0), (1, v1), (9, v9), (10, v10)] H k) (fun v0 v1 v9 v10 H k => loopL M Tryd.prog hints C LP F.slices_partitionEqualOrdered_string 1 [(0, v0), (1, v1), (9, v9), (10, v10)] H k) (fun v0 v1 v9 v10 H k => loopL M Tryd.prog hints C LP F.slices_partitionEqualOrdered_string 2 [(0, v0), (1, v1), (9, v9), (10, v10)] H k) a0 a1 a2 a3 H (endK Tryd.prog [.tmp 8]) := by kernel_rfl

theorem s_slices_partitionEqualOrdered_string_b0_eq (M : CombL) (C : CallF) (LP : LoopH) (v0 : Value) (v1 : Value) (v9 : Value) (v10 : Value) (H : AHeap) (k : K) : bodyL M Tryd.prog hints C LP F.slices_partitionEqualOrdered_string 0 [(0, v0), (1, v1), (9, v9), (10, v10)] H (afterK [0, 1, 9, 10] k) = s_slices_partitionEqualOrdered_string_b0 M.b.g M.c M.s Tryd.prog C (fun v0 v1 v9 v10 H k => loopL M Tryd.prog hints C LP F.slices_partitionEqualOrdered_string 0 [(0, v0), (1, v1), (9, v9), (10, v10)] H k) (fun v0 v1 v9 v10 H k => loopL M Tryd.prog hints C LP F.slices_partitionEqualOrdered_string 1 [(0, v0), (1, v1), (9, v9), (10, v10)] H k) (fun v0 v1 v9 v10 H k => loopL M Tryd.prog hints C LP F.slices_partitionEqualOrdered_string 2 [(0, v0), (1, v1), (9, v9), (10, v10)] H k) v0 v1 v9 v10 H k := by kernel_rfl

theorem s_slices_partitionEqualOrdered_string_b1_eq (M : CombL) (C : CallF) (LP : LoopH) (v0 : Value) (v1 : Value) (v9 : Value) (v10 : Value) (H : AHeap) (k : K) : bodyL M Tryd.prog hints C LP F.slices_partitionEqualOrdered_string 1 [(0, v0), (1, v1), (9, v9), (10, v10)] H (afterK [0, 1, 9, 10] k) = s_slices_partitionEqualOrdered_string_b1 M.b.g M.c M.s Tryd.prog C (fun v0 v1 v9 v10 H k => loopL M Tryd.prog hints C LP F.slices_partitionEqualOrdered_string 0 [(0, v0), (1, v1), (9, v9), (10, v10)] H k) (fun v0 v1 v9 v10 H k => loopL M Tryd.prog hints C LP F.slices_partitionEqualOrdered_string 1 [(0, v0), (1, v1), (9, v9), (10, v10)] H k) (fun v0 v1 v9 v10 H k => loopL M Tryd.prog hints C LP F.slices_partitionEqualOrdered_string 2 [(0, v0), (1, v1), (9, v9), (10, v10)] H k) v0 v1 v9 v10 H k := by kernel_rfl

theorem s_slices_partitionEqualOrdered_string_b2_eq (M : CombL) (C : CallF) (LP : LoopH) (v0 : Value) (v1 : Value) (v9 : Value) (v10 : Value) (H : AHeap) (k : K) : bodyL M Tryd.prog hints C LP F.slices_partitionEqualOrdered_string 2 [(0, v0), (1, v1), (9, v9), (10, v10)] H (afterK [0, 1, 9, 10] k) = s_slices_partitionEqualOrdered_string_b2 M.b.g M.c M.s Tryd.prog C (fun v0 v1 v9 v10 H k => loopL M Tryd.prog hints C LP F.slices_partitionEqualOrdered_string 0 [(0, v0), (1, v1), (9, v9), (10, v10)] H k) (fun v0 v1 v9 v10 H k => loopL M Tryd.prog hints C LP F.slices_partitionEqualOrdered_string 1 [(0, v0), (1, v1), (9, v9), (10, v10)] H k) (fun v0 v1 v9 v10 H k => loopL M Tryd.prog hints C LP F.slices_partitionEqualOrdered_string 2 [(0, v0), (1, v1), (9, v9), (10, v10)] H k) v0 v1 v9 v10 H k := by kernel_rfl

/-! slices.partitionOrdered[string] -/

noncomputable def s_slices_partitionOrdered_string (mg : GT) (mc : CT) (ms : ST) (P : Program) (C : CallF) (L0 : Value → Value → Value → Value → AHeap → K → Res) (L1 : Value → Value → Value → Value → AHeap → K → Res) (L2 : Value → Value → Value → Value → AHeap → K → Res) (L3 : Value → Value → Value → Value → AHeap → K → Res) (L4 : Value → Value → Value → Value → AHeap → K → Res) (a0 : Value) (a1 : Value) (a2 : Value) (a3 : Value) (H : AHeap) (K0 : K) : Res :=
bareK (ixS 1 a0 a3) H fun t18 h1 =>
bareK (ld1 h1 t18) h1 fun t19 h2 =>
bareK (ixS 1 a0 a1) h2 fun t22 h3 =>
bareK (ld1 h3 t22) h3 fun t23 h4 =>
bareK (ixS 1 a0 a1) h4 fun t24 h5 =>
quietK (st1 h5 t24 t19) fun _ h6 =>
bareK (ixS 1 a0 a3) h6 fun t25 h7 =>
quietK (st1 h7 t25 t23) fun _ h8 =>
checkK (okV (some true) none h5 h6 H H && (okV (some true) none h5 h6 H H && true)) <|
bareK (xbin P .add T.int (.tmp 26) (.const (.int .i64 1)) a1 (.int .i64 1)) h8 fun t27 h9 =>
bareK (xbin P .sub T.int (.tmp 28) (.const (.int .i64 1)) a2 (.int .i64 1)) h9 fun t29 h10 =>
ms (fun k1 =>
L0 a0 a1 t27 t29 h10 (blkK [0, 1, 10, 11] 0 k1)) (seqK (fun tT h11 =>
ms (fun k2 =>
L1 (get tT 0) (get tT 1) (get tT 10) (get tT 11) h11 (blkK [0, 1, 10, 11] 2 k2)) (seqK (fun tT_1 h12 =>
bareK (xbin P .gtr T.int (.tmp 63) (.tmp 64) (get tT_1 10) (get tT_1 11)) h12 fun t65 h13 =>
mc t65 (fun k3 => bareK (ixS 1 (get tT_1 0) (get tT_1 1)) h13 fun t72 h14 =>
bareK (ld1 h14 t72) h14 fun t73 h15 =>
bareK (ixS 1 (get tT_1 0) (get tT_1 11)) h15 fun t76 h16 =>
bareK (ld1 h16 t76) h16 fun t77 h17 =>
bareK (ixS 1 (get tT_1 0) (get tT_1 11)) h17 fun t78 h18 =>
quietK (st1 h18 t78 t73) fun _ h19 =>
bareK (ixS 1 (get tT_1 0) (get tT_1 1)) h19 fun t79 h20 =>
quietK (st1 h20 t79 t77) fun _ h21 =>
checkK (okV (some true) none h18 h19 h13 h13 && (okV (some true) none h18 h19 h13 h13 && true)) <|
k3 .ret [(8, (get tT_1 11)), (9, (.bool true))] h21) (fun k3 =>
k3 .normal [(0, (get tT_1 0)), (1, (get tT_1 1)), (10, (get tT_1 10)), (11, (get tT_1 11))] h13) (seqK (fun tT_2 h22 =>
bareK (ixS 1 (get tT_2 0) (get tT_2 11)) h22 fun t87 h23 =>
bareK (ld1 h23 t87) h23 fun t88 h24 =>
bareK (ixS 1 (get tT_2 0) (get tT_2 10)) h24 fun t91 h25 =>
bareK (ld1 h25 t91) h25 fun t92 h26 =>
bareK (ixS 1 (get tT_2 0) (get tT_2 10)) h26 fun t93 h27 =>
quietK (st1 h27 t93 t88) fun _ h28 =>
bareK (ixS 1 (get tT_2 0) (get tT_2 11)) h28 fun t94 h29 =>
quietK (st1 h29 t94 t92) fun _ h30 =>
checkK (okV (some true) none h27 h28 h22 h22 && (okV (some true) none h27 h28 h22 h22 && true)) <|
bareK (xbin P .add T.int (.tmp 95) (.const (.int .i64 1)) (get tT_2 10) (.int .i64 1)) h30 fun t96 h31 =>
bareK (xbin P .sub T.int (.tmp 97) (.const (.int .i64 1)) (get tT_2 11) (.int .i64 1)) h31 fun t98 h32 =>
ms (fun k4 =>
L2 (get tT_2 0) (get tT_2 1) t96 t98 h32 (blkK [0, 1, 11] 4 k4)) (seqK (fun tT_3 h33 =>
bareK (ixS 1 (get tT_3 0) (get tT_3 1)) h33 fun t159 h34 =>
bareK (ld1 h34 t159) h34 fun t160 h35 =>
bareK (ixS 1 (get tT_3 0) (get tT_3 11)) h35 fun t163 h36 =>
bareK (ld1 h36 t163) h36 fun t164 h37 =>
bareK (ixS 1 (get tT_3 0) (get tT_3 11)) h37 fun t165 h38 =>
quietK (st1 h38 t165 t160) fun _ h39 =>
bareK (ixS 1 (get tT_3 0) (get tT_3 1)) h39 fun t166 h40 =>
quietK (st1 h40 t166 t164) fun _ h41 =>
checkK (okV (some true) none h38 h39 h33 h33 && (okV (some true) none h38 h39 h33 h33 && true)) <|
K0 .ret [(8, (get tT_3 11)), (9, (.bool false))] h41) K0)) K0)) K0)) K0)

noncomputable def s_slices_partitionOrdered_string_b0 (mg : GT) (mc : CT) (ms : ST) (P : Program) (C : CallF) (L0 : Value → Value → Value → Value → AHeap → K → Res) (L1 : Value → Value → Value → Value → AHeap → K → Res) (L2 : Value → Value → Value → Value → AHeap → K → Res) (L3 : Value → Value → Value → Value → AHeap → K → Res) (L4 : Value → Value → Value → Value → AHeap → K → Res) (v0 : Value) (v1 : Value) (v10 : Value) (v11 : Value) (H : AHeap) (k : K) : Res :=
bareK (xbin P .leq T.int (.tmp 30) (.tmp 31) v10 v11) H fun t32 h11 =>
mg t32 true (fun o2 => o2 v0 h11) h11 fun t34 h12 =>
mg t32 true (fun o3 => o3 v10 h12) h12 fun t35 h13 =>
mg t32 true (fun o4 => bareK (ixS 1 t34 t35) h13 o4) h13 fun t36 h14 =>
mg t32 true (fun o5 => bareK (ld1 h14 t36) h14 o5) h14 fun t37 h15 =>
mg t32 true (fun o6 => o6 v0 h15) h15 fun t38 h16 =>
mg t32 true (fun o7 => o7 v1 h16) h16 fun t39 h17 =>
mg t32 true (fun o8 => bareK (ixS 1 t38 t39) h17 o8) h17 fun t40 h18 =>
mg t32 true (fun o9 => bareK (ld1 h18 t40) h18 o9) h18 fun t41 h19 =>
mg t32 true (fun o10 => enterK C F.cmp_Less_string [t37, t41] h19 o10) h19 fun t42 h20 =>
pickK t32 t42 (.bool false) fun t43 =>
checkK true <|
mc t43 (fun k11 => k11 .normal [(0, v0), (1, v1), (10, v10), (11, v11)] h20) (fun k11 =>
k11 (.exit 0) [(43, t43), (42, t42), (41, t41), (40, t40), (39, t39), (38, t38), (37, t37), (36, t36), (35, t35), (34, t34), (33, t32), (32, t32), (31, v11), (30, v10), (0, v0), (1, v1), (10, v10), (11, v11)] h20) (seqK (fun tT h21 =>
ms (fun k12 =>
bareK (xbin P .add T.int (.tmp 44) (.const (.int .i64 1)) (get tT 10) (.int .i64 1)) h21 fun t45 h22 =>
k12 .normal [(0, (get tT 0)), (1, (get tT 1)), (10, t45), (11, (get tT 11))] h22) (afterK [0, 1, 10, 11] k)) (afterK [0, 1, 10, 11] k))

noncomputable def s_slices_partitionOrdered_string_b1 (mg : GT) (mc : CT) (ms : ST) (P : Program) (C : CallF) (L0 : Value → Value → Value → Value → AHeap → K → Res) (L1 : Value → Value → Value → Value → AHeap → K → Res) (L2 : Value → Value → Value → Value → AHeap → K → Res) (L3 : Value → Value → Value → Value → AHeap → K → Res) (L4 : Value → Value → Value → Value → AHeap → K → Res) (v0 : Value) (v1 : Value) (v10 : Value) (v11 : Value) (H : AHeap) (k : K) : Res :=
bareK (xbin P .leq T.int (.tmp 46) (.tmp 47) v10 v11) H fun t48 h12 =>
mg t48 true (fun o3 => o3 v0 h12) h12 fun t50 h13 =>
mg t48 true (fun o4 => o4 v11 h13) h13 fun t51 h14 =>
mg t48 true (fun o5 => bareK (ixS 1 t50 t51) h14 o5) h14 fun t52 h15 =>
mg t48 true (fun o6 => bareK (ld1 h15 t52) h15 o6) h15 fun t53 h16 =>
mg t48 true (fun o7 => o7 v0 h16) h16 fun t54 h17 =>
mg t48 true (fun o8 => o8 v1 h17) h17 fun t55 h18 =>
mg t48 true (fun o9 => bareK (ixS 1 t54 t55) h18 o9) h18 fun t56 h19 =>
mg t48 true (fun o10 => bareK (ld1 h19 t56) h19 o10) h19 fun t57 h20 =>
mg t48 true (fun o11 => enterK C F.cmp_Less_string [t53, t57] h20 o11) h20 fun t58 h21 =>
mg t48 true (fun o12 => bareK (xun P .not t58) h21 o12) h21 fun t59 h22 =>
pickK t48 t59 (.bool false) fun t60 =>
checkK true <|
mc t60 (fun k13 => k13 .normal [(0, v0), (1, v1), (10, v10), (11, v11)] h22) (fun k13 =>
k13 (.exit 2) [(60, t60), (59, t59), (58, t58), (57, t57), (56, t56), (55, t55), (54, t54), (53, t53), (52, t52), (51, t51), (50, t50), (49, t48), (48, t48), (47, v11), (46, v10), (0, v0), (1, v1), (10, v10), (11, v11)] h22) (seqK (fun tT h23 =>
ms (fun k14 =>
bareK (xbin P .sub T.int (.tmp 61) (.const (.int .i64 1)) (get tT 11) (.int .i64 1)) h23 fun t62 h24 =>
k14 .normal [(0, (get tT 0)), (1, (get tT 1)), (10, (get tT 10)), (11, t62)] h24) (afterK [0, 1, 10, 11] k)) (afterK [0, 1, 10, 11] k))

noncomputable def s_slices_partitionOrdered_string_b2 (mg : GT) (mc : CT) (ms : ST) (P : Program) (C : CallF) (L0 : Value → Value → Value → Value → AHeap → K → Res) (L1 : Value → Value → Value → Value → AHeap → K → Res) (L2 : Value → Value → Value → Value → AHeap → K → Res) (L3 : Value → Value → Value → Value → AHeap → K → Res) (L4 : Value → Value → Value → Value → AHeap → K → Res) (v0 : Value) (v1 : Value) (v10 : Value) (v11 : Value) (H : AHeap) (k : K) : Res :=
ms (fun k5 =>
ms (fun k6 =>
L3 v0 v1 v10 v11 H (blkK [0, 1, 10, 11] 6 k6)) (seqK (fun tT h33 =>
ms (fun k7 =>
L4 (get tT 0) (get tT 1) (get tT 10) (get tT 11) h33 (blkK [0, 1, 10, 11] 8 k7)) (seqK (fun tT_1 h34 =>
bareK (xbin P .gtr T.int (.tmp 132) (.tmp 133) (get tT_1 10) (get tT_1 11)) h34 fun t134 h35 =>
mc t134 (fun k8 => k8 (.exit 4) ((134, t134) :: (133, (get tT_1 11)) :: (132, (get tT_1 10)) :: tT_1) h35) (fun k8 =>
k8 .normal [(0, (get tT_1 0)), (1, (get tT_1 1)), (10, (get tT_1 10)), (11, (get tT_1 11))] h35) (seqK (fun tT_2 h36 =>
bareK (ixS 1 (get tT_2 0) (get tT_2 11)) h36 fun t141 h37 =>
bareK (ld1 h37 t141) h37 fun t142 h38 =>
bareK (ixS 1 (get tT_2 0) (get tT_2 10)) h38 fun t145 h39 =>
bareK (ld1 h39 t145) h39 fun t146 h40 =>
bareK (ixS 1 (get tT_2 0) (get tT_2 10)) h40 fun t147 h41 =>
quietK (st1 h41 t147 t142) fun _ h42 =>
bareK (ixS 1 (get tT_2 0) (get tT_2 11)) h42 fun t148 h43 =>
quietK (st1 h43 t148 t146) fun _ h44 =>
checkK (okV (some true) none h41 h42 h36 h36 && (okV (some true) none h41 h42 h36 h36 && true)) <|
bareK (xbin P .add T.int (.tmp 149) (.const (.int .i64 1)) (get tT_2 10) (.int .i64 1)) h44 fun t150 h45 =>
bareK (xbin P .sub T.int (.tmp 151) (.const (.int .i64 1)) (get tT_2 11) (.int .i64 1)) h45 fun t152 h46 =>
k5 .normal [(0, (get tT_2 0)), (1, (get tT_2 1)), (10, t150), (11, t152)] h46) (blkK [0, 1, 10, 11] 5 k5))) (blkK [0, 1, 10, 11] 5 k5))) (blkK [0, 1, 10, 11] 5 k5))) (afterK [0, 1, 10, 11] k)

noncomputable def s_slices_partitionOrdered_string_b3 (mg : GT) (mc : CT) (ms : ST) (P : Program) (C : CallF) (L0 : Value → Value → Value → Value → AHeap → K → Res) (L1 : Value → Value → Value → Value → AHeap → K → Res) (L2 : Value → Value → Value → Value → AHeap → K → Res) (L3 : Value → Value → Value → Value → AHeap → K → Res) (L4 : Value → Value → Value → Value → AHeap → K → Res) (v0 : Value) (v1 : Value) (v10 : Value) (v11 : Value) (H : AHeap) (k : K) : Res :=
bareK (xbin P .leq T.int (.tmp 99) (.tmp 100) v10 v11) H fun t101 h33 =>
mg t101 true (fun o7 => o7 v0 h33) h33 fun t103 h34 =>
mg t101 true (fun o8 => o8 v10 h34) h34 fun t104 h35 =>
mg t101 true (fun o9 => bareK (ixS 1 t103 t104) h35 o9) h35 fun t105 h36 =>
mg t101 true (fun o10 => bareK (ld1 h36 t105) h36 o10) h36 fun t106 h37 =>
mg t101 true (fun o11 => o11 v0 h37) h37 fun t107 h38 =>
mg t101 true (fun o12 => o12 v1 h38) h38 fun t108 h39 =>
mg t101 true (fun o13 => bareK (ixS 1 t107 t108) h39 o13) h39 fun t109 h40 =>
mg t101 true (fun o14 => bareK (ld1 h40 t109) h40 o14) h40 fun t110 h41 =>
mg t101 true (fun o15 => enterK C F.cmp_Less_string [t106, t110] h41 o15) h41 fun t111 h42 =>
pickK t101 t111 (.bool false) fun t112 =>
checkK true <|
mc t112 (fun k16 => k16 .normal [(0, v0), (1, v1), (10, v10), (11, v11)] h42) (fun k16 =>
k16 (.exit 6) [(112, t112), (111, t111), (110, t110), (109, t109), (108, t108), (107, t107), (106, t106), (105, t105), (104, t104), (103, t103), (102, t101), (101, t101), (100, v11), (99, v10), (0, v0), (1, v1), (10, v10), (11, v11)] h42) (seqK (fun tT h43 =>
ms (fun k17 =>
bareK (xbin P .add T.int (.tmp 113) (.const (.int .i64 1)) (get tT 10) (.int .i64 1)) h43 fun t114 h44 =>
k17 .normal [(0, (get tT 0)), (1, (get tT 1)), (10, t114), (11, (get tT 11))] h44) (afterK [0, 1, 10, 11] k)) (afterK [0, 1, 10, 11] k))

noncomputable def s_slices_partitionOrdered_string_b4 (mg : GT) (mc : CT) (ms : ST) (P : Program) (C : CallF) (L0 : Value → Value → Value → Value → AHeap → K → Res) (L1 : Value → Value → Value → Value → AHeap → K → Res) (L2 : Value → Value → Value → Value → AHeap → K → Res) (L3 : Value → Value → Value → Value → AHeap → K → Res) (L4 : Value → Value → Value → Value → AHeap → K → Res) (v0 : Value) (v1 : Value) (v10 : Value) (v11 : Value) (H : AHeap) (k : K) : Res :=
bareK (xbin P .leq T.int (.tmp 115) (.tmp 116) v10 v11) H fun t117 h34 =>
mg t117 true (fun o8 => o8 v0 h34) h34 fun t119 h35 =>
mg t117 true (fun o9 => o9 v11 h35) h35 fun t120 h36 =>
mg t117 true (fun o10 => bareK (ixS 1 t119 t120) h36 o10) h36 fun t121 h37 =>
mg t117 true (fun o11 => bareK (ld1 h37 t121) h37 o11) h37 fun t122 h38 =>
mg t117 true (fun o12 => o12 v0 h38) h38 fun t123 h39 =>
mg t117 true (fun o13 => o13 v1 h39) h39 fun t124 h40 =>
mg t117 true (fun o14 => bareK (ixS 1 t123 t124) h40 o14) h40 fun t125 h41 =>
mg t117 true (fun o15 => bareK (ld1 h41 t125) h41 o15) h41 fun t126 h42 =>
mg t117 true (fun o16 => enterK C F.cmp_Less_string [t122, t126] h42 o16) h42 fun t127 h43 =>
mg t117 true (fun o17 => bareK (xun P .not t127) h43 o17) h43 fun t128 h44 =>
pickK t117 t128 (.bool false) fun t129 =>
checkK true <|
mc t129 (fun k18 => k18 .normal [(0, v0), (1, v1), (10, v10), (11, v11)] h44) (fun k18 =>
k18 (.exit 8) [(129, t129), (128, t128), (127, t127), (126, t126), (125, t125), (124, t124), (123, t123), (122, t122), (121, t121), (120, t120), (119, t119), (118, t117), (117, t117), (116, v11), (115, v10), (0, v0), (1, v1), (10, v10), (11, v11)] h44) (seqK (fun tT h45 =>
ms (fun k19 =>
bareK (xbin P .sub T.int (.tmp 130) (.const (.int .i64 1)) (get tT 11) (.int .i64 1)) h45 fun t131 h46 =>
k19 .normal [(0, (get tT 0)), (1, (get tT 1)), (10, (get tT 10)), (11, t131)] h46) (afterK [0, 1, 10, 11] k)) (afterK [0, 1, 10, 11] k))

theorem s_slices_partitionOrdered_string_eq (M : CombL) (C : CallF) (LP : LoopH) (a0 : Value) (a1 : Value) (a2 : Value) (a3 : Value) (H : AHeap) : dBodyL M Tryd.prog hints C LP F.slices_partitionOrdered_string [a0, a1, a2, a3] H = s_slices_partitionOrdered_string M.b.g M.c M.s Tryd.prog C (fun v0 v1 v10 v11 H k => loopL M Tryd.prog hints C LP F.slices_partitionOrdered_string 0 [(0, v0), (1, v1), (10, v10), (11, v11)] H k) (fun v0 v1 v10 v11 H k => loopL M Tryd.prog hints C LP F.slices_partitionOrdered_string 1 [(0, v0), (1, v1), (10, v10), (11, v11)] H k) (fun v0 v1 v10 v11 H k => loopL M Tryd.prog hints C LP F.slices_partitionOrdered_string 2 [(0, v0), (1, v1), (10, v10), (11, v11)] H k) (fun v0 v1 v10 v11 H k => loopL M Tryd.prog hints C LP F.slices_partitionOrdered_string 3 [(0, v0), (1, v1), (10, v10), (11, v11)] H k) (fun v0 v1 v10 v11 H k => loopL M Tryd.prog hints C LP F.slices_partitionOrdered_string 4 [(0, v0), (1, v1), (10, v10), (11, v11)] H k) a0 a1 a2 a3 H (endK Tryd.prog [.tmp 8, .tmp 9]) := by kernel_rfl

theorem s_slices_partitionOrdered_string_b0_eq (M : CombL) (C : CallF) (LP : LoopH) (v0 : Value) (v1 : Value) (v10 : Value) (v11 : Value) (H : AHeap) (k : K) : bodyL M Tryd.prog hints C LP F.slices_partitionOrdered_string 0 [(0, v0), (1, v1), (10, v10), (11, v11)] H (afterK [0, 1, 10, 11] k) = s_slices_partitionOrdered_string_b0 M.b.g M.c M.s Tryd.prog C (fun v0 v1 v10 v11 H k => loopL M Tryd.prog hints C LP F.slices_partitionOrdered_string 0 [(0, v0), (1, v1), (10, v10), (11, v11)] H k) (fun v0 v1 v10 v11 H k => loopL M Tryd.prog hints C LP F.slices_partitionOrdered_string 1 [(0, v0), (1, v1), (10, v10), (11, v11)] H k) (fun v0 v1 v10 v11 H k => loopL M Tryd.prog hints C LP F.slices_partitionOrdered_string 2 [(0, v0), (1, v1), (10, v10), (11, v11)] H k) (fun v0 v1 v10 v11 H k => loopL M Tryd.prog hints C LP F.slices_partitionOrdered_string 3 [(0, v0), (1, v1), (10, v10), (11, v11)] H k) (fun v0 v1 v10 v11 H k => loopL M Tryd.prog hints C LP F.slices_partitionOrdered_string 4 [(0, v0), (1, v1), (10, v10), (11, v11)] H k) v0 v1 v10 v11 H k := by kernel_rfl

theorem s_slices_partitionOrdered_string_b1_eq (M : CombL) (C : CallF) (LP : LoopH) (v0 : Value) (v1 : Value) (v10 : Value) (v11 : Value) (H : AHeap) (k : K) : bodyL M Tryd.prog hints C LP F.slices_partitionOrdered_string 1 [(0, v0), (1, v1), (10, v10), (11, v11)] H (afterK [0, 1, 10, 11] k) = s_slices_partitionOrdered_string_b1 M.b.g M.c M.s Tryd.prog C (fun v0 v1 v10 v11 H k => loopL M Tryd.prog hints C LP F.slices_partitionOrdered_string 0 [(0, v0), (1, v1), (10, v10), (11, v11)] H k) (fun v0 v1 v10 v11 H k => loopL M Tryd.prog hints C LP F.slices_partitionOrdered_string 1 [(0, v0), (1, v1), (10, v10), (11, v11)] H k) (fun v0 v1 v10 v11 H k => loopL M Tryd.prog hints C LP F.slices_partitionOrdered_string 2 [(0, v0), (1, v1), (10, v10), (11, v11)] H k) (fun v0 v1 v10 v11 H k => loopL M Tryd.prog hints C LP F.slices_partitionOrdered_string 3 [(0, v0), (1, v1), (10, v10), (11, v11)] H k) (fun v0 v1 v10 v11 H k => loopL M Tryd.prog hints C LP F.slices_partitionOrdered_string 4 [(0, v0), (1, v1), (10, v10), (11, v11)] H k) v0 v1 v10 v11 H k := by kernel_rfl

theorem s_slices_partitionOrdered_string_b2_eq (M : CombL) (C : CallF) (LP : LoopH) (v0 : Value) (v1 : Value) (v10 : Value) (v11 : Value) (H : AHeap) (k : K) : bodyL M Tryd.prog hints C LP F.slices_partitionOrdered_string 2 [(0, v0), (1, v1), (10, v10), (11, v11)] H (afterK [0, 1, 10, 11] k) = s_slices_partitionOrdered_string_b2 M.b.g M.c M.s Tryd.prog C (fun v0 v1 v10 v11 H k => loopL M Tryd.prog hints C LP F.slices_partitionOrdered_string 0 [(0, v0), (1, v1), (10, v10), (11, v11)] H k) (fun v0 v1 v10 v11 H k => loopL M Tryd.prog hints C LP F.slices_partitionOrdered_string 1 [(0, v0), (1, v1), (10, v10), (11, v11)] H k) (fun v0 v1 v10 v11 H k => loopL M Tryd.prog hints C LP F.slices_partitionOrdered_string 2 [(0, v0), (1, v1), (10, v10), (11, v11)] H k) (fun v0 v1 v10 v11 H k => loopL M Tryd.prog hints C LP F.slices_partitionOrdered_string 3 [(0, v0), (1, v1), (10, v10), (11, v11)] H k) (fun v0 v1 v10 v11 H k => loopL M Tryd.prog hints C LP F.slices_partitionOrdered_string 4 [(0, v0), (1, v1), (10, v10), (11, v11)] H k) v0 v1 v10 v11 H k := by kernel_rfl

theorem s_slices_partitionOrdered_string_b3_eq (M : CombL) (C : CallF) (LP : LoopH) (v0 : Value) (v1 : Value) (v10 : Value) (v11 : Value) (H : AHeap) (k : K) : bodyL M Tryd.prog hints C LP F.slices_partitionOrdered_string 3 [(0, v0), (1, v1), (10, v10), (11, v11)] H (afterK [0, 1, 10, 11] k) = s_slices_partitionOrdered_string_b3 M.b.g M.c M.s Tryd.prog C (fun v0 v1 v10 v11 H k => loopL M Tryd.prog hints C LP F.slices_partitionOrdered_string 0 [(0, v0), (1, v1), (10, v10), (11, v11)] H k) (fun v0 v1 v10 v11 H k => loopL M Tryd.prog hints C LP F.slices_partitionOrdered_string 1 [(0, v0), (1, v1), (10, v10), (11, v11)] H k) (fun v0 v1 v10 v11 H k => loopL M Tryd.prog hints C LP F.slices_partitionOrdered_string 2 [(0, v0), (1, v1), (10, v10), (11, v11)] H k) (fun v0 v1 v10 v11 H k => loopL M Tryd.prog hints C LP F.slices_partitionOrdered_string 3 [(0, v0), (1, v1), (10, v10), (11, v11)] H k) (fun v0 v1 v10 v11 H k => loopL M Tryd.prog hints C LP F.slices_partitionOrdered_string 4 [(0, v0), (1, v1), (10, v10), (11, v11)] H k) v0 v1 v10 v11 H k := by kernel_rfl

theorem s_slices_partitionOrdered_string_b4_eq (M : CombL) (C : CallF) (LP : LoopH) (v0 : Value) (v1 : Value) (v10 : Value) (v11 : Value) (H : AHeap) (k : K) : bodyL M Tryd.prog hints C LP F.slices_partitionOrdered_string 4 [(0, v0), (1, v1), (10, v10), (11, v11)] H (afterK [0, 1, 10, 11] k) = s_slices_partitionOrdered_string_b4 M.b.g M.c M.s Tryd.prog C (fun v0 v1 v10 v11 H k => loopL M Tryd.prog hints C LP F.slices_partitionOrdered_string 0 [(0, v0), (1, v1), (10, v10), (11, v11)] H k) (fun v0 v1 v10 v11 H k => loopL M Tryd.prog hints C LP F.slices_partitionOrdered_string 1 [(0, v0), (1, v1), (10, v10), (11, v11)] H k) (fun v0 v1 v10 v11 H k => loopL M Tryd.prog hints C LP F.slices_partitionOrdered_string 2 [(0, v0), (1, v1), (10, v10), (11, v11)] H k) (fun v0 v1 v10 v11 H k => loopL M Tryd.prog hints C LP F.slices_partitionOrdered_string 3 [(0, v0), (1, v1), (10, v10), (11, v11)] H k) (fun v0 v1 v10 v11 H k => loopL M Tryd.prog hints C LP F.slices_partitionOrdered_string 4 [(0, v0), (1, v1), (10, v10), (11, v11)] H k) v0 v1 v10 v11 H k := by kernel_rfl

/-! math.bits.Len32 -/

noncomputable def s_math_bits_Len32 (mg : GT) (mc : CT) (ms : ST) (P : Program) (C : CallF) (a0 : Value) (H : AHeap) (K0 : K) : Res :=
bareK (xbin P .geq T.uint32 (.tmp 3) (.const (.int .u32 65536)) a0 (.int .u32 65536)) H fun t4 h1 =>
mc t4 (fun k1 => bareK (xbin P .shr T.uint32 (.tmp 5) (.const (.int .u64 16)) a0 (.int .u64 16)) h1 fun t6 h2 =>
k1 .normal [(0, t6), (2, (.int .i64 16))] h2) (fun k1 =>
k1 .normal [(0, a0), (2, (.int .i64 0))] h1) (seqK (fun tT h3 =>
bareK (xbin P .geq T.uint32 (.tmp 7) (.const (.int .u32 256)) (get tT 0) (.int .u32 256)) h3 fun t8 h4 =>
mc t8 (fun k2 => bareK (xbin P .shr T.uint32 (.tmp 9) (.const (.int .u64 8)) (get tT 0) (.int .u64 8)) h4 fun t10 h5 =>
bareK (xbin P .add T.int (.tmp 11) (.const (.int .i64 8)) (get tT 2) (.int .i64 8)) h5 fun t12 h6 =>
k2 .normal [(0, t10), (2, t12)] h6) (fun k2 =>
k2 .normal [(0, (get tT 0)), (2, (get tT 2))] h4) (seqK (fun tT_1 h7 =>
bothK (xconv P T.uint32 T.uint8 (get tT_1 0) h7) fun t15 h8 =>
bareK (xindex P T.string (.string (mk [0, 1, 2, 2, 3, 3, 3, 3, 4, 4, 4, 4, 4, 4, 4, 4, 5, 5, 5, 5, 5, 5, 5, 5, 5, 5, 5, 5, 5, 5, 5, 5, 6, 6, 6, 6, 6, 6, 6, 6, 6, 6, 6, 6, 6, 6, 6, 6, 6, 6, 6, 6, 6, 6, 6, 6, 6, 6, 6, 6, 6, 6, 6, 6, 7, 7, 7, 7, 7, 7, 7, 7, 7, 7, 7, 7, 7, 7, 7, 7, 7, 7, 7, 7, 7, 7, 7, 7, 7, 7, 7, 7, 7, 7, 7, 7, 7, 7, 7, 7, 7, 7, 7, 7, 7, 7, 7, 7, 7, 7, 7, 7, 7, 7, 7, 7, 7, 7, 7, 7, 7, 7, 7, 7, 7, 7, 7, 7, 8, 8, 8, 8, 8, 8, 8, 8, 8, 8, 8, 8, 8, 8, 8, 8, 8, 8, 8, 8, 8, 8, 8, 8, 8, 8, 8, 8, 8, 8, 8, 8, 8, 8, 8, 8, 8, 8, 8, 8, 8, 8, 8, 8, 8, 8, 8, 8, 8, 8, 8, 8, 8, 8, 8, 8, 8, 8, 8, 8, 8, 8, 8, 8, 8, 8, 8, 8, 8, 8, 8, 8, 8, 8, 8, 8, 8, 8, 8, 8, 8, 8, 8, 8, 8, 8, 8, 8, 8, 8, 8, 8, 8, 8, 8, 8, 8, 8, 8, 8, 8, 8, 8, 8, 8, 8, 8, 8, 8, 8, 8, 8, 8, 8, 8, 8, 8, 8, 8, 8, 8, 8, 8, 8, 8, 8, 8, 8])) t15) h8 fun t16 h9 =>
bothK (xconv P T.uint8 T.int t16 h9) fun t17 h10 =>
bareK (xbin P .add T.int (.tmp 13) (.tmp 17) (get tT_1 2) t17) h10 fun t18 h11 =>
K0 .ret [(2, t18)] h11) K0)) K0)

theorem s_math_bits_Len32_eq (M : CombL) (C : CallF) (LP : LoopH) (a0 : Value) (H : AHeap) : dBodyL M Tryd.prog hints C LP F.math_bits_Len32 [a0] H = s_math_bits_Len32 M.b.g M.c M.s Tryd.prog C a0 H (endK Tryd.prog [.tmp 2]) := by kernel_rfl

/-! math.bits.Len64 -/

noncomputable def s_math_bits_Len64 (mg : GT) (mc : CT) (ms : ST) (P : Program) (C : CallF) (a0 : Value) (H : AHeap) (K0 : K) : Res :=
bareK (xbin P .geq T.uint64 (.tmp 3) (.const (.int .u64 4294967296)) a0 (.int .u64 4294967296)) H fun t4 h1 =>
mc t4 (fun k1 => bareK (xbin P .shr T.uint64 (.tmp 5) (.const (.int .u64 32)) a0 (.int .u64 32)) h1 fun t6 h2 =>
k1 .normal [(0, t6), (2, (.int .i64 32))] h2) (fun k1 =>
k1 .normal [(0, a0), (2, (.int .i64 0))] h1) (seqK (fun tT h3 =>
bareK (xbin P .geq T.uint64 (.tmp 7) (.const (.int .u64 65536)) (get tT 0) (.int .u64 65536)) h3 fun t8 h4 =>
mc t8 (fun k2 => bareK (xbin P .shr T.uint64 (.tmp 9) (.const (.int .u64 16)) (get tT 0) (.int .u64 16)) h4 fun t10 h5 =>
bareK (xbin P .add T.int (.tmp 11) (.const (.int .i64 16)) (get tT 2) (.int .i64 16)) h5 fun t12 h6 =>
k2 .normal [(0, t10), (2, t12)] h6) (fun k2 =>
k2 .normal [(0, (get tT 0)), (2, (get tT 2))] h4) (seqK (fun tT_1 h7 =>
bareK (xbin P .geq T.uint64 (.tmp 13) (.const (.int .u64 256)) (get tT_1 0) (.int .u64 256)) h7 fun t14 h8 =>
mc t14 (fun k3 => bareK (xbin P .shr T.uint64 (.tmp 15) (.const (.int .u64 8)) (get tT_1 0) (.int .u64 8)) h8 fun t16 h9 =>
bareK (xbin P .add T.int (.tmp 17) (.const (.int .i64 8)) (get tT_1 2) (.int .i64 8)) h9 fun t18 h10 =>
k3 .normal [(0, t16), (2, t18)] h10) (fun k3 =>
k3 .normal [(0, (get tT_1 0)), (2, (get tT_1 2))] h8) (seqK (fun tT_2 h11 =>
bothK (xconv P T.uint64 T.uint8 (get tT_2 0) h11) fun t21 h12 =>
bareK (xindex P T.string (.string (mk [0, 1, 2, 2, 3, 3, 3, 3, 4, 4, 4, 4, 4, 4, 4, 4, 5, 5, 5, 5, 5, 5, 5, 5, 5, 5, 5, 5, 5, 5, 5, 5, 6, 6, 6, 6, 6, 6, 6, 6, 6, 6, 6, 6, 6, 6, 6, 6, 6, 6, 6, 6, 6, 6, 6, 6, 6, 6, 6, 6, 6, 6, 6, 6, 7, 7, 7, 7, 7, 7, 7, 7, 7, 7, 7, 7, 7, 7, 7, 7, 7, 7, 7, 7, 7, 7, 7, 7, 7, 7, 7, 7, 7, 7, 7, 7, 7, 7, 7, 7, 7, 7, 7, 7, 7, 7, 7, 7, 7, 7, 7, 7, 7, 7, 7, 7, 7, 7, 7, 7, 7, 7, 7, 7, 7, 7, 7, 7, 8, 8, 8, 8, 8, 8, 8, 8, 8, 8, 8, 8, 8, 8, 8, 8, 8, 8, 8, 8, 8, 8, 8, 8, 8, 8, 8, 8, 8, 8, 8, 8, 8, 8, 8, 8, 8, 8, 8, 8, 8, 8, 8, 8, 8, 8, 8, 8, 8, 8, 8, 8, 8, 8, 8, 8, 8, 8, 8, 8, 8, 8, 8, 8, 8, 8, 8, 8, 8, 8, 8, 8, 8, 8, 8, 8, 8, 8, 8, 8, 8, 8, 8, 8, 8, 8, 8, 8, 8, 8, 8, 8, 8, 8, 8, 8, 8, 8, 8, 8, 8, 8, 8, 8, 8, 8, 8, 8, 8, 8, 8, 8, 8, 8, 8, 8, 8, 8, 8, 8, 8, 8, 8, 8, 8, 8, 8, 8])) t21) h12 fun t22 h13 =>
bothK (xconv P T.uint8 T.int t22 h13) fun t23 h14 =>
bareK (xbin P .add T.int (.tmp 19) (.tmp 23) (get tT_2 2) t23) h14 fun t24 h15 =>
K0 .ret [(2, t24)] h15) K0)) K0)) K0)

theorem s_math_bits_Len64_eq (M : CombL) (C : CallF) (LP : LoopH) (a0 : Value) (H : AHeap) : dBodyL M Tryd.prog hints C LP F.math_bits_Len64 [a0] H = s_math_bits_Len64 M.b.g M.c M.s Tryd.prog C a0 H (endK Tryd.prog [.tmp 2]) := by kernel_rfl

/-! internal.strconv.small -/

noncomputable def s_internal_strconv_small (mg : GT) (mc : CT) (ms : ST) (P : Program) (C : CallF) (a0 : Value) (H : AHeap) (K0 : K) : Res :=
bareK (xbin P .lss T.int (.tmp 3) (.const (.int .i64 10)) a0 (.int .i64 10)) H fun t4 h1 =>
mc t4 (fun k1 => bareK (xbin P .add T.int (.tmp 6) (.const (.int .i64 1)) a0 (.int .i64 1)) h1 fun t7 h2 =>
bareK (slT (.string (mk [48, 49, 50, 51, 52, 53, 54, 55, 56, 57, 97, 98, 99, 100, 101, 102, 103, 104, 105, 106, 107, 108, 109, 110, 111, 112, 113, 114, 115, 116, 117, 118, 119, 120, 121, 122])) (some a0) (some t7)) h2 fun t8 h3 =>
k1 .ret [(2, t8)] h3) (fun k1 =>
k1 .normal [(0, a0)] h1) (seqK (fun tT h4 =>
bareK (xbin P .mul T.int (.tmp 9) (.const (.int .i64 2)) (get tT 0) (.int .i64 2)) h4 fun t10 h5 =>
bareK (xbin P .mul T.int (.tmp 11) (.const (.int .i64 2)) (get tT 0) (.int .i64 2)) h5 fun t12 h6 =>
bareK (xbin P .add T.int (.tmp 12) (.const (.int .i64 2)) t12 (.int .i64 2)) h6 fun t13 h7 =>
bareK (slT (.string (mk [48, 48, 48, 49, 48, 50, 48, 51, 48, 52, 48, 53, 48, 54, 48, 55, 48, 56, 48, 57, 49, 48, 49, 49, 49, 50, 49, 51, 49, 52, 49, 53, 49, 54, 49, 55, 49, 56, 49, 57, 50, 48, 50, 49, 50, 50, 50, 51, 50, 52, 50, 53, 50, 54, 50, 55, 50, 56, 50, 57, 51, 48, 51, 49, 51, 50, 51, 51, 51, 52, 51, 53, 51, 54, 51, 55, 51, 56, 51, 57, 52, 48, 52, 49, 52, 50, 52, 51, 52, 52, 52, 53, 52, 54, 52, 55, 52, 56, 52, 57, 53, 48, 53, 49, 53, 50, 53, 51, 53, 52, 53, 53, 53, 54, 53, 55, 53, 56, 53, 57, 54, 48, 54, 49, 54, 50, 54, 51, 54, 52, 54, 53, 54, 54, 54, 55, 54, 56, 54, 57, 55, 48, 55, 49, 55, 50, 55, 51, 55, 52, 55, 53, 55, 54, 55, 55, 55, 56, 55, 57, 56, 48, 56, 49, 56, 50, 56, 51, 56, 52, 56, 53, 56, 54, 56, 55, 56, 56, 56, 57, 57, 48, 57, 49, 57, 50, 57, 51, 57, 52, 57, 53, 57, 54, 57, 55, 57, 56, 57, 57])) (some t10) (some t13)) h7 fun t14 h8 =>
K0 .ret [(2, t14)] h8) K0)

theorem s_internal_strconv_small_eq (M : CombL) (C : CallF) (LP : LoopH) (a0 : Value) (H : AHeap) : dBodyL M Tryd.prog hints C LP F.internal_strconv_small [a0] H = s_internal_strconv_small M.b.g M.c M.s Tryd.prog C a0 H (endK Tryd.prog [.tmp 2]) := by kernel_rfl

/-! internal.strconv.numDigits -/

noncomputable def s_internal_strconv_numDigits (mg : GT) (mc : CT) (ms : ST) (P : Program) (C : CallF) (a0 : Value) (H : AHeap) (K0 : K) : Res :=
enterK C F.math_bits_Len64 [a0] H fun t5 h1 =>
enterK C F.internal_strconv_log10Pow2 [t5] h1 fun t6 h2 =>
bareK (ixA 20 1 top t6) h2 fun t10 h3 =>
bareK (ld1 h3 t10) h3 fun t11 h4 =>
bareK (xbin P .geq T.uint64 (.tmp 8) (.tmp 11) a0 t11) h4 fun t12 h5 =>
enterK C F.internal_strconv_bool2_int [t12] h5 fun t13 h6 =>
bareK (xbin P .add T.int (.tmp 7) (.tmp 13) t6 t13) h6 fun t14 h7 =>
K0 .ret [(2, t14)] h7

theorem s_internal_strconv_numDigits_eq (M : CombL) (C : CallF) (LP : LoopH) (a0 : Value) (H : AHeap) : dBodyL M Tryd.prog hints C LP F.internal_strconv_numDigits [a0] H = s_internal_strconv_numDigits M.b.g M.c M.s Tryd.prog C a0 H (endK Tryd.prog [.tmp 2]) := by kernel_rfl

/-! internal.strconv.formatBase10 -/

noncomputable def s_internal_strconv_formatBase10 (mg : GT) (mc : CT) (ms : ST) (P : Program) (C : CallF) (L0 : Value → Value → Value → AHeap → K → Res) (a0 : Value) (a1 : Value) (H : AHeap) (K0 : K) : Res :=
bareK (lenS a0) H fun t18 h1 =>
ms (fun k1 =>
L0 a0 a1 t18 h1 (blkK [0, 1, 4] 0 k1)) (seqK (fun tT h2 =>
bothK (xconv P T.uint64 T.uint32 (get tT 1) h2) fun t97 h3 =>
bareK (xbin P .geq T.int (.tmp 98) (.const (.int .i64 4)) (get tT 4) (.int .i64 4)) h3 fun t99 h4 =>
mc t99 (fun k2 => bareK (xbin P .rem T.uint32 (.tmp 100) (.const (.int .u32 10000)) t97 (.int .u32 10000)) h4 fun t101 h5 =>
bareK (xbin P .quo T.uint32 (.tmp 102) (.const (.int .u32 10000)) t97 (.int .u32 10000)) h5 fun t103 h6 =>
bareK (xbin P .quo T.uint32 (.tmp 104) (.const (.int .u32 100)) t101 (.int .u32 100)) h6 fun t105 h7 =>
bareK (xbin P .mul T.uint32 (.tmp 105) (.const (.int .u32 2)) t105 (.int .u32 2)) h7 fun t106 h8 =>
bareK (xbin P .rem T.uint32 (.tmp 107) (.const (.int .u32 100)) t101 (.int .u32 100)) h8 fun t108 h9 =>
bareK (xbin P .mul T.uint32 (.tmp 108) (.const (.int .u32 2)) t108 (.int .u32 2)) h9 fun t109 h10 =>
bareK (xbin P .sub T.int (.tmp 111) (.const (.int .i64 1)) (get tT 4) (.int .i64 1)) h10 fun t112 h11 =>
bareK (xbin P .sub T.int (.tmp 114) (.const (.int .i64 2)) (get tT 4) (.int .i64 2)) h11 fun t115 h12 =>
bareK (xbin P .add T.uint32 (.tmp 116) (.const (.int .u32 1)) t109 (.int .u32 1)) h12 fun t117 h13 =>
bareK (xindex P T.string (.string (mk [48, 48, 48, 49, 48, 50, 48, 51, 48, 52, 48, 53, 48, 54, 48, 55, 48, 56, 48, 57, 49, 48, 49, 49, 49, 50, 49, 51, 49, 52, 49, 53, 49, 54, 49, 55, 49, 56, 49, 57, 50, 48, 50, 49, 50, 50, 50, 51, 50, 52, 50, 53, 50, 54, 50, 55, 50, 56, 50, 57, 51, 48, 51, 49, 51, 50, 51, 51, 51, 52, 51, 53, 51, 54, 51, 55, 51, 56, 51, 57, 52, 48, 52, 49, 52, 50, 52, 51, 52, 52, 52, 53, 52, 54, 52, 55, 52, 56, 52, 57, 53, 48, 53, 49, 53, 50, 53, 51, 53, 52, 53, 53, 53, 54, 53, 55, 53, 56, 53, 57, 54, 48, 54, 49, 54, 50, 54, 51, 54, 52, 54, 53, 54, 54, 54, 55, 54, 56, 54, 57, 55, 48, 55, 49, 55, 50, 55, 51, 55, 52, 55, 53, 55, 54, 55, 55, 55, 56, 55, 57, 56, 48, 56, 49, 56, 50, 56, 51, 56, 52, 56, 53, 56, 54, 56, 55, 56, 56, 56, 57, 57, 48, 57, 49, 57, 50, 57, 51, 57, 52, 57, 53, 57, 54, 57, 55, 57, 56, 57, 57])) t117) h13 fun t118 h14 =>
bareK (xindex P T.string (.string (mk [48, 48, 48, 49, 48, 50, 48, 51, 48, 52, 48, 53, 48, 54, 48, 55, 48, 56, 48, 57, 49, 48, 49, 49, 49, 50, 49, 51, 49, 52, 49, 53, 49, 54, 49, 55, 49, 56, 49, 57, 50, 48, 50, 49, 50, 50, 50, 51, 50, 52, 50, 53, 50, 54, 50, 55, 50, 56, 50, 57, 51, 48, 51, 49, 51, 50, 51, 51, 51, 52, 51, 53, 51, 54, 51, 55, 51, 56, 51, 57, 52, 48, 52, 49, 52, 50, 52, 51, 52, 52, 52, 53, 52, 54, 52, 55, 52, 56, 52, 57, 53, 48, 53, 49, 53, 50, 53, 51, 53, 52, 53, 53, 53, 54, 53, 55, 53, 56, 53, 57, 54, 48, 54, 49, 54, 50, 54, 51, 54, 52, 54, 53, 54, 54, 54, 55, 54, 56, 54, 57, 55, 48, 55, 49, 55, 50, 55, 51, 55, 52, 55, 53, 55, 54, 55, 55, 55, 56, 55, 57, 56, 48, 56, 49, 56, 50, 56, 51, 56, 52, 56, 53, 56, 54, 56, 55, 56, 56, 56, 57, 57, 48, 57, 49, 57, 50, 57, 51, 57, 52, 57, 53, 57, 54, 57, 55, 57, 56, 57, 57])) t109) h14 fun t120 h15 =>
bareK (ixS 1 (get tT 0) t112) h15 fun t121 h16 =>
quietK (st1 h16 t121 t118) fun _ h17 =>
bareK (ixS 1 (get tT 0) t115) h17 fun t122 h18 =>
quietK (st1 h18 t122 t120) fun _ h19 =>
checkK (okV (some true) none h16 h17 h11 h11 && (okV (some true) none h16 h17 h11 h11 && (okV (some true) none h16 h17 h11 h12 && (okV (some true) none h16 h17 h14 h14 && (okV (some true) none h16 h17 h14 h15 && true))))) <|
bareK (xbin P .sub T.int (.tmp 124) (.const (.int .i64 3)) (get tT 4) (.int .i64 3)) h19 fun t125 h20 =>
bareK (xbin P .sub T.int (.tmp 127) (.const (.int .i64 4)) (get tT 4) (.int .i64 4)) h20 fun t128 h21 =>
bareK (xbin P .add T.uint32 (.tmp 129) (.const (.int .u32 1)) t106 (.int .u32 1)) h21 fun t130 h22 =>
bareK (xindex P T.string (.string (mk [48, 48, 48, 49, 48, 50, 48, 51, 48, 52, 48, 53, 48, 54, 48, 55, 48, 56, 48, 57, 49, 48, 49, 49, 49, 50, 49, 51, 49, 52, 49, 53, 49, 54, 49, 55, 49, 56, 49, 57, 50, 48, 50, 49, 50, 50, 50, 51, 50, 52, 50, 53, 50, 54, 50, 55, 50, 56, 50, 57, 51, 48, 51, 49, 51, 50, 51, 51, 51, 52, 51, 53, 51, 54, 51, 55, 51, 56, 51, 57, 52, 48, 52, 49, 52, 50, 52, 51, 52, 52, 52, 53, 52, 54, 52, 55, 52, 56, 52, 57, 53, 48, 53, 49, 53, 50, 53, 51, 53, 52, 53, 53, 53, 54, 53, 55, 53, 56, 53, 57, 54, 48, 54, 49, 54, 50, 54, 51, 54, 52, 54, 53, 54, 54, 54, 55, 54, 56, 54, 57, 55, 48, 55, 49, 55, 50, 55, 51, 55, 52, 55, 53, 55, 54, 55, 55, 55, 56, 55, 57, 56, 48, 56, 49, 56, 50, 56, 51, 56, 52, 56, 53, 56, 54, 56, 55, 56, 56, 56, 57, 57, 48, 57, 49, 57, 50, 57, 51, 57, 52, 57, 53, 57, 54, 57, 55, 57, 56, 57, 57])) t130) h22 fun t131 h23 =>
bareK (xindex P T.string (.string (mk [48, 48, 48, 49, 48, 50, 48, 51, 48, 52, 48, 53, 48, 54, 48, 55, 48, 56, 48, 57, 49, 48, 49, 49, 49, 50, 49, 51, 49, 52, 49, 53, 49, 54, 49, 55, 49, 56, 49, 57, 50, 48, 50, 49, 50, 50, 50, 51, 50, 52, 50, 53, 50, 54, 50, 55, 50, 56, 50, 57, 51, 48, 51, 49, 51, 50, 51, 51, 51, 52, 51, 53, 51, 54, 51, 55, 51, 56, 51, 57, 52, 48, 52, 49, 52, 50, 52, 51, 52, 52, 52, 53, 52, 54, 52, 55, 52, 56, 52, 57, 53, 48, 53, 49, 53, 50, 53, 51, 53, 52, 53, 53, 53, 54, 53, 55, 53, 56, 53, 57, 54, 48, 54, 49, 54, 50, 54, 51, 54, 52, 54, 53, 54, 54, 54, 55, 54, 56, 54, 57, 55, 48, 55, 49, 55, 50, 55, 51, 55, 52, 55, 53, 55, 54, 55, 55, 55, 56, 55, 57, 56, 48, 56, 49, 56, 50, 56, 51, 56, 52, 56, 53, 56, 54, 56, 55, 56, 56, 56, 57, 57, 48, 57, 49, 57, 50, 57, 51, 57, 52, 57, 53, 57, 54, 57, 55, 57, 56, 57, 57])) t106) h23 fun t133 h24 =>
bareK (ixS 1 (get tT 0) t125) h24 fun t134 h25 =>
quietK (st1 h25 t134 t131) fun _ h26 =>
bareK (ixS 1 (get tT 0) t128) h26 fun t135 h27 =>
quietK (st1 h27 t135 t133) fun _ h28 =>
checkK (okV (some true) none h25 h26 h20 h20 && (okV (some true) none h25 h26 h20 h20 && (okV (some true) none h25 h26 h20 h21 && (okV (some true) none h25 h26 h23 h23 && (okV (some true) none h25 h26 h23 h24 && true))))) <|
bareK (xbin P .sub T.int (.tmp 136) (.const (.int .i64 4)) (get tT 4) (.int .i64 4)) h28 fun t137 h29 =>
k2 .normal [(0, (get tT 0)), (4, t137), (12, t103)] h29) (fun k2 =>
k2 .normal [(0, (get tT 0)), (4, (get tT 4)), (12, t97)] h4) (seqK (fun tT_1 h30 =>
bareK (xbin P .geq T.int (.tmp 138) (.const (.int .i64 2)) (get tT_1 4) (.int .i64 2)) h30 fun t139 h31 =>
mc t139 (fun k3 => bareK (xbin P .rem T.uint32 (.tmp 140) (.const (.int .u32 100)) (get tT_1 12) (.int .u32 100)) h31 fun t141 h32 =>
bareK (xbin P .mul T.uint32 (.tmp 141) (.const (.int .u32 2)) t141 (.int .u32 2)) h32 fun t142 h33 =>
bareK (xbin P .quo T.uint32 (.tmp 143) (.const (.int .u32 100)) (get tT_1 12) (.int .u32 100)) h33 fun t144 h34 =>
bareK (xbin P .sub T.int (.tmp 146) (.const (.int .i64 1)) (get tT_1 4) (.int .i64 1)) h34 fun t147 h35 =>
bareK (xbin P .sub T.int (.tmp 149) (.const (.int .i64 2)) (get tT_1 4) (.int .i64 2)) h35 fun t150 h36 =>
bareK (xbin P .add T.uint32 (.tmp 151) (.const (.int .u32 1)) t142 (.int .u32 1)) h36 fun t152 h37 =>
bareK (xindex P T.string (.string (mk [48, 48, 48, 49, 48, 50, 48, 51, 48, 52, 48, 53, 48, 54, 48, 55, 48, 56, 48, 57, 49, 48, 49, 49, 49, 50, 49, 51, 49, 52, 49, 53, 49, 54, 49, 55, 49, 56, 49, 57, 50, 48, 50, 49, 50, 50, 50, 51, 50, 52, 50, 53, 50, 54, 50, 55, 50, 56, 50, 57, 51, 48, 51, 49, 51, 50, 51, 51, 51, 52, 51, 53, 51, 54, 51, 55, 51, 56, 51, 57, 52, 48, 52, 49, 52, 50, 52, 51, 52, 52, 52, 53, 52, 54, 52, 55, 52, 56, 52, 57, 53, 48, 53, 49, 53, 50, 53, 51, 53, 52, 53, 53, 53, 54, 53, 55, 53, 56, 53, 57, 54, 48, 54, 49, 54, 50, 54, 51, 54, 52, 54, 53, 54, 54, 54, 55, 54, 56, 54, 57, 55, 48, 55, 49, 55, 50, 55, 51, 55, 52, 55, 53, 55, 54, 55, 55, 55, 56, 55, 57, 56, 48, 56, 49, 56, 50, 56, 51, 56, 52, 56, 53, 56, 54, 56, 55, 56, 56, 56, 57, 57, 48, 57, 49, 57, 50, 57, 51, 57, 52, 57, 53, 57, 54, 57, 55, 57, 56, 57, 57])) t152) h37 fun t153 h38 =>
bareK (xindex P T.string (.string (mk [48, 48, 48, 49, 48, 50, 48, 51, 48, 52, 48, 53, 48, 54, 48, 55, 48, 56, 48, 57, 49, 48, 49, 49, 49, 50, 49, 51, 49, 52, 49, 53, 49, 54, 49, 55, 49, 56, 49, 57, 50, 48, 50, 49, 50, 50, 50, 51, 50, 52, 50, 53, 50, 54, 50, 55, 50, 56, 50, 57, 51, 48, 51, 49, 51, 50, 51, 51, 51, 52, 51, 53, 51, 54, 51, 55, 51, 56, 51, 57, 52, 48, 52, 49, 52, 50, 52, 51, 52, 52, 52, 53, 52, 54, 52, 55, 52, 56, 52, 57, 53, 48, 53, 49, 53, 50, 53, 51, 53, 52, 53, 53, 53, 54, 53, 55, 53, 56, 53, 57, 54, 48, 54, 49, 54, 50, 54, 51, 54, 52, 54, 53, 54, 54, 54, 55, 54, 56, 54, 57, 55, 48, 55, 49, 55, 50, 55, 51, 55, 52, 55, 53, 55, 54, 55, 55, 55, 56, 55, 57, 56, 48, 56, 49, 56, 50, 56, 51, 56, 52, 56, 53, 56, 54, 56, 55, 56, 56, 56, 57, 57, 48, 57, 49, 57, 50, 57, 51, 57, 52, 57, 53, 57, 54, 57, 55, 57, 56, 57, 57])) t142) h38 fun t155 h39 =>
bareK (ixS 1 (get tT_1 0) t147) h39 fun t156 h40 =>
quietK (st1 h40 t156 t153) fun _ h41 =>
bareK (ixS 1 (get tT_1 0) t150) h41 fun t157 h42 =>
quietK (st1 h42 t157 t155) fun _ h43 =>
checkK (okV (some true) none h40 h41 h35 h35 && (okV (some true) none h40 h41 h35 h35 && (okV (some true) none h40 h41 h35 h36 && (okV (some true) none h40 h41 h38 h38 && (okV (some true) none h40 h41 h38 h39 && true))))) <|
bareK (xbin P .sub T.int (.tmp 158) (.const (.int .i64 2)) (get tT_1 4) (.int .i64 2)) h43 fun t159 h44 =>
k3 .normal [(0, (get tT_1 0)), (4, t159), (12, t144)] h44) (fun k3 =>
k3 .normal [(0, (get tT_1 0)), (4, (get tT_1 4)), (12, (get tT_1 12))] h31) (seqK (fun tT_2 h45 =>
bareK (xbin P .gtr T.int (.tmp 160) (.const (.int .i64 0)) (get tT_2 4) (.int .i64 0)) h45 fun t161 h46 =>
mc t161 (fun k4 => bareK (xbin P .add T.uint32 (.const (.int .u32 48)) (.tmp 163) (.int .u32 48) (get tT_2 12)) h46 fun t164 h47 =>
bothK (xconv P T.uint32 T.uint8 t164 h47) fun t165 h48 =>
bareK (ixS 1 (get tT_2 0) (.int .i64 0)) h48 fun t166 h49 =>
quietK (st1 h49 t166 t165) fun _ h50 =>
k4 .normal [] h50) (fun k4 =>
k4 .normal [] h46) K0) K0)) K0)) K0)

noncomputable def s_internal_strconv_formatBase10_b0 (mg : GT) (mc : CT) (ms : ST) (P : Program) (C : CallF) (L0 : Value → Value → Value → AHeap → K → Res) (v0 : Value) (v1 : Value) (v4 : Value) (H : AHeap) (k : K) : Res :=
bareK (xbin P .geq T.int (.tmp 19) (.const (.int .i64 8)) v4 (.int .i64 8)) H fun t20 h2 =>
mc t20 (fun k2 => k2 .normal [(0, v0), (1, v1), (4, v4)] h2) (fun k2 =>
k2 (.exit 0) [(20, t20), (19, v4), (0, v0), (1, v1), (4, v4)] h2) (seqK (fun tT h3 =>
ms (fun k3 =>
bareK (xbin P .rem T.uint64 (.tmp 21) (.const (.int .u64 100000000)) (get tT 1) (.int .u64 100000000)) h3 fun t22 h4 =>
bothK (xconv P T.uint64 T.uint32 t22 h4) fun t23 h5 =>
bareK (xbin P .quo T.uint64 (.tmp 24) (.const (.int .u64 100000000)) (get tT 1) (.int .u64 100000000)) h5 fun t25 h6 =>
bareK (xbin P .quo T.uint32 (.tmp 26) (.const (.int .u32 10000)) t23 (.int .u32 10000)) h6 fun t27 h7 =>
bareK (xbin P .rem T.uint32 (.tmp 28) (.const (.int .u32 10000)) t23 (.int .u32 10000)) h7 fun t29 h8 =>
bareK (xbin P .quo T.uint32 (.tmp 30) (.const (.int .u32 100)) t29 (.int .u32 100)) h8 fun t31 h9 =>
bareK (xbin P .mul T.uint32 (.tmp 31) (.const (.int .u32 2)) t31 (.int .u32 2)) h9 fun t32 h10 =>
bareK (xbin P .rem T.uint32 (.tmp 33) (.const (.int .u32 100)) t29 (.int .u32 100)) h10 fun t34 h11 =>
bareK (xbin P .mul T.uint32 (.tmp 34) (.const (.int .u32 2)) t34 (.int .u32 2)) h11 fun t35 h12 =>
bareK (xbin P .quo T.uint32 (.tmp 36) (.const (.int .u32 100)) t27 (.int .u32 100)) h12 fun t37 h13 =>
bareK (xbin P .mul T.uint32 (.tmp 37) (.const (.int .u32 2)) t37 (.int .u32 2)) h13 fun t38 h14 =>
bareK (xbin P .rem T.uint32 (.tmp 39) (.const (.int .u32 100)) t27 (.int .u32 100)) h14 fun t40 h15 =>
bareK (xbin P .mul T.uint32 (.tmp 40) (.const (.int .u32 2)) t40 (.int .u32 2)) h15 fun t41 h16 =>
bareK (xbin P .sub T.int (.tmp 43) (.const (.int .i64 1)) (get tT 4) (.int .i64 1)) h16 fun t44 h17 =>
bareK (xbin P .sub T.int (.tmp 46) (.const (.int .i64 2)) (get tT 4) (.int .i64 2)) h17 fun t47 h18 =>
bareK (xbin P .add T.uint32 (.tmp 48) (.const (.int .u32 1)) t35 (.int .u32 1)) h18 fun t49 h19 =>
bareK (xindex P T.string (.string (mk [48, 48, 48, 49, 48, 50, 48, 51, 48, 52, 48, 53, 48, 54, 48, 55, 48, 56, 48, 57, 49, 48, 49, 49, 49, 50, 49, 51, 49, 52, 49, 53, 49, 54, 49, 55, 49, 56, 49, 57, 50, 48, 50, 49, 50, 50, 50, 51, 50, 52, 50, 53, 50, 54, 50, 55, 50, 56, 50, 57, 51, 48, 51, 49, 51, 50, 51, 51, 51, 52, 51, 53, 51, 54, 51, 55, 51, 56, 51, 57, 52, 48, 52, 49, 52, 50, 52, 51, 52, 52, 52, 53, 52, 54, 52, 55, 52, 56, 52, 57, 53, 48, 53, 49, 53, 50, 53, 51, 53, 52, 53, 53, 53, 54, 53, 55, 53, 56, 53, 57, 54, 48, 54, 49, 54, 50, 54, 51, 54, 52, 54, 53, 54, 54, 54, 55, 54, 56, 54, 57, 55, 48, 55, 49, 55, 50, 55, 51, 55, 52, 55, 53, 55, 54, 55, 55, 55, 56, 55, 57, 56, 48, 56, 49, 56, 50, 56, 51, 56, 52, 56, 53, 56, 54, 56, 55, 56, 56, 56, 57, 57, 48, 57, 49, 57, 50, 57, 51, 57, 52, 57, 53, 57, 54, 57, 55, 57, 56, 57, 57])) t49) h19 fun t50 h20 =>
bareK (xindex P T.string (.string (mk [48, 48, 48, 49, 48, 50, 48, 51, 48, 52, 48, 53, 48, 54, 48, 55, 48, 56, 48, 57, 49, 48, 49, 49, 49, 50, 49, 51, 49, 52, 49, 53, 49, 54, 49, 55, 49, 56, 49, 57, 50, 48, 50, 49, 50, 50, 50, 51, 50, 52, 50, 53, 50, 54, 50, 55, 50, 56, 50, 57, 51, 48, 51, 49, 51, 50, 51, 51, 51, 52, 51, 53, 51, 54, 51, 55, 51, 56, 51, 57, 52, 48, 52, 49, 52, 50, 52, 51, 52, 52, 52, 53, 52, 54, 52, 55, 52, 56, 52, 57, 53, 48, 53, 49, 53, 50, 53, 51, 53, 52, 53, 53, 53, 54, 53, 55, 53, 56, 53, 57, 54, 48, 54, 49, 54, 50, 54, 51, 54, 52, 54, 53, 54, 54, 54, 55, 54, 56, 54, 57, 55, 48, 55, 49, 55, 50, 55, 51, 55, 52, 55, 53, 55, 54, 55, 55, 55, 56, 55, 57, 56, 48, 56, 49, 56, 50, 56, 51, 56, 52, 56, 53, 56, 54, 56, 55, 56, 56, 56, 57, 57, 48, 57, 49, 57, 50, 57, 51, 57, 52, 57, 53, 57, 54, 57, 55, 57, 56, 57, 57])) t35) h20 fun t52 h21 =>
bareK (ixS 1 (get tT 0) t44) h21 fun t53 h22 =>
quietK (st1 h22 t53 t50) fun _ h23 =>
bareK (ixS 1 (get tT 0) t47) h23 fun t54 h24 =>
quietK (st1 h24 t54 t52) fun _ h25 =>
checkK (okV (some true) none h22 h23 h17 h17 && (okV (some true) none h22 h23 h17 h17 && (okV (some true) none h22 h23 h17 h18 && (okV (some true) none h22 h23 h20 h20 && (okV (some true) none h22 h23 h20 h21 && true))))) <|
bareK (xbin P .sub T.int (.tmp 56) (.const (.int .i64 3)) (get tT 4) (.int .i64 3)) h25 fun t57 h26 =>
bareK (xbin P .sub T.int (.tmp 59) (.const (.int .i64 4)) (get tT 4) (.int .i64 4)) h26 fun t60 h27 =>
bareK (xbin P .add T.uint32 (.tmp 61) (.const (.int .u32 1)) t32 (.int .u32 1)) h27 fun t62 h28 =>
bareK (xindex P T.string (.string (mk [48, 48, 48, 49, 48, 50, 48, 51, 48, 52, 48, 53, 48, 54, 48, 55, 48, 56, 48, 57, 49, 48, 49, 49, 49, 50, 49, 51, 49, 52, 49, 53, 49, 54, 49, 55, 49, 56, 49, 57, 50, 48, 50, 49, 50, 50, 50, 51, 50, 52, 50, 53, 50, 54, 50, 55, 50, 56, 50, 57, 51, 48, 51, 49, 51, 50, 51, 51, 51, 52, 51, 53, 51, 54, 51, 55, 51, 56, 51, 57, 52, 48, 52, 49, 52, 50, 52, 51, 52, 52, 52, 53, 52, 54, 52, 55, 52, 56, 52, 57, 53, 48, 53, 49, 53, 50, 53, 51, 53, 52, 53, 53, 53, 54, 53, 55, 53, 56, 53, 57, 54, 48, 54, 49, 54, 50, 54, 51, 54, 52, 54, 53, 54, 54, 54, 55, 54, 56, 54, 57, 55, 48, 55, 49, 55, 50, 55, 51, 55, 52, 55, 53, 55, 54, 55, 55, 55, 56, 55, 57, 56, 48, 56, 49, 56, 50, 56, 51, 56, 52, 56, 53, 56, 54, 56, 55, 56, 56, 56, 57, 57, 48, 57, 49, 57, 50, 57, 51, 57, 52, 57, 53, 57, 54, 57, 55, 57, 56, 57, 57])) t62) h28 fun t63 h29 =>
bareK (xindex P T.string (.string (mk [48, 48, 48, 49, 48, 50, 48, 51, 48, 52, 48, 53, 48, 54, 48, 55, 48, 56, 48, 57, 49, 48, 49, 49, 49, 50, 49, 51, 49, 52, 49, 53, 49, 54, 49, 55, 49, 56, 49, 57, 50, 48, 50, 49, 50, 50, 50, 51, 50, 52, 50, 53, 50, 54, 50, 55, 50, 56, 50, 57, 51, 48, 51, 49, 51, 50, 51, 51, 51, 52, 51, 53, 51, 54, 51, 55, 51, 56, 51, 57, 52, 48, 52, 49, 52, 50, 52, 51, 52, 52, 52, 53, 52, 54, 52, 55, 52, 56, 52, 57, 53, 48, 53, 49, 53, 50, 53, 51, 53, 52, 53, 53, 53, 54, 53, 55, 53, 56, 53, 57, 54, 48, 54, 49, 54, 50, 54, 51, 54, 52, 54, 53, 54, 54, 54, 55, 54, 56, 54, 57, 55, 48, 55, 49, 55, 50, 55, 51, 55, 52, 55, 53, 55, 54, 55, 55, 55, 56, 55, 57, 56, 48, 56, 49, 56, 50, 56, 51, 56, 52, 56, 53, 56, 54, 56, 55, 56, 56, 56, 57, 57, 48, 57, 49, 57, 50, 57, 51, 57, 52, 57, 53, 57, 54, 57, 55, 57, 56, 57, 57])) t32) h29 fun t65 h30 =>
bareK (ixS 1 (get tT 0) t57) h30 fun t66 h31 =>
quietK (st1 h31 t66 t63) fun _ h32 =>
bareK (ixS 1 (get tT 0) t60) h32 fun t67 h33 =>
quietK (st1 h33 t67 t65) fun _ h34 =>
checkK (okV (some true) none h31 h32 h26 h26 && (okV (some true) none h31 h32 h26 h26 && (okV (some true) none h31 h32 h26 h27 && (okV (some true) none h31 h32 h29 h29 && (okV (some true) none h31 h32 h29 h30 && true))))) <|
bareK (xbin P .sub T.int (.tmp 69) (.const (.int .i64 5)) (get tT 4) (.int .i64 5)) h34 fun t70 h35 =>
bareK (xbin P .sub T.int (.tmp 72) (.const (.int .i64 6)) (get tT 4) (.int .i64 6)) h35 fun t73 h36 =>
bareK (xbin P .add T.uint32 (.tmp 74) (.const (.int .u32 1)) t41 (.int .u32 1)) h36 fun t75 h37 =>
bareK (xindex P T.string (.string (mk [48, 48, 48, 49, 48, 50, 48, 51, 48, 52, 48, 53, 48, 54, 48, 55, 48, 56, 48, 57, 49, 48, 49, 49, 49, 50, 49, 51, 49, 52, 49, 53, 49, 54, 49, 55, 49, 56, 49, 57, 50, 48, 50, 49, 50, 50, 50, 51, 50, 52, 50, 53, 50, 54, 50, 55, 50, 56, 50, 57, 51, 48, 51, 49, 51, 50, 51, 51, 51, 52, 51, 53, 51, 54, 51, 55, 51, 56, 51, 57, 52, 48, 52, 49, 52, 50, 52, 51, 52, 52, 52, 53, 52, 54, 52, 55, 52, 56, 52, 57, 53, 48, 53, 49, 53, 50, 53, 51, 53, 52, 53, 53, 53, 54, 53, 55, 53, 56, 53, 57, 54, 48, 54, 49, 54, 50, 54, 51, 54, 52, 54, 53, 54, 54, 54, 55, 54, 56, 54, 57, 55, 48, 55, 49, 55, 50, 55, 51, 55, 52, 55, 53, 55, 54, 55, 55, 55, 56, 55, 57, 56, 48, 56, 49, 56, 50, 56, 51, 56, 52, 56, 53, 56, 54, 56, 55, 56, 56, 56, 57, 57, 48, 57, 49, 57, 50, 57, 51, 57, 52, 57, 53, 57, 54, 57, 55, 57, 56, 57, 57])) t75) h37 fun t76 h38 =>
bareK (xindex P T.string (.string (mk [48, 48, 48, 49, 48, 50, 48, 51, 48, 52, 48, 53, 48, 54, 48, 55, 48, 56, 48, 57, 49, 48, 49, 49, 49, 50, 49, 51, 49, 52, 49, 53, 49, 54, 49, 55, 49, 56, 49, 57, 50, 48, 50, 49, 50, 50, 50, 51, 50, 52, 50, 53, 50, 54, 50, 55, 50, 56, 50, 57, 51, 48, 51, 49, 51, 50, 51, 51, 51, 52, 51, 53, 51, 54, 51, 55, 51, 56, 51, 57, 52, 48, 52, 49, 52, 50, 52, 51, 52, 52, 52, 53, 52, 54, 52, 55, 52, 56, 52, 57, 53, 48, 53, 49, 53, 50, 53, 51, 53, 52, 53, 53, 53, 54, 53, 55, 53, 56, 53, 57, 54, 48, 54, 49, 54, 50, 54, 51, 54, 52, 54, 53, 54, 54, 54, 55, 54, 56, 54, 57, 55, 48, 55, 49, 55, 50, 55, 51, 55, 52, 55, 53, 55, 54, 55, 55, 55, 56, 55, 57, 56, 48, 56, 49, 56, 50, 56, 51, 56, 52, 56, 53, 56, 54, 56, 55, 56, 56, 56, 57, 57, 48, 57, 49, 57, 50, 57, 51, 57, 52, 57, 53, 57, 54, 57, 55, 57, 56, 57, 57])) t41) h38 fun t78 h39 =>
bareK (ixS 1 (get tT 0) t70) h39 fun t79 h40 =>
quietK (st1 h40 t79 t76) fun _ h41 =>
bareK (ixS 1 (get tT 0) t73) h41 fun t80 h42 =>
quietK (st1 h42 t80 t78) fun _ h43 =>
checkK (okV (some true) none h40 h41 h35 h35 && (okV (some true) none h40 h41 h35 h35 && (okV (some true) none h40 h41 h35 h36 && (okV (some true) none h40 h41 h38 h38 && (okV (some true) none h40 h41 h38 h39 && true))))) <|
bareK (xbin P .sub T.int (.tmp 82) (.const (.int .i64 7)) (get tT 4) (.int .i64 7)) h43 fun t83 h44 =>
bareK (xbin P .sub T.int (.tmp 85) (.const (.int .i64 8)) (get tT 4) (.int .i64 8)) h44 fun t86 h45 =>
bareK (xbin P .add T.uint32 (.tmp 87) (.const (.int .u32 1)) t38 (.int .u32 1)) h45 fun t88 h46 =>
bareK (xindex P T.string (.string (mk [48, 48, 48, 49, 48, 50, 48, 51, 48, 52, 48, 53, 48, 54, 48, 55, 48, 56, 48, 57, 49, 48, 49, 49, 49, 50, 49, 51, 49, 52, 49, 53, 49, 54, 49, 55, 49, 56, 49, 57, 50, 48, 50, 49, 50, 50, 50, 51, 50, 52, 50, 53, 50, 54, 50, 55, 50, 56, 50, 57, 51, 48, 51, 49, 51, 50, 51, 51, 51, 52, 51, 53, 51, 54, 51, 55, 51, 56, 51, 57, 52, 48, 52, 49, 52, 50, 52, 51, 52, 52, 52, 53, 52, 54, 52, 55, 52, 56, 52, 57, 53, 48, 53, 49, 53, 50, 53, 51, 53, 52, 53, 53, 53, 54, 53, 55, 53, 56, 53, 57, 54, 48, 54, 49, 54, 50, 54, 51, 54, 52, 54, 53, 54, 54, 54, 55, 54, 56, 54, 57, 55, 48, 55, 49, 55, 50, 55, 51, 55, 52, 55, 53, 55, 54, 55, 55, 55, 56, 55, 57, 56, 48, 56, 49, 56, 50, 56, 51, 56, 52, 56, 53, 56, 54, 56, 55, 56, 56, 56, 57, 57, 48, 57, 49, 57, 50, 57, 51, 57, 52, 57, 53, 57, 54, 57, 55, 57, 56, 57, 57])) t88) h46 fun t89 h47 =>
bareK (xindex P T.string (.string (mk [48, 48, 48, 49, 48, 50, 48, 51, 48, 52, 48, 53, 48, 54, 48, 55, 48, 56, 48, 57, 49, 48, 49, 49, 49, 50, 49, 51, 49, 52, 49, 53, 49, 54, 49, 55, 49, 56, 49, 57, 50, 48, 50, 49, 50, 50, 50, 51, 50, 52, 50, 53, 50, 54, 50, 55, 50, 56, 50, 57, 51, 48, 51, 49, 51, 50, 51, 51, 51, 52, 51, 53, 51, 54, 51, 55, 51, 56, 51, 57, 52, 48, 52, 49, 52, 50, 52, 51, 52, 52, 52, 53, 52, 54, 52, 55, 52, 56, 52, 57, 53, 48, 53, 49, 53, 50, 53, 51, 53, 52, 53, 53, 53, 54, 53, 55, 53, 56, 53, 57, 54, 48, 54, 49, 54, 50, 54, 51, 54, 52, 54, 53, 54, 54, 54, 55, 54, 56, 54, 57, 55, 48, 55, 49, 55, 50, 55, 51, 55, 52, 55, 53, 55, 54, 55, 55, 55, 56, 55, 57, 56, 48, 56, 49, 56, 50, 56, 51, 56, 52, 56, 53, 56, 54, 56, 55, 56, 56, 56, 57, 57, 48, 57, 49, 57, 50, 57, 51, 57, 52, 57, 53, 57, 54, 57, 55, 57, 56, 57, 57])) t38) h47 fun t91 h48 =>
bareK (ixS 1 (get tT 0) t83) h48 fun t92 h49 =>
quietK (st1 h49 t92 t89) fun _ h50 =>
bareK (ixS 1 (get tT 0) t86) h50 fun t93 h51 =>
quietK (st1 h51 t93 t91) fun _ h52 =>
checkK (okV (some true) none h49 h50 h44 h44 && (okV (some true) none h49 h50 h44 h44 && (okV (some true) none h49 h50 h44 h45 && (okV (some true) none h49 h50 h47 h47 && (okV (some true) none h49 h50 h47 h48 && true))))) <|
bareK (xbin P .sub T.int (.tmp 94) (.const (.int .i64 8)) (get tT 4) (.int .i64 8)) h52 fun t95 h53 =>
k3 .normal [(0, (get tT 0)), (1, t25), (4, t95)] h53) (afterK [0, 1, 4] k)) (afterK [0, 1, 4] k))

theorem s_internal_strconv_formatBase10_eq (M : CombL) (C : CallF) (LP : LoopH) (a0 : Value) (a1 : Value) (H : AHeap) : dBodyL M Tryd.prog hints C LP F.internal_strconv_formatBase10 [a0, a1] H = s_internal_strconv_formatBase10 M.b.g M.c M.s Tryd.prog C (fun v0 v1 v4 H k => loopL M Tryd.prog hints C LP F.internal_strconv_formatBase10 0 [(0, v0), (1, v1), (4, v4)] H k) a0 a1 H (endK Tryd.prog []) := by kernel_rfl

theorem s_internal_strconv_formatBase10_b0_eq (M : CombL) (C : CallF) (LP : LoopH) (v0 : Value) (v1 : Value) (v4 : Value) (H : AHeap) (k : K) : bodyL M Tryd.prog hints C LP F.internal_strconv_formatBase10 0 [(0, v0), (1, v1), (4, v4)] H (afterK [0, 1, 4] k) = s_internal_strconv_formatBase10_b0 M.b.g M.c M.s Tryd.prog C (fun v0 v1 v4 H k => loopL M Tryd.prog hints C LP F.internal_strconv_formatBase10 0 [(0, v0), (1, v1), (4, v4)] H k) v0 v1 v4 H k := by kernel_rfl

/-! internal.strconv.formatBits -/

noncomputable def s_internal_strconv_formatBits (mg : GT) (mc : CT) (ms : ST) (P : Program) (C : CallF) (L0 : Value → Value → Value → Value → Value → Value → Value → Value → Value → Value → Value → AHeap → K → Res) (L1 : Value → Value → Value → Value → Value → Value → Value → Value → Value → AHeap → K → Res) (a0 : Value) (a1 : Value) (a2 : Value) (a3 : Value) (a4 : Value) (H : AHeap) (K0 : K) : Res :=
bareK (xbin P .lss T.int (.tmp 19) (.const (.int .i64 2)) a2 (.int .i64 2)) H fun t20 h1 =>
mg t20 false (fun o1 => o1 a2 h1) h1 fun t22 h2 =>
mg t20 false (fun o2 => bareK (xbin P .eql T.int (.tmp 22) (.const (.int .i64 10)) t22 (.int .i64 10)) h2 o2) h2 fun t23 h3 =>
pickK t20 (.bool true) t23 fun t24 =>
mg t24 false (fun o3 => o3 a2 h3) h3 fun t26 h4 =>
mg t24 false (fun o4 => bareK (xbin P .gtr T.int (.tmp 26) (.const (.int .i64 36)) t26 (.int .i64 36)) h4 o4) h4 fun t27 h5 =>
pickK t24 (.bool true) t27 fun t28 =>
mc t28 (fun k5 => none) (fun k5 =>
k5 .normal [(0, a0), (1, a1), (2, a2), (3, a3), (4, a4), (10, (.slice none 0 0)), (11, (.string (mk [])))] h5) (seqK (fun tT h6 =>
bothK (newv T.n65_uint8 (.agg #[(.int .u8 0), (.int .u8 0), (.int .u8 0), (.int .u8 0), (.int .u8 0), (.int .u8 0), (.int .u8 0), (.int .u8 0), (.int .u8 0), (.int .u8 0), (.int .u8 0), (.int .u8 0), (.int .u8 0), (.int .u8 0), (.int .u8 0), (.int .u8 0), (.int .u8 0), (.int .u8 0), (.int .u8 0), (.int .u8 0), (.int .u8 0), (.int .u8 0), (.int .u8 0), (.int .u8 0), (.int .u8 0), (.int .u8 0), (.int .u8 0), (.int .u8 0), (.int .u8 0), (.int .u8 0), (.int .u8 0), (.int .u8 0), (.int .u8 0), (.int .u8 0), (.int .u8 0), (.int .u8 0), (.int .u8 0), (.int .u8 0), (.int .u8 0), (.int .u8 0), (.int .u8 0), (.int .u8 0), (.int .u8 0), (.int .u8 0), (.int .u8 0), (.int .u8 0), (.int .u8 0), (.int .u8 0), (.int .u8 0), (.int .u8 0), (.int .u8 0), (.int .u8 0), (.int .u8 0), (.int .u8 0), (.int .u8 0), (.int .u8 0), (.int .u8 0), (.int .u8 0), (.int .u8 0), (.int .u8 0), (.int .u8 0), (.int .u8 0), (.int .u8 0), (.int .u8 0), (.int .u8 0)]) h6) fun t12 h7 =>
mc (get tT 3) (fun k6 => bareK (xun P .neg (get tT 1)) h7 fun t32 h8 =>
k6 .normal [(0, (get tT 0)), (1, t32), (2, (get tT 2)), (3, (get tT 3)), (4, (get tT 4)), (10, (get tT 10)), (11, (get tT 11)), (12, t12), (13, (.int .i64 65))] h8) (fun k6 =>
k6 .normal [(0, (get tT 0)), (1, (get tT 1)), (2, (get tT 2)), (3, (get tT 3)), (4, (get tT 4)), (10, (get tT 10)), (11, (get tT 11)), (12, t12), (13, (.int .i64 65))] h7) (seqK (fun tT_1 h9 =>
enterK C F.internal_strconv_isPowerOfTwo [(get tT_1 2)] h9 fun t34 h10 =>
mc t34 (fun k7 => bothK (xconv P T.int T.uint (get tT_1 2) h10) fun t36 h11 =>
enterK C F.math_bits_TrailingZeros [t36] h11 fun t37 h12 =>
bothK (xconv P T.int T.uint t37 h12) fun t38 h13 =>
bothK (xconv P T.int T.uint64 (get tT_1 2) h13) fun t40 h14 =>
bothK (xconv P T.int T.uint (get tT_1 2) h14) fun t42 h15 =>
bareK (xbin P .sub T.uint (.tmp 42) (.const (.int .u64 1)) t42 (.int .u64 1)) h15 fun t43 h16 =>
ms (fun k8 =>
L0 (get tT_1 0) (get tT_1 1) (get tT_1 3) (get tT_1 4) (get tT_1 10) (get tT_1 11) (get tT_1 12) (get tT_1 13) t38 t40 t43 h16 (blkK [0, 1, 3, 4, 10, 11, 12, 13] 0 k8)) (seqK (fun tT_2 h17 =>
bareK (xbin P .sub T.int (.tmp 58) (.const (.int .i64 1)) (get tT_2 13) (.int .i64 1)) h17 fun t59 h18 =>
bareK (xindex P T.string (.string (mk [48, 49, 50, 51, 52, 53, 54, 55, 56, 57, 97, 98, 99, 100, 101, 102, 103, 104, 105, 106, 107, 108, 109, 110, 111, 112, 113, 114, 115, 116, 117, 118, 119, 120, 121, 122])) (get tT_2 1)) h18 fun t62 h19 =>
bareK (ixA 65 1 (get tT_2 12) t59) h19 fun t63 h20 =>
quietK (st1 h20 t63 t62) fun _ h21 =>
k7 .normal [(0, (get tT_2 0)), (3, (get tT_2 3)), (4, (get tT_2 4)), (10, (get tT_2 10)), (11, (get tT_2 11)), (12, (get tT_2 12)), (13, t59)] h21) (afterK [0, 3, 4, 10, 11, 12, 13] k7))) (fun k7 =>
bothK (xconv P T.int T.uint64 (get tT_1 2) h10) fun t65 h22 =>
ms (fun k9 =>
L1 (get tT_1 0) (get tT_1 1) (get tT_1 3) (get tT_1 4) (get tT_1 10) (get tT_1 11) (get tT_1 12) (get tT_1 13) t65 h22 (blkK [0, 1, 3, 4, 10, 11, 12, 13] 2 k9)) (seqK (fun tT_3 h23 =>
bareK (xbin P .sub T.int (.tmp 83) (.const (.int .i64 1)) (get tT_3 13) (.int .i64 1)) h23 fun t84 h24 =>
bareK (xindex P T.string (.string (mk [48, 49, 50, 51, 52, 53, 54, 55, 56, 57, 97, 98, 99, 100, 101, 102, 103, 104, 105, 106, 107, 108, 109, 110, 111, 112, 113, 114, 115, 116, 117, 118, 119, 120, 121, 122])) (get tT_3 1)) h24 fun t87 h25 =>
bareK (ixA 65 1 (get tT_3 12) t84) h25 fun t88 h26 =>
quietK (st1 h26 t88 t87) fun _ h27 =>
k7 .normal [(0, (get tT_3 0)), (3, (get tT_3 3)), (4, (get tT_3 4)), (10, (get tT_3 10)), (11, (get tT_3 11)), (12, (get tT_3 12)), (13, t84)] h27) (afterK [0, 3, 4, 10, 11, 12, 13] k7))) (seqK (fun tT_4 h28 =>
mc (get tT_4 3) (fun k10 => bareK (xbin P .sub T.int (.tmp 90) (.const (.int .i64 1)) (get tT_4 13) (.int .i64 1)) h28 fun t91 h29 =>
bareK (ixA 65 1 (get tT_4 12) t91) h29 fun t93 h30 =>
quietK (st1 h30 t93 (.int .u8 45)) fun _ h31 =>
k10 .normal [(0, (get tT_4 0)), (4, (get tT_4 4)), (10, (get tT_4 10)), (11, (get tT_4 11)), (12, (get tT_4 12)), (13, t91)] h31) (fun k10 =>
k10 .normal [(0, (get tT_4 0)), (4, (get tT_4 4)), (10, (get tT_4 10)), (11, (get tT_4 11)), (12, (get tT_4 12)), (13, (get tT_4 13))] h28) (seqK (fun tT_5 h32 =>
mc (get tT_5 4) (fun k11 => bareK (slA 65 1 (get tT_5 12) (some (get tT_5 13)) none) h32 fun t97 h33 =>
bothK (app T.uint8 1 1 (get tT_5 0) (srcS 1 t97 h33) h33) fun t98 h34 =>
k11 .ret [(10, t98), (11, (get tT_5 11))] h34) (fun k11 =>
k11 .normal [(10, (get tT_5 10)), (12, (get tT_5 12)), (13, (get tT_5 13))] h32) (seqK (fun tT_6 h35 =>
bareK (slA 65 1 (get tT_6 12) (some (get tT_6 13)) none) h35 fun t100 h36 =>
bothK (xconv P T.sl_uint8 T.string t100 h36) fun t101 h37 =>
K0 .ret [(10, (get tT_6 10)), (11, t101)] h37) K0)) K0)) K0)) K0)) K0)

noncomputable def s_internal_strconv_formatBits_b0 (mg : GT) (mc : CT) (ms : ST) (P : Program) (C : CallF) (L0 : Value → Value → Value → Value → Value → Value → Value → Value → Value → Value → Value → AHeap → K → Res) (L1 : Value → Value → Value → Value → Value → Value → Value → Value → Value → AHeap → K → Res) (v0 : Value) (v1 : Value) (v3 : Value) (v4 : Value) (v10 : Value) (v11 : Value) (v12 : Value) (v13 : Value) (v14 : Value) (v15 : Value) (v16 : Value) (H : AHeap) (k : K) : Res :=
bareK (xbin P .geq T.uint64 (.tmp 44) (.tmp 45) v1 v15) H fun t46 h17 =>
mc t46 (fun k9 => k9 .normal [(0, v0), (1, v1), (3, v3), (4, v4), (10, v10), (11, v11), (12, v12), (13, v13), (14, v14), (15, v15), (16, v16)] h17) (fun k9 =>
k9 (.exit 0) [(46, t46), (45, v15), (44, v1), (0, v0), (1, v1), (3, v3), (4, v4), (10, v10), (11, v11), (12, v12), (13, v13), (14, v14), (15, v15), (16, v16)] h17) (seqK (fun tT h18 =>
ms (fun k10 =>
bareK (xbin P .sub T.int (.tmp 47) (.const (.int .i64 1)) (get tT 13) (.int .i64 1)) h18 fun t48 h19 =>
bareK (xbin P .and T.uint (.tmp 50) (.tmp 51) (get tT 1) (get tT 16)) h19 fun t52 h20 =>
bareK (xindex P T.string (.string (mk [48, 49, 50, 51, 52, 53, 54, 55, 56, 57, 97, 98, 99, 100, 101, 102, 103, 104, 105, 106, 107, 108, 109, 110, 111, 112, 113, 114, 115, 116, 117, 118, 119, 120, 121, 122])) t52) h20 fun t53 h21 =>
bareK (ixA 65 1 (get tT 12) t48) h21 fun t54 h22 =>
quietK (st1 h22 t54 t53) fun _ h23 =>
bareK (xbin P .shr T.uint64 (.tmp 55) (.tmp 56) (get tT 1) (get tT 14)) h23 fun t57 h24 =>
k10 .normal [(0, (get tT 0)), (1, t57), (3, (get tT 3)), (4, (get tT 4)), (10, (get tT 10)), (11, (get tT 11)), (12, (get tT 12)), (13, t48), (14, (get tT 14)), (15, (get tT 15)), (16, (get tT 16))] h24) (afterK [0, 1, 3, 4, 10, 11, 12, 13, 14, 15, 16] k)) (afterK [0, 1, 3, 4, 10, 11, 12, 13, 14, 15, 16] k))

noncomputable def s_internal_strconv_formatBits_b1 (mg : GT) (mc : CT) (ms : ST) (P : Program) (C : CallF) (L0 : Value → Value → Value → Value → Value → Value → Value → Value → Value → Value → Value → AHeap → K → Res) (L1 : Value → Value → Value → Value → Value → Value → Value → Value → Value → AHeap → K → Res) (v0 : Value) (v1 : Value) (v3 : Value) (v4 : Value) (v10 : Value) (v11 : Value) (v12 : Value) (v13 : Value) (v17 : Value) (H : AHeap) (k : K) : Res :=
bareK (xbin P .geq T.uint64 (.tmp 66) (.tmp 67) v1 v17) H fun t68 h23 =>
mc t68 (fun k10 => k10 .normal [(0, v0), (1, v1), (3, v3), (4, v4), (10, v10), (11, v11), (12, v12), (13, v13), (17, v17)] h23) (fun k10 =>
k10 (.exit 2) [(68, t68), (67, v17), (66, v1), (0, v0), (1, v1), (3, v3), (4, v4), (10, v10), (11, v11), (12, v12), (13, v13), (17, v17)] h23) (seqK (fun tT h24 =>
ms (fun k11 =>
bareK (xbin P .sub T.int (.tmp 69) (.const (.int .i64 1)) (get tT 13) (.int .i64 1)) h24 fun t70 h25 =>
bareK (xbin P .quo T.uint64 (.tmp 71) (.tmp 72) (get tT 1) (get tT 17)) h25 fun t73 h26 =>
bareK (xbin P .mul T.uint64 (.tmp 76) (.tmp 77) t73 (get tT 17)) h26 fun t78 h27 =>
bareK (xbin P .sub T.uint64 (.tmp 75) (.tmp 78) (get tT 1) t78) h27 fun t79 h28 =>
bareK (xindex P T.string (.string (mk [48, 49, 50, 51, 52, 53, 54, 55, 56, 57, 97, 98, 99, 100, 101, 102, 103, 104, 105, 106, 107, 108, 109, 110, 111, 112, 113, 114, 115, 116, 117, 118, 119, 120, 121, 122])) t79) h28 fun t80 h29 =>
bareK (ixA 65 1 (get tT 12) t70) h29 fun t81 h30 =>
quietK (st1 h30 t81 t80) fun _ h31 =>
k11 .normal [(0, (get tT 0)), (1, t73), (3, (get tT 3)), (4, (get tT 4)), (10, (get tT 10)), (11, (get tT 11)), (12, (get tT 12)), (13, t70), (17, (get tT 17))] h31) (afterK [0, 1, 3, 4, 10, 11, 12, 13, 17] k)) (afterK [0, 1, 3, 4, 10, 11, 12, 13, 17] k))

theorem s_internal_strconv_formatBits_eq (M : CombL) (C : CallF) (LP : LoopH) (a0 : Value) (a1 : Value) (a2 : Value) (a3 : Value) (a4 : Value) (H : AHeap) : dBodyL M Tryd.prog hints C LP F.internal_strconv_formatBits [a0, a1, a2, a3, a4] H = s_internal_strconv_formatBits M.b.g M.c M.s Tryd.prog C (fun v0 v1 v3 v4 v10 v11 v12 v13 v14 v15 v16 H k => loopL M Tryd.prog hints C LP F.internal_strconv_formatBits 0 [(0, v0), (1, v1), (3, v3), (4, v4), (10, v10), (11, v11), (12, v12), (13, v13), (14, v14), (15, v15), (16, v16)] H k) (fun v0 v1 v3 v4 v10 v11 v12 v13 v17 H k => loopL M Tryd.prog hints C LP F.internal_strconv_formatBits 1 [(0, v0), (1, v1), (3, v3), (4, v4), (10, v10), (11, v11), (12, v12), (13, v13), (17, v17)] H k) a0 a1 a2 a3 a4 H (endK Tryd.prog [.tmp 10, .tmp 11]) := by kernel_rfl

theorem s_internal_strconv_formatBits_b0_eq (M : CombL) (C : CallF) (LP : LoopH) (v0 : Value) (v1 : Value) (v3 : Value) (v4 : Value) (v10 : Value) (v11 : Value) (v12 : Value) (v13 : Value) (v14 : Value) (v15 : Value) (v16 : Value) (H : AHeap) (k : K) : bodyL M Tryd.prog hints C LP F.internal_strconv_formatBits 0 [(0, v0), (1, v1), (3, v3), (4, v4), (10, v10), (11, v11), (12, v12), (13, v13), (14, v14), (15, v15), (16, v16)] H (afterK [0, 1, 3, 4, 10, 11, 12, 13, 14, 15, 16] k) = s_internal_strconv_formatBits_b0 M.b.g M.c M.s Tryd.prog C (fun v0 v1 v3 v4 v10 v11 v12 v13 v14 v15 v16 H k => loopL M Tryd.prog hints C LP F.internal_strconv_formatBits 0 [(0, v0), (1, v1), (3, v3), (4, v4), (10, v10), (11, v11), (12, v12), (13, v13), (14, v14), (15, v15), (16, v16)] H k) (fun v0 v1 v3 v4 v10 v11 v12 v13 v17 H k => loopL M Tryd.prog hints C LP F.internal_strconv_formatBits 1 [(0, v0), (1, v1), (3, v3), (4, v4), (10, v10), (11, v11), (12, v12), (13, v13), (17, v17)] H k) v0 v1 v3 v4 v10 v11 v12 v13 v14 v15 v16 H k := by kernel_rfl

theorem s_internal_strconv_formatBits_b1_eq (M : CombL) (C : CallF) (LP : LoopH) (v0 : Value) (v1 : Value) (v3 : Value) (v4 : Value) (v10 : Value) (v11 : Value) (v12 : Value) (v13 : Value) (v17 : Value) (H : AHeap) (k : K) : bodyL M Tryd.prog hints C LP F.internal_strconv_formatBits 1 [(0, v0), (1, v1), (3, v3), (4, v4), (10, v10), (11, v11), (12, v12), (13, v13), (17, v17)] H (afterK [0, 1, 3, 4, 10, 11, 12, 13, 17] k) = s_internal_strconv_formatBits_b1 M.b.g M.c M.s Tryd.prog C (fun v0 v1 v3 v4 v10 v11 v12 v13 v14 v15 v16 H k => loopL M Tryd.prog hints C LP F.internal_strconv_formatBits 0 [(0, v0), (1, v1), (3, v3), (4, v4), (10, v10), (11, v11), (12, v12), (13, v13), (14, v14), (15, v15), (16, v16)] H k) (fun v0 v1 v3 v4 v10 v11 v12 v13 v17 H k => loopL M Tryd.prog hints C LP F.internal_strconv_formatBits 1 [(0, v0), (1, v1), (3, v3), (4, v4), (10, v10), (11, v11), (12, v12), (13, v13), (17, v17)] H k) v0 v1 v3 v4 v10 v11 v12 v13 v17 H k := by kernel_rfl

/-! internal.strconv.ParseUint -/

noncomputable def s_internal_strconv_ParseUint (mg : GT) (mc : CT) (ms : ST) (P : Program) (C : CallF) (L0 : Value → Value → Value → Value → Value → Value → Value → Value → Value → Value → AHeap → K → Res) (a0 : Value) (a1 : Value) (a2 : Value) (H : AHeap) (K0 : K) : Res :=
bareK (xbin P .eql T.string (.tmp 18) (.const (.string (mk []))) a0 (.string (mk []))) H fun t19 h1 =>
mc t19 (fun k1 => k1 .ret [(6, (.int .u64 0)), (7, (.iface T.internal_strconv_Error (.int .i64 2)))] h1) (fun k1 =>
k1 .normal [(0, a0), (1, a1), (2, a2)] h1) (seqK (fun tT h2 =>
bareK (xbin P .eql T.int (.tmp 21) (.const (.int .i64 0)) (get tT 1) (.int .i64 0)) h2 fun t22 h3 =>
ms (fun k2 =>
bareK (xbin P .leq T.int (.const (.int .i64 2)) (.tmp 26) (.int .i64 2) (get tT 1)) h3 fun t27 h4 =>
mg t27 true (fun o3 => o3 (get tT 1) h4) h4 fun t29 h5 =>
mg t27 true (fun o4 => bareK (xbin P .leq T.int (.tmp 29) (.const (.int .i64 36)) t29 (.int .i64 36)) h5 o4) h5 fun t30 h6 =>
pickK t27 t30 (.bool false) fun t31 =>
mc t31 (fun k5 => k5 .normal [(0, (get tT 0)), (1, (get tT 1)), (2, (get tT 2)), (8, t22), (9, (get tT 0))] h6) (fun k5 =>
bareK (xbin P .eql T.int (.tmp 33) (.const (.int .i64 0)) (get tT 1) (.int .i64 0)) h6 fun t34 h7 =>
mc t34 (fun k6 => bareK (xindex P T.string (get tT 0) (.int .i64 0)) h7 fun t36 h8 =>
bareK (xbin P .eql T.uint8 (.tmp 36) (.const (.int .u8 48)) t36 (.int .u8 48)) h8 fun t37 h9 =>
mc t37 (fun k7 => ms (fun k8 =>
bareK (lenT (get tT 0)) h9 fun t42 h10 =>
bareK (xbin P .geq T.int (.tmp 42) (.const (.int .i64 3)) t42 (.int .i64 3)) h10 fun t43 h11 =>
mg t43 true (fun o9 => o9 (get tT 0) h11) h11 fun t45 h12 =>
mg t43 true (fun o10 => bareK (xindex P T.string t45 (.int .i64 1)) h12 o10) h12 fun t46 h13 =>
mg t43 true (fun o11 => enterK C F.internal_strconv_lower [t46] h13 o11) h13 fun t47 h14 =>
mg t43 true (fun o12 => bareK (xbin P .eql T.uint8 (.tmp 47) (.const (.int .u8 98)) t47 (.int .u8 98)) h14 o12) h14 fun t48 h15 =>
pickK t43 t48 (.bool false) fun t49 =>
mc t49 (fun k13 => bareK (slT (get tT 0) (some (.int .i64 2)) none) h15 fun t51 h16 =>
k13 .normal [(0, t51), (1, (.int .i64 2)), (2, (get tT 2)), (8, t22), (9, (get tT 0))] h16) (fun k13 =>
bareK (lenT (get tT 0)) h15 fun t54 h17 =>
bareK (xbin P .geq T.int (.tmp 54) (.const (.int .i64 3)) t54 (.int .i64 3)) h17 fun t55 h18 =>
mg t55 true (fun o14 => o14 (get tT 0) h18) h18 fun t57 h19 =>
mg t55 true (fun o15 => bareK (xindex P T.string t57 (.int .i64 1)) h19 o15) h19 fun t58 h20 =>
mg t55 true (fun o16 => enterK C F.internal_strconv_lower [t58] h20 o16) h20 fun t59 h21 =>
mg t55 true (fun o17 => bareK (xbin P .eql T.uint8 (.tmp 59) (.const (.int .u8 111)) t59 (.int .u8 111)) h21 o17) h21 fun t60 h22 =>
pickK t55 t60 (.bool false) fun t61 =>
mc t61 (fun k18 => bareK (slT (get tT 0) (some (.int .i64 2)) none) h22 fun t63 h23 =>
k18 .normal [(0, t63), (1, (.int .i64 8)), (2, (get tT 2)), (8, t22), (9, (get tT 0))] h23) (fun k18 =>
bareK (lenT (get tT 0)) h22 fun t66 h24 =>
bareK (xbin P .geq T.int (.tmp 66) (.const (.int .i64 3)) t66 (.int .i64 3)) h24 fun t67 h25 =>
mg t67 true (fun o19 => o19 (get tT 0) h25) h25 fun t69 h26 =>
mg t67 true (fun o20 => bareK (xindex P T.string t69 (.int .i64 1)) h26 o20) h26 fun t70 h27 =>
mg t67 true (fun o21 => enterK C F.internal_strconv_lower [t70] h27 o21) h27 fun t71 h28 =>
mg t67 true (fun o22 => bareK (xbin P .eql T.uint8 (.tmp 71) (.const (.int .u8 120)) t71 (.int .u8 120)) h28 o22) h28 fun t72 h29 =>
pickK t67 t72 (.bool false) fun t73 =>
mc t73 (fun k23 => bareK (slT (get tT 0) (some (.int .i64 2)) none) h29 fun t75 h30 =>
k23 .normal [(0, t75), (1, (.int .i64 16)), (2, (get tT 2)), (8, t22), (9, (get tT 0))] h30) (fun k23 =>
bareK (slT (get tT 0) (some (.int .i64 1)) none) h29 fun t39 h31 =>
k23 .normal [(0, t39), (1, (.int .i64 8)), (2, (get tT 2)), (8, t22), (9, (get tT 0))] h31) (afterK [0, 1, 2, 8, 9] k18)) (afterK [0, 1, 2, 8, 9] k13)) (blkK [0, 1, 2, 8, 9] 1 k8)) (afterK [0, 1, 2, 8, 9] k7)) (fun k7 =>
k7 .normal [(0, (get tT 0)), (1, (.int .i64 10)), (2, (get tT 2)), (8, t22), (9, (get tT 0))] h9) (afterK [0, 1, 2, 8, 9] k6)) (fun k6 =>
k6 .ret [(6, (.int .u64 0)), (7, (.iface T.internal_strconv_Error (.int .i64 3)))] h7) (afterK [0, 1, 2, 8, 9] k5)) (blkK [0, 1, 2, 8, 9] 0 k2)) (seqK (fun tT_1 h32 =>
bareK (xbin P .eql T.int (.tmp 76) (.const (.int .i64 0)) (get tT_1 2) (.int .i64 0)) h32 fun t77 h33 =>
mc t77 (fun k24 => k24 .normal [(0, (get tT_1 0)), (1, (get tT_1 1)), (2, (.int .i64 64)), (8, (get tT_1 8)), (9, (get tT_1 9))] h33) (fun k24 =>
bareK (xbin P .lss T.int (.tmp 78) (.const (.int .i64 0)) (get tT_1 2) (.int .i64 0)) h33 fun t79 h34 =>
mg t79 false (fun o25 => o25 (get tT_1 2) h34) h34 fun t81 h35 =>
mg t79 false (fun o26 => bareK (xbin P .gtr T.int (.tmp 81) (.const (.int .i64 64)) t81 (.int .i64 64)) h35 o26) h35 fun t82 h36 =>
pickK t79 (.bool true) t82 fun t83 =>
mc t83 (fun k27 => k27 .ret [(6, (.int .u64 0)), (7, (.iface T.internal_strconv_Error (.int .i64 4)))] h36) (fun k27 =>
k27 .normal [(0, (get tT_1 0)), (1, (get tT_1 1)), (2, (get tT_1 2)), (8, (get tT_1 8)), (9, (get tT_1 9))] h36) (afterK [0, 1, 2, 8, 9] k24)) (seqK (fun tT_2 h37 =>
ms (fun k28 =>
bareK (xbin P .eql T.int (.tmp 85) (.const (.int .i64 10)) (get tT_2 1) (.int .i64 10)) h37 fun t91 h38 =>
mc t91 (fun k29 => k29 .normal [(0, (get tT_2 0)), (1, (get tT_2 1)), (2, (get tT_2 2)), (8, (get tT_2 8)), (9, (get tT_2 9)), (10, (.int .u64 1844674407370955162))] h38) (fun k29 =>
bareK (xbin P .eql T.int (.tmp 85) (.const (.int .i64 16)) (get tT_2 1) (.int .i64 16)) h38 fun t93 h39 =>
mc t93 (fun k30 => k30 .normal [(0, (get tT_2 0)), (1, (get tT_2 1)), (2, (get tT_2 2)), (8, (get tT_2 8)), (9, (get tT_2 9)), (10, (.int .u64 1152921504606846976))] h39) (fun k30 =>
bothK (xconv P T.int T.uint64 (get tT_2 1) h39) fun t87 h40 =>
bareK (xbin P .quo T.uint64 (.const (.int .u64 18446744073709551615)) (.tmp 87) (.int .u64 18446744073709551615) t87) h40 fun t88 h41 =>
bareK (xbin P .add T.uint64 (.tmp 88) (.const (.int .u64 1)) t88 (.int .u64 1)) h41 fun t89 h42 =>
k30 .normal [(0, (get tT_2 0)), (1, (get tT_2 1)), (2, (get tT_2 2)), (8, (get tT_2 8)), (9, (get tT_2 9)), (10, t89)] h42) (afterK [0, 1, 2, 8, 9, 10] k29)) (blkK [0, 1, 2, 8, 9, 10] 2 k28)) (seqK (fun tT_3 h43 =>
bothK (xconv P T.int T.uint (get tT_3 2) h43) fun t95 h44 =>
bareK (xbin P .shl T.uint64 (.const (.int .u64 1)) (.tmp 95) (.int .u64 1) t95) h44 fun t96 h45 =>
bareK (xbin P .sub T.uint64 (.tmp 96) (.const (.int .u64 1)) t96 (.int .u64 1)) h45 fun t97 h46 =>
bothK (xconv P T.string T.sl_uint8 (get tT_3 0) h46) fun t99 h47 =>
bareK (lenS t99) h47 fun t100 h48 =>
ms (fun k31 =>
L0 (get tT_3 1) (get tT_3 8) (get tT_3 9) (get tT_3 10) t97 (.bool false) (.int .u64 0) t99 t100 (.int .i64 0) h48 (blkK [9, 12, 13] 3 k31)) (seqK (fun tT_4 h49 =>
mg (get tT_4 12) true (fun o32 => o32 (get tT_4 9) h49) h49 fun t166 h50 =>
mg (get tT_4 12) true (fun o33 => enterK C F.internal_strconv_underscoreOK [t166] h50 o33) h50 fun t167 h51 =>
mg (get tT_4 12) true (fun o34 => bareK (xun P .not t167) h51 o34) h51 fun t168 h52 =>
pickK (get tT_4 12) t168 (.bool false) fun t169 =>
mc t169 (fun k35 => k35 .ret [(6, (.int .u64 0)), (7, (.iface T.internal_strconv_Error (.int .i64 2)))] h52) (fun k35 =>
k35 .normal [(13, (get tT_4 13))] h52) (seqK (fun tT_5 h53 =>
K0 .ret [(6, (get tT_5 13)), (7, .nilIface)] h53) K0)) K0)) K0)) K0)) K0)) K0)

noncomputable def s_internal_strconv_ParseUint_b0 (mg : GT) (mc : CT) (ms : ST) (P : Program) (C : CallF) (L0 : Value → Value → Value → Value → Value → Value → Value → Value → Value → Value → AHeap → K → Res) (v1 : Value) (v8 : Value) (v9 : Value) (v10 : Value) (v11 : Value) (v12 : Value) (v13 : Value) (v99 : Value) (v100 : Value) (v101 : Value) (H : AHeap) (k : K) : Res :=
bareK (xbin P .lss T.int (.tmp 101) (.tmp 100) v101 v100) H fun t102 h49 =>
mc t102 (fun k32 => k32 .normal [(1, v1), (8, v8), (9, v9), (10, v10), (11, v11), (12, v12), (13, v13), (99, v99), (100, v100), (101, v101)] h49) (fun k32 =>
k32 (.exit 3) [(102, t102), (1, v1), (8, v8), (9, v9), (10, v10), (11, v11), (12, v12), (13, v13), (99, v99), (100, v100), (101, v101)] h49) (seqK (fun tT h50 =>
ms (fun k33 =>
bareK (ixS 1 (get tT 99) (get tT 101)) h50 fun t103 h51 =>
bareK (ld1 h51 t103) h51 fun t104 h52 =>
ms (fun k34 =>
bareK (xbin P .eql T.uint8 (.tmp 107) (.const (.int .u8 95)) t104 (.int .u8 95)) h52 fun t108 h53 =>
mg t108 true (fun o35 => o35 (get tT 8) h53) h53 fun t110 h54 =>
pickK t108 t110 (.bool false) fun t111 =>
mc t111 (fun k36 => k36 (.exit 4) ((12, (.bool true)) :: (106, t111) :: (111, t111) :: (110, t110) :: (109, t108) :: (108, t108) :: (107, t104) :: (16, (.int .u8 0)) :: (15, t104) :: (104, t104) :: (103, t103) :: tT) h54) (fun k36 =>
bareK (xbin P .leq T.uint8 (.const (.int .u8 48)) (.tmp 113) (.int .u8 48) t104) h54 fun t114 h55 =>
mg t114 true (fun o37 => o37 t104 h55) h55 fun t116 h56 =>
mg t114 true (fun o38 => bareK (xbin P .leq T.uint8 (.tmp 116) (.const (.int .u8 57)) t116 (.int .u8 57)) h56 o38) h56 fun t117 h57 =>
pickK t114 t117 (.bool false) fun t118 =>
mc t118 (fun k39 => bareK (xbin P .sub T.uint8 (.tmp 119) (.const (.int .u8 48)) t104 (.int .u8 48)) h57 fun t120 h58 =>
k39 .normal [(1, (get tT 1)), (8, (get tT 8)), (9, (get tT 9)), (10, (get tT 10)), (11, (get tT 11)), (12, (get tT 12)), (13, (get tT 13)), (16, t120), (99, (get tT 99)), (100, (get tT 100)), (101, (get tT 101))] h58) (fun k39 =>
enterK C F.internal_strconv_lower [t104] h57 fun t123 h59 =>
bareK (xbin P .leq T.uint8 (.const (.int .u8 97)) (.tmp 123) (.int .u8 97) t123) h59 fun t124 h60 =>
mg t124 true (fun o40 => o40 t104 h60) h60 fun t126 h61 =>
mg t124 true (fun o41 => enterK C F.internal_strconv_lower [t126] h61 o41) h61 fun t127 h62 =>
mg t124 true (fun o42 => bareK (xbin P .leq T.uint8 (.tmp 127) (.const (.int .u8 122)) t127 (.int .u8 122)) h62 o42) h62 fun t128 h63 =>
pickK t124 t128 (.bool false) fun t129 =>
mc t129 (fun k43 => enterK C F.internal_strconv_lower [t104] h63 fun t131 h64 =>
bareK (xbin P .sub T.uint8 (.tmp 131) (.const (.int .u8 97)) t131 (.int .u8 97)) h64 fun t132 h65 =>
bareK (xbin P .add T.uint8 (.tmp 132) (.const (.int .u8 10)) t132 (.int .u8 10)) h65 fun t133 h66 =>
k43 .normal [(1, (get tT 1)), (8, (get tT 8)), (9, (get tT 9)), (10, (get tT 10)), (11, (get tT 11)), (12, (get tT 12)), (13, (get tT 13)), (16, t133), (99, (get tT 99)), (100, (get tT 100)), (101, (get tT 101))] h66) (fun k43 =>
k43 .ret [(6, (.int .u64 0)), (7, (.iface T.internal_strconv_Error (.int .i64 2)))] h63) (afterK [1, 8, 9, 10, 11, 12, 13, 16, 99, 100, 101] k39)) (afterK [1, 8, 9, 10, 11, 12, 13, 16, 99, 100, 101] k36)) (blkK [1, 8, 9, 10, 11, 12, 13, 16, 99, 100, 101] 5 k34)) (seqK (fun tT_1 h67 =>
bothK (xconv P T.int T.uint8 (get tT_1 1) h67) fun t136 h68 =>
bareK (xbin P .geq T.uint8 (.tmp 134) (.tmp 136) (get tT_1 16) t136) h68 fun t137 h69 =>
mc t137 (fun k44 => k44 .ret [(6, (.int .u64 0)), (7, (.iface T.internal_strconv_Error (.int .i64 2)))] h69) (fun k44 =>
k44 .normal [(1, (get tT_1 1)), (8, (get tT_1 8)), (9, (get tT_1 9)), (10, (get tT_1 10)), (11, (get tT_1 11)), (12, (get tT_1 12)), (13, (get tT_1 13)), (16, (get tT_1 16)), (99, (get tT_1 99)), (100, (get tT_1 100)), (101, (get tT_1 101))] h69) (seqK (fun tT_2 h70 =>
bareK (xbin P .geq T.uint64 (.tmp 139) (.tmp 140) (get tT_2 13) (get tT_2 10)) h70 fun t141 h71 =>
mc t141 (fun k45 => k45 .ret [(6, (get tT_2 11)), (7, (.iface T.internal_strconv_Error (.int .i64 1)))] h71) (fun k45 =>
k45 .normal [(1, (get tT_2 1)), (8, (get tT_2 8)), (9, (get tT_2 9)), (10, (get tT_2 10)), (11, (get tT_2 11)), (12, (get tT_2 12)), (13, (get tT_2 13)), (16, (get tT_2 16)), (99, (get tT_2 99)), (100, (get tT_2 100)), (101, (get tT_2 101))] h71) (seqK (fun tT_3 h72 =>
bothK (xconv P T.int T.uint64 (get tT_3 1) h72) fun t146 h73 =>
bareK (xbin P .mul T.uint64 (.tmp 144) (.tmp 146) (get tT_3 13) t146) h73 fun t147 h74 =>
bothK (xconv P T.uint8 T.uint64 (get tT_3 16) h74) fun t150 h75 =>
bareK (xbin P .add T.uint64 (.tmp 148) (.tmp 150) t147 t150) h75 fun t151 h76 =>
bareK (xbin P .lss T.uint64 (.tmp 152) (.tmp 153) t151 t147) h76 fun t154 h77 =>
mg t154 false (fun o46 => o46 t151 h77) h77 fun t156 h78 =>
mg t154 false (fun o47 => o47 (get tT_3 11) h78) h78 fun t157 h79 =>
mg t154 false (fun o48 => bareK (xbin P .gtr T.uint64 (.tmp 156) (.tmp 157) t156 t157) h79 o48) h79 fun t158 h80 =>
pickK t154 (.bool true) t158 fun t159 =>
mc t159 (fun k49 => k49 .ret [(6, (get tT_3 11)), (7, (.iface T.internal_strconv_Error (.int .i64 1)))] h80) (fun k49 =>
k49 .normal [(1, (get tT_3 1)), (8, (get tT_3 8)), (9, (get tT_3 9)), (10, (get tT_3 10)), (11, (get tT_3 11)), (12, (get tT_3 12)), (17, t151), (99, (get tT_3 99)), (100, (get tT_3 100)), (101, (get tT_3 101))] h80) (seqK (fun tT_4 h81 =>
k33 .normal [(1, (get tT_4 1)), (8, (get tT_4 8)), (9, (get tT_4 9)), (10, (get tT_4 10)), (11, (get tT_4 11)), (12, (get tT_4 12)), (13, (get tT_4 17)), (99, (get tT_4 99)), (100, (get tT_4 100)), (101, (get tT_4 101))] h81) (blkK [1, 8, 9, 10, 11, 12, 13, 99, 100, 101] 4 k33))) (blkK [1, 8, 9, 10, 11, 12, 13, 99, 100, 101] 4 k33))) (blkK [1, 8, 9, 10, 11, 12, 13, 99, 100, 101] 4 k33))) (blkK [1, 8, 9, 10, 11, 12, 13, 99, 100, 101] 4 k33))) (seqK (fun tT_5 h82 =>
bareK (xbin P .add T.int (.tmp 101) (.const (.int .i64 1)) (get tT_5 101) (.int .i64 1)) h82 fun t163 h83 =>
k .normal [(1, (get tT_5 1)), (8, (get tT_5 8)), (9, (get tT_5 9)), (10, (get tT_5 10)), (11, (get tT_5 11)), (12, (get tT_5 12)), (13, (get tT_5 13)), (99, (get tT_5 99)), (100, (get tT_5 100)), (101, t163)] h83) (afterK [1, 8, 9, 10, 11, 12, 13, 99, 100, 101] k))) (afterK [1, 8, 9, 10, 11, 12, 13, 99, 100, 101] k))

theorem s_internal_strconv_ParseUint_eq (M : CombL) (C : CallF) (LP : LoopH) (a0 : Value) (a1 : Value) (a2 : Value) (H : AHeap) : dBodyL M Tryd.prog hints C LP F.internal_strconv_ParseUint [a0, a1, a2] H = s_internal_strconv_ParseUint M.b.g M.c M.s Tryd.prog C (fun v1 v8 v9 v10 v11 v12 v13 v99 v100 v101 H k => loopL M Tryd.prog hints C LP F.internal_strconv_ParseUint 0 [(1, v1), (8, v8), (9, v9), (10, v10), (11, v11), (12, v12), (13, v13), (99, v99), (100, v100), (101, v101)] H k) a0 a1 a2 H (endK Tryd.prog [.tmp 6, .tmp 7]) := by kernel_rfl

theorem s_internal_strconv_ParseUint_b0_eq (M : CombL) (C : CallF) (LP : LoopH) (v1 : Value) (v8 : Value) (v9 : Value) (v10 : Value) (v11 : Value) (v12 : Value) (v13 : Value) (v99 : Value) (v100 : Value) (v101 : Value) (H : AHeap) (k : K) : bodyL M Tryd.prog hints C LP F.internal_strconv_ParseUint 0 [(1, v1), (8, v8), (9, v9), (10, v10), (11, v11), (12, v12), (13, v13), (99, v99), (100, v100), (101, v101)] H (afterK [1, 8, 9, 10, 11, 12, 13, 99, 100, 101] k) = s_internal_strconv_ParseUint_b0 M.b.g M.c M.s Tryd.prog C (fun v1 v8 v9 v10 v11 v12 v13 v99 v100 v101 H k => loopL M Tryd.prog hints C LP F.internal_strconv_ParseUint 0 [(1, v1), (8, v8), (9, v9), (10, v10), (11, v11), (12, v12), (13, v13), (99, v99), (100, v100), (101, v101)] H k) v1 v8 v9 v10 v11 v12 v13 v99 v100 v101 H k := by kernel_rfl

/-! internal.stringslite.Clone -/

noncomputable def s_internal_stringslite_Clone (mg : GT) (mc : CT) (ms : ST) (P : Program) (C : CallF) (a0 : Value) (H : AHeap) (K0 : K) : Res :=
bareK (lenT a0) H fun t5 h1 =>
bareK (xbin P .eql T.int (.tmp 5) (.const (.int .i64 0)) t5 (.int .i64 0)) h1 fun t6 h2 =>
mc t6 (fun k1 => k1 .ret [(2, (.string (mk [])))] h2) (fun k1 =>
k1 .normal [(0, a0)] h2) (seqK (fun tT h3 =>
bareK (lenT (get tT 0)) h3 fun t8 h4 =>
bothK (mkS T.uint8 [(.int .u8 0)] 1 t8 t8 h4) fun t9 h5 =>
bothK (cpy 1 t9 (get tT 0) h5) fun t12 h6 =>
bareK (ixS 1 t9 (.int .i64 0)) h6 fun t14 h7 =>
bareK (lenS t9) h7 fun t16 h8 =>
nextK C h8 (xbuiltin P .unsafeString [T.p_uint8, T.int] [t14, t16] h8) fun t17 h9 =>
K0 .ret [(2, t17)] h9) K0)

theorem s_internal_stringslite_Clone_eq (M : CombL) (C : CallF) (LP : LoopH) (a0 : Value) (H : AHeap) : dBodyL M Tryd.prog hints C LP F.internal_stringslite_Clone [a0] H = s_internal_stringslite_Clone M.b.g M.c M.s Tryd.prog C a0 H (endK Tryd.prog [.tmp 2]) := by kernel_rfl

/-! errors.New -/

noncomputable def s_errors_New (mg : GT) (mc : CT) (ms : ST) (P : Program) (C : CallF) (a0 : Value) (H : AHeap) (K0 : K) : Res :=
bareK (bldS #[(.string (mk []))] [(0, 1)] [(0, a0)]) H fun t4 h1 =>
bothK (newv T.errors_errorString t4 h1) fun t5 h2 =>
K0 .ret [(2, (.iface T.p_errors_errorString t5))] h2

theorem s_errors_New_eq (M : CombL) (C : CallF) (LP : LoopH) (a0 : Value) (H : AHeap) : dBodyL M Tryd.prog hints C LP F.errors_New [a0] H = s_errors_New M.b.g M.c M.s Tryd.prog C a0 H (endK Tryd.prog [.tmp 2]) := by kernel_rfl

/-! internal.bytealg.CompareString -/

noncomputable def s_internal_bytealg_CompareString (mg : GT) (mc : CT) (ms : ST) (P : Program) (C : CallF) (a0 : Value) (a1 : Value) (H : AHeap) (K0 : K) : Res :=
bareK (xext P Tryd.f102 [a0, a1] H) H fun t7 h1 =>
K0 .ret [(4, t7)] h1

theorem s_internal_bytealg_CompareString_eq (M : CombL) (C : CallF) (LP : LoopH) (a0 : Value) (a1 : Value) (H : AHeap) : dBodyL M Tryd.prog hints C LP F.internal_bytealg_CompareString [a0, a1] H = s_internal_bytealg_CompareString M.b.g M.c M.s Tryd.prog C a0 a1 H (endK Tryd.prog [.tmp 4]) := by kernel_rfl

/-! slices.Reverse[[]ticketline.api.Pair,ticketline.api.Pair] -/

noncomputable def s_slices_Reverse_Pair (mg : GT) (mc : CT) (ms : ST) (P : Program) (C : CallF) (L0 : Value → Value → Value → AHeap → K → Res) (a0 : Value) (H : AHeap) (K0 : K) : Res :=
bareK (lenS a0) H fun t5 h1 =>
bareK (xbin P .sub T.int (.tmp 5) (.const (.int .i64 1)) t5 (.int .i64 1)) h1 fun t6 h2 =>
ms (fun k1 =>
L0 a0 (.int .i64 0) t6 h2 (blkK [] 0 k1)) K0

noncomputable def s_slices_Reverse_Pair_b0 (mg : GT) (mc : CT) (ms : ST) (P : Program) (C : CallF) (L0 : Value → Value → Value → AHeap → K → Res) (v0 : Value) (v2 : Value) (v3 : Value) (H : AHeap) (k : K) : Res :=
bareK (xbin P .lss T.int (.tmp 7) (.tmp 8) v2 v3) H fun t9 h3 =>
mc t9 (fun k2 => k2 .normal [(0, v0), (2, v2), (3, v3)] h3) (fun k2 =>
k2 (.exit 0) [(9, t9), (8, v3), (7, v2), (0, v0), (2, v2), (3, v3)] h3) (seqK (fun tT h4 =>
ms (fun k3 =>
bareK (ixS 2 (get tT 0) (get tT 3)) h4 fun t20 h5 =>
bareK (ldN 2 h5 t20) h5 fun t21 h6 =>
bareK (ixS 2 (get tT 0) (get tT 2)) h6 fun t24 h7 =>
bareK (ldN 2 h7 t24) h7 fun t25 h8 =>
bareK (ixS 2 (get tT 0) (get tT 2)) h8 fun t26 h9 =>
quietK (stN 2 h9 t26 t21) fun _ h10 =>
bareK (ixS 2 (get tT 0) (get tT 3)) h10 fun t27 h11 =>
quietK (stN 2 h11 t27 t25) fun _ h12 =>
checkK (okV (some true) none h9 h10 h4 h4 && (okV (some true) none h9 h10 h4 h4 && true)) <|
k3 .normal [(0, (get tT 0)), (2, (get tT 2)), (3, (get tT 3))] h12) (seqK (fun tT_1 h13 =>
bareK (xbin P .add T.int (.tmp 10) (.const (.int .i64 1)) (get tT_1 2) (.int .i64 1)) h13 fun t11 h14 =>
bareK (xbin P .sub T.int (.tmp 12) (.const (.int .i64 1)) (get tT_1 3) (.int .i64 1)) h14 fun t13 h15 =>
k .normal [(0, (get tT_1 0)), (2, t11), (3, t13)] h15) (afterK [0, 2, 3] k))) (afterK [0, 2, 3] k))

theorem s_slices_Reverse_Pair_eq (M : CombL) (C : CallF) (LP : LoopH) (a0 : Value) (H : AHeap) : dBodyL M Tryd.prog hints C LP F.slices_Reverse_Pair [a0] H = s_slices_Reverse_Pair M.b.g M.c M.s Tryd.prog C (fun v0 v2 v3 H k => loopL M Tryd.prog hints C LP F.slices_Reverse_Pair 0 [(0, v0), (2, v2), (3, v3)] H k) a0 H (endK Tryd.prog []) := by kernel_rfl

theorem s_slices_Reverse_Pair_b0_eq (M : CombL) (C : CallF) (LP : LoopH) (v0 : Value) (v2 : Value) (v3 : Value) (H : AHeap) (k : K) : bodyL M Tryd.prog hints C LP F.slices_Reverse_Pair 0 [(0, v0), (2, v2), (3, v3)] H (afterK [0, 2, 3] k) = s_slices_Reverse_Pair_b0 M.b.g M.c M.s Tryd.prog C (fun v0 v2 v3 H k => loopL M Tryd.prog hints C LP F.slices_Reverse_Pair 0 [(0, v0), (2, v2), (3, v3)] H k) v0 v2 v3 H k := by kernel_rfl

/-! slices.siftDownOrdered[string] -/

noncomputable def s_slices_siftDownOrdered_string (mg : GT) (mc : CT) (ms : ST) (P : Program) (C : CallF) (L0 : Value → Value → Value → Value → AHeap → K → Res) (a0 : Value) (a1 : Value) (a2 : Value) (a3 : Value) (H : AHeap) (K0 : K) : Res :=
ms (fun k1 =>
L0 a0 a2 a3 a1 H (blkK [] 0 k1)) K0

noncomputable def s_slices_siftDownOrdered_string_b0 (mg : GT) (mc : CT) (ms : ST) (P : Program) (C : CallF) (L0 : Value → Value → Value → Value → AHeap → K → Res) (v0 : Value) (v2 : Value) (v3 : Value) (v8 : Value) (H : AHeap) (k : K) : Res :=
ms (fun k2 =>
bareK (xbin P .mul T.int (.const (.int .i64 2)) (.tmp 11) (.int .i64 2) v8) H fun t12 h1 =>
bareK (xbin P .add T.int (.tmp 12) (.const (.int .i64 1)) t12 (.int .i64 1)) h1 fun t13 h2 =>
bareK (xbin P .geq T.int (.tmp 14) (.tmp 15) t13 v2) h2 fun t16 h3 =>
mc t16 (fun k3 => k3 (.exit 0) [(16, t16), (15, v2), (14, t13), (9, t13), (13, t13), (12, t12), (11, v8), (0, v0), (2, v2), (3, v3), (8, v8)] h3) (fun k3 =>
k3 .normal [(0, v0), (2, v2), (3, v3), (8, v8), (9, t13)] h3) (seqK (fun tT h4 =>
bareK (xbin P .add T.int (.tmp 17) (.const (.int .i64 1)) (get tT 9) (.int .i64 1)) h4 fun t18 h5 =>
bareK (xbin P .lss T.int (.tmp 18) (.tmp 19) t18 (get tT 2)) h5 fun t20 h6 =>
mg t20 true (fun o4 => o4 (get tT 0) h6) h6 fun t22 h7 =>
mg t20 true (fun o5 => o5 (get tT 3) h7) h7 fun t23 h8 =>
mg t20 true (fun o6 => o6 (get tT 9) h8) h8 fun t24 h9 =>
mg t20 true (fun o7 => bareK (xbin P .add T.int (.tmp 23) (.tmp 24) t23 t24) h9 o7) h9 fun t25 h10 =>
mg t20 true (fun o8 => bareK (ixS 1 t22 t25) h10 o8) h10 fun t26 h11 =>
mg t20 true (fun o9 => bareK (ld1 h11 t26) h11 o9) h11 fun t27 h12 =>
mg t20 true (fun o10 => o10 (get tT 0) h12) h12 fun t28 h13 =>
mg t20 true (fun o11 => o11 (get tT 3) h13) h13 fun t29 h14 =>
mg t20 true (fun o12 => o12 (get tT 9) h14) h14 fun t30 h15 =>
mg t20 true (fun o13 => bareK (xbin P .add T.int (.tmp 29) (.tmp 30) t29 t30) h15 o13) h15 fun t31 h16 =>
mg t20 true (fun o14 => bareK (xbin P .add T.int (.tmp 31) (.const (.int .i64 1)) t31 (.int .i64 1)) h16 o14) h16 fun t32 h17 =>
mg t20 true (fun o15 => bareK (ixS 1 t28 t32) h17 o15) h17 fun t33 h18 =>
mg t20 true (fun o16 => bareK (ld1 h18 t33) h18 o16) h18 fun t34 h19 =>
mg t20 true (fun o17 => enterK C F.cmp_Less_string [t27, t34] h19 o17) h19 fun t35 h20 =>
pickK t20 t35 (.bool false) fun t36 =>
checkK true <|
mc t36 (fun k18 => bareK (xbin P .add T.int (.tmp 37) (.const (.int .i64 1)) (get tT 9) (.int .i64 1)) h20 fun t38 h21 =>
k18 .normal [(0, (get tT 0)), (2, (get tT 2)), (3, (get tT 3)), (8, (get tT 8)), (9, t38)] h21) (fun k18 =>
k18 .normal [(0, (get tT 0)), (2, (get tT 2)), (3, (get tT 3)), (8, (get tT 8)), (9, (get tT 9))] h20) (seqK (fun tT_1 h22 =>
bareK (xbin P .add T.int (.tmp 40) (.tmp 41) (get tT_1 3) (get tT_1 8)) h22 fun t42 h23 =>
bareK (ixS 1 (get tT_1 0) t42) h23 fun t43 h24 =>
bareK (ld1 h24 t43) h24 fun t44 h25 =>
bareK (xbin P .add T.int (.tmp 46) (.tmp 47) (get tT_1 3) (get tT_1 9)) h25 fun t48 h26 =>
bareK (ixS 1 (get tT_1 0) t48) h26 fun t49 h27 =>
bareK (ld1 h27 t49) h27 fun t50 h28 =>
enterK C F.cmp_Less_string [t44, t50] h28 fun t51 h29 =>
bareK (xun P .not t51) h29 fun t52 h30 =>
checkK true <|
mc t52 (fun k19 => k19 .ret [] h30) (fun k19 =>
k19 .normal [(0, (get tT_1 0)), (2, (get tT_1 2)), (3, (get tT_1 3)), (8, (get tT_1 8)), (9, (get tT_1 9))] h30) (seqK (fun tT_2 h31 =>
bareK (xbin P .add T.int (.tmp 54) (.tmp 55) (get tT_2 3) (get tT_2 8)) h31 fun t56 h32 =>
bareK (xbin P .add T.int (.tmp 58) (.tmp 59) (get tT_2 3) (get tT_2 9)) h32 fun t60 h33 =>
bareK (xbin P .add T.int (.tmp 62) (.tmp 63) (get tT_2 3) (get tT_2 9)) h33 fun t64 h34 =>
bareK (ixS 1 (get tT_2 0) t64) h34 fun t65 h35 =>
bareK (ld1 h35 t65) h35 fun t66 h36 =>
bareK (xbin P .add T.int (.tmp 68) (.tmp 69) (get tT_2 3) (get tT_2 8)) h36 fun t70 h37 =>
bareK (ixS 1 (get tT_2 0) t70) h37 fun t71 h38 =>
bareK (ld1 h38 t71) h38 fun t72 h39 =>
bareK (ixS 1 (get tT_2 0) t56) h39 fun t73 h40 =>
quietK (st1 h40 t73 t66) fun _ h41 =>
bareK (ixS 1 (get tT_2 0) t60) h41 fun t74 h42 =>
quietK (st1 h42 t74 t72) fun _ h43 =>
checkK (okV (some true) none h40 h41 h32 h32 && (okV (some true) none h40 h41 h32 h32 && (okV (some true) none h40 h41 h32 h32 && (okV (some true) none h40 h41 h32 h33 && true)))) <|
k2 .normal [(0, (get tT_2 0)), (2, (get tT_2 2)), (3, (get tT_2 3)), (8, (get tT_2 9))] h43) (blkK [0, 2, 3, 8] 1 k2))) (blkK [0, 2, 3, 8] 1 k2))) (blkK [0, 2, 3, 8] 1 k2))) (afterK [0, 2, 3, 8] k)

theorem s_slices_siftDownOrdered_string_eq (M : CombL) (C : CallF) (LP : LoopH) (a0 : Value) (a1 : Value) (a2 : Value) (a3 : Value) (H : AHeap) : dBodyL M Tryd.prog hints C LP F.slices_siftDownOrdered_string [a0, a1, a2, a3] H = s_slices_siftDownOrdered_string M.b.g M.c M.s Tryd.prog C (fun v0 v2 v3 v8 H k => loopL M Tryd.prog hints C LP F.slices_siftDownOrdered_string 0 [(0, v0), (2, v2), (3, v3), (8, v8)] H k) a0 a1 a2 a3 H (endK Tryd.prog []) := by kernel_rfl

theorem s_slices_siftDownOrdered_string_b0_eq (M : CombL) (C : CallF) (LP : LoopH) (v0 : Value) (v2 : Value) (v3 : Value) (v8 : Value) (H : AHeap) (k : K) : bodyL M Tryd.prog hints C LP F.slices_siftDownOrdered_string 0 [(0, v0), (2, v2), (3, v3), (8, v8)] H (afterK [0, 2, 3, 8] k) = s_slices_siftDownOrdered_string_b0 M.b.g M.c M.s Tryd.prog C (fun v0 v2 v3 v8 H k => loopL M Tryd.prog hints C LP F.slices_siftDownOrdered_string 0 [(0, v0), (2, v2), (3, v3), (8, v8)] H k) v0 v2 v3 v8 H k := by kernel_rfl

/-! slices.nextPowerOfTwo -/

noncomputable def s_slices_nextPowerOfTwo (mg : GT) (mc : CT) (ms : ST) (P : Program) (C : CallF) (a0 : Value) (H : AHeap) (K0 : K) : Res :=
bothK (xconv P T.int T.uint a0 H) fun t4 h1 =>
enterK C F.math_bits_Len [t4] h1 fun t5 h2 =>
bareK (xbin P .shl T.uint (.const (.int .u64 1)) (.tmp 5) (.int .u64 1) t5) h2 fun t6 h3 =>
K0 .ret [(2, t6)] h3

theorem s_slices_nextPowerOfTwo_eq (M : CombL) (C : CallF) (LP : LoopH) (a0 : Value) (H : AHeap) : dBodyL M Tryd.prog hints C LP F.slices_nextPowerOfTwo [a0] H = s_slices_nextPowerOfTwo M.b.g M.c M.s Tryd.prog C a0 H (endK Tryd.prog [.tmp 2]) := by kernel_rfl

/-! (*slices.xorshift).Next -/

noncomputable def s_slices_xorshift_Next (mg : GT) (mc : CT) (ms : ST) (P : Program) (C : CallF) (a0 : Value) (H : AHeap) (K0 : K) : Res :=
bareK (xnilCheck a0) H fun t4 h1 =>
bareK (ld1 h1 t4) h1 fun t5 h2 =>
bareK (xnilCheck a0) h2 fun t7 h3 =>
bareK (ld1 h3 t7) h3 fun t8 h4 =>
bareK (xbin P .shl T.slices_xorshift (.tmp 8) (.const (.int .u64 13)) t8 (.int .u64 13)) h4 fun t9 h5 =>
bareK (xbin P .xor T.slices_xorshift (.tmp 5) (.tmp 9) t5 t9) h5 fun t10 h6 =>
bareK (xnilCheck a0) h6 fun t11 h7 =>
quietK (st1 h7 t11 t10) fun _ h8 =>
checkK true <|
bareK (xnilCheck a0) h8 fun t13 h9 =>
bareK (ld1 h9 t13) h9 fun t14 h10 =>
bareK (xnilCheck a0) h10 fun t16 h11 =>
bareK (ld1 h11 t16) h11 fun t17 h12 =>
bareK (xbin P .shr T.slices_xorshift (.tmp 17) (.const (.int .u64 7)) t17 (.int .u64 7)) h12 fun t18 h13 =>
bareK (xbin P .xor T.slices_xorshift (.tmp 14) (.tmp 18) t14 t18) h13 fun t19 h14 =>
bareK (xnilCheck a0) h14 fun t20 h15 =>
quietK (st1 h15 t20 t19) fun _ h16 =>
checkK true <|
bareK (xnilCheck a0) h16 fun t22 h17 =>
bareK (ld1 h17 t22) h17 fun t23 h18 =>
bareK (xnilCheck a0) h18 fun t25 h19 =>
bareK (ld1 h19 t25) h19 fun t26 h20 =>
bareK (xbin P .shl T.slices_xorshift (.tmp 26) (.const (.int .u64 17)) t26 (.int .u64 17)) h20 fun t27 h21 =>
bareK (xbin P .xor T.slices_xorshift (.tmp 23) (.tmp 27) t23 t27) h21 fun t28 h22 =>
bareK (xnilCheck a0) h22 fun t29 h23 =>
quietK (st1 h23 t29 t28) fun _ h24 =>
checkK true <|
bareK (xnilCheck a0) h24 fun t31 h25 =>
bareK (ld1 h25 t31) h25 fun t32 h26 =>
K0 .ret [(2, t32)] h26

theorem s_slices_xorshift_Next_eq (M : CombL) (C : CallF) (LP : LoopH) (a0 : Value) (H : AHeap) : dBodyL M Tryd.prog hints C LP F.slices_xorshift_Next [a0] H = s_slices_xorshift_Next M.b.g M.c M.s Tryd.prog C a0 H (endK Tryd.prog [.tmp 2]) := by kernel_rfl

/-! slices.medianAdjacentOrdered[string] -/

noncomputable def s_slices_medianAdjacentOrdered_string (mg : GT) (mc : CT) (ms : ST) (P : Program) (C : CallF) (a0 : Value) (a1 : Value) (a2 : Value) (H : AHeap) (K0 : K) : Res :=
bareK (xbin P .sub T.int (.tmp 8) (.const (.int .i64 1)) a1 (.int .i64 1)) H fun t9 h1 =>
bareK (xbin P .add T.int (.tmp 11) (.const (.int .i64 1)) a1 (.int .i64 1)) h1 fun t12 h2 =>
enterK C F.slices_medianOrdered_string [a0, t9, a1, t12, a2] h2 fun t14 h3 =>
K0 .ret [(6, t14)] h3

theorem s_slices_medianAdjacentOrdered_string_eq (M : CombL) (C : CallF) (LP : LoopH) (a0 : Value) (a1 : Value) (a2 : Value) (H : AHeap) : dBodyL M Tryd.prog hints C LP F.slices_medianAdjacentOrdered_string [a0, a1, a2] H = s_slices_medianAdjacentOrdered_string M.b.g M.c M.s Tryd.prog C a0 a1 a2 H (endK Tryd.prog [.tmp 6]) := by kernel_rfl

/-! slices.medianOrdered[string] -/

noncomputable def s_slices_medianOrdered_string (mg : GT) (mc : CT) (ms : ST) (P : Program) (C : CallF) (a0 : Value) (a1 : Value) (a2 : Value) (a3 : Value) (a4 : Value) (H : AHeap) (K0 : K) : Res :=
enterK C F.slices_order2Ordered_string [a0, a1, a2, a4] H fun t16 h1 =>
bareK (xextract t16 0) h1 fun t17 h2 =>
bareK (xextract t16 1) h2 fun t18 h3 =>
enterK C F.slices_order2Ordered_string [a0, t18, a3, a4] h3 fun t24 h4 =>
bareK (xextract t24 0) h4 fun t25 h5 =>
bareK (xextract t24 1) h5 fun t26 h6 =>
enterK C F.slices_order2Ordered_string [a0, t17, t25, a4] h6 fun t32 h7 =>
bareK (xextract t32 0) h7 fun t33 h8 =>
bareK (xextract t32 1) h8 fun t34 h9 =>
K0 .ret [(10, t34)] h9

theorem s_slices_medianOrdered_string_eq (M : CombL) (C : CallF) (LP : LoopH) (a0 : Value) (a1 : Value) (a2 : Value) (a3 : Value) (a4 : Value) (H : AHeap) : dBodyL M Tryd.prog hints C LP F.slices_medianOrdered_string [a0, a1, a2, a3, a4] H = s_slices_medianOrdered_string M.b.g M.c M.s Tryd.prog C a0 a1 a2 a3 a4 H (endK Tryd.prog [.tmp 10]) := by kernel_rfl

/-! cmp.isNaN[string] -/

noncomputable def s_cmp_isNaN_string (mg : GT) (mc : CT) (ms : ST) (P : Program) (C : CallF) (a0 : Value) (H : AHeap) (K0 : K) : Res :=
bareK (xbin P .neq T.string (.tmp 3) (.tmp 4) a0 a0) H fun t5 h1 =>
K0 .ret [(2, t5)] h1

theorem s_cmp_isNaN_string_eq (M : CombL) (C : CallF) (LP : LoopH) (a0 : Value) (H : AHeap) : dBodyL M Tryd.prog hints C LP F.cmp_isNaN_string [a0] H = s_cmp_isNaN_string M.b.g M.c M.s Tryd.prog C a0 H (endK Tryd.prog [.tmp 2]) := by kernel_rfl

/-! internal.strconv.log10Pow2 -/

noncomputable def s_internal_strconv_log10Pow2 (mg : GT) (mc : CT) (ms : ST) (P : Program) (C : CallF) (a0 : Value) (H : AHeap) (K0 : K) : Res :=
bareK (xbin P .mul T.int (.tmp 3) (.const (.int .i64 78913)) a0 (.int .i64 78913)) H fun t4 h1 =>
bareK (xbin P .shr T.int (.tmp 4) (.const (.int .u64 18)) t4 (.int .u64 18)) h1 fun t5 h2 =>
K0 .ret [(2, t5)] h2

theorem s_internal_strconv_log10Pow2_eq (M : CombL) (C : CallF) (LP : LoopH) (a0 : Value) (H : AHeap) : dBodyL M Tryd.prog hints C LP F.internal_strconv_log10Pow2 [a0] H = s_internal_strconv_log10Pow2 M.b.g M.c M.s Tryd.prog C a0 H (endK Tryd.prog [.tmp 2]) := by kernel_rfl

/-! internal.strconv.bool2[int] -/

noncomputable def s_internal_strconv_bool2_int (mg : GT) (mc : CT) (ms : ST) (P : Program) (C : CallF) (a0 : Value) (H : AHeap) (K0 : K) : Res :=
mc a0 (fun k1 => k1 .ret [(2, (.int .i64 1))] H) (fun k1 =>
k1 .normal [] H) (seqK (fun tT h1 =>
K0 .ret [(2, (.int .i64 0))] h1) K0)

theorem s_internal_strconv_bool2_int_eq (M : CombL) (C : CallF) (LP : LoopH) (a0 : Value) (H : AHeap) : dBodyL M Tryd.prog hints C LP F.internal_strconv_bool2_int [a0] H = s_internal_strconv_bool2_int M.b.g M.c M.s Tryd.prog C a0 H (endK Tryd.prog [.tmp 2]) := by kernel_rfl

/-! internal.strconv.isPowerOfTwo -/

noncomputable def s_internal_strconv_isPowerOfTwo (mg : GT) (mc : CT) (ms : ST) (P : Program) (C : CallF) (a0 : Value) (H : AHeap) (K0 : K) : Res :=
bareK (xbin P .sub T.int (.tmp 4) (.const (.int .i64 1)) a0 (.int .i64 1)) H fun t5 h1 =>
bareK (xbin P .and T.int (.tmp 3) (.tmp 5) a0 t5) h1 fun t6 h2 =>
bareK (xbin P .eql T.int (.tmp 6) (.const (.int .i64 0)) t6 (.int .i64 0)) h2 fun t7 h3 =>
K0 .ret [(2, t7)] h3

theorem s_internal_strconv_isPowerOfTwo_eq (M : CombL) (C : CallF) (LP : LoopH) (a0 : Value) (H : AHeap) : dBodyL M Tryd.prog hints C LP F.internal_strconv_isPowerOfTwo [a0] H = s_internal_strconv_isPowerOfTwo M.b.g M.c M.s Tryd.prog C a0 H (endK Tryd.prog [.tmp 2]) := by kernel_rfl

/-! math.bits.TrailingZeros -/

noncomputable def s_math_bits_TrailingZeros (mg : GT) (mc : CT) (ms : ST) (P : Program) (C : CallF) (a0 : Value) (H : AHeap) (K0 : K) : Res :=
mc (.bool false) (fun k1 => bothK (xconv P T.uint T.uint32 a0 H) fun t4 h1 =>
enterK C F.math_bits_TrailingZeros32 [t4] h1 fun t5 h2 =>
k1 .ret [(2, t5)] h2) (fun k1 =>
k1 .normal [(0, a0)] H) (seqK (fun tT h3 =>
enterK C F.math_bits_TrailingZeros64 [(get tT 0)] h3 fun t7 h4 =>
K0 .ret [(2, t7)] h4) K0)

theorem s_math_bits_TrailingZeros_eq (M : CombL) (C : CallF) (LP : LoopH) (a0 : Value) (H : AHeap) : dBodyL M Tryd.prog hints C LP F.math_bits_TrailingZeros [a0] H = s_math_bits_TrailingZeros M.b.g M.c M.s Tryd.prog C a0 H (endK Tryd.prog [.tmp 2]) := by kernel_rfl

/-! internal.strconv.lower -/

noncomputable def s_internal_strconv_lower (mg : GT) (mc : CT) (ms : ST) (P : Program) (C : CallF) (a0 : Value) (H : AHeap) (K0 : K) : Res :=
bareK (xbin P .or T.uint8 (.tmp 3) (.const (.int .u8 32)) a0 (.int .u8 32)) H fun t4 h1 =>
K0 .ret [(2, t4)] h1

theorem s_internal_strconv_lower_eq (M : CombL) (C : CallF) (LP : LoopH) (a0 : Value) (H : AHeap) : dBodyL M Tryd.prog hints C LP F.internal_strconv_lower [a0] H = s_internal_strconv_lower M.b.g M.c M.s Tryd.prog C a0 H (endK Tryd.prog [.tmp 2]) := by kernel_rfl

/-! internal.strconv.underscoreOK -/

noncomputable def s_internal_strconv_underscoreOK (mg : GT) (mc : CT) (ms : ST) (P : Program) (C : CallF) (L0 : Value → Value → Value → Value → AHeap → K → Res) (a0 : Value) (H : AHeap) (K0 : K) : Res :=
bareK (lenT a0) H fun t7 h1 =>
bareK (xbin P .geq T.int (.tmp 7) (.const (.int .i64 1)) t7 (.int .i64 1)) h1 fun t8 h2 =>
mg t8 true (fun o1 => o1 a0 h2) h2 fun t10 h3 =>
mg t8 true (fun o2 => bareK (xindex P T.string t10 (.int .i64 0)) h3 o2) h3 fun t11 h4 =>
mg t8 true (fun o3 => bareK (xbin P .eql T.uint8 (.tmp 11) (.const (.int .u8 45)) t11 (.int .u8 45)) h4 o3) h4 fun t12 h5 =>
mg t8 true (fun o4 => o4 t12 h5) h5 fun t13 h6 =>
mg t13 false (fun o5 => o5 a0 h6) h6 fun t14 h7 =>
mg t13 false (fun o6 => bareK (xindex P T.string t14 (.int .i64 0)) h7 o6) h7 fun t15 h8 =>
mg t13 false (fun o7 => bareK (xbin P .eql T.uint8 (.tmp 15) (.const (.int .u8 43)) t15 (.int .u8 43)) h8 o7) h8 fun t16 h9 =>
mg t8 true (fun o8 => pickK t13 (.bool true) t16 fun v => o8 v h9) h9 fun t17 h10 =>
pickK t8 t17 (.bool false) fun t18 =>
mc t18 (fun k9 => bareK (slT a0 (some (.int .i64 1)) none) h10 fun t20 h11 =>
k9 .normal [(0, t20), (3, (.int .i32 94)), (4, (.int .i64 0))] h11) (fun k9 =>
k9 .normal [(0, a0), (3, (.int .i32 94)), (4, (.int .i64 0))] h10) (seqK (fun tT h12 =>
bareK (lenT (get tT 0)) h12 fun t22 h13 =>
bareK (xbin P .geq T.int (.tmp 22) (.const (.int .i64 2)) t22 (.int .i64 2)) h13 fun t23 h14 =>
mg t23 true (fun o10 => o10 (get tT 0) h14) h14 fun t25 h15 =>
mg t23 true (fun o11 => bareK (xindex P T.string t25 (.int .i64 0)) h15 o11) h15 fun t26 h16 =>
mg t23 true (fun o12 => bareK (xbin P .eql T.uint8 (.tmp 26) (.const (.int .u8 48)) t26 (.int .u8 48)) h16 o12) h16 fun t27 h17 =>
pickK t23 t27 (.bool false) fun t28 =>
mg t28 true (fun o13 => o13 (get tT 0) h17) h17 fun t30 h18 =>
mg t28 true (fun o14 => bareK (xindex P T.string t30 (.int .i64 1)) h18 o14) h18 fun t31 h19 =>
mg t28 true (fun o15 => enterK C F.internal_strconv_lower [t31] h19 o15) h19 fun t32 h20 =>
mg t28 true (fun o16 => bareK (xbin P .eql T.uint8 (.tmp 32) (.const (.int .u8 98)) t32 (.int .u8 98)) h20 o16) h20 fun t33 h21 =>
mg t28 true (fun o17 => o17 t33 h21) h21 fun t34 h22 =>
mg t34 false (fun o18 => o18 (get tT 0) h22) h22 fun t35 h23 =>
mg t34 false (fun o19 => bareK (xindex P T.string t35 (.int .i64 1)) h23 o19) h23 fun t36 h24 =>
mg t34 false (fun o20 => enterK C F.internal_strconv_lower [t36] h24 o20) h24 fun t37 h25 =>
mg t34 false (fun o21 => bareK (xbin P .eql T.uint8 (.tmp 37) (.const (.int .u8 111)) t37 (.int .u8 111)) h25 o21) h25 fun t38 h26 =>
mg t28 true (fun o22 => pickK t34 (.bool true) t38 fun v => o22 v h26) h26 fun t39 h27 =>
mg t28 true (fun o23 => o23 t39 h27) h27 fun t40 h28 =>
mg t40 false (fun o24 => o24 (get tT 0) h28) h28 fun t41 h29 =>
mg t40 false (fun o25 => bareK (xindex P T.string t41 (.int .i64 1)) h29 o25) h29 fun t42 h30 =>
mg t40 false (fun o26 => enterK C F.internal_strconv_lower [t42] h30 o26) h30 fun t43 h31 =>
mg t40 false (fun o27 => bareK (xbin P .eql T.uint8 (.tmp 43) (.const (.int .u8 120)) t43 (.int .u8 120)) h31 o27) h31 fun t44 h32 =>
mg t28 true (fun o28 => pickK t40 (.bool true) t44 fun v => o28 v h32) h32 fun t45 h33 =>
pickK t28 t45 (.bool false) fun t46 =>
mc t46 (fun k29 => bareK (xindex P T.string (get tT 0) (.int .i64 1)) h33 fun t48 h34 =>
enterK C F.internal_strconv_lower [t48] h34 fun t49 h35 =>
bareK (xbin P .eql T.uint8 (.tmp 49) (.const (.int .u8 120)) t49 (.int .u8 120)) h35 fun t50 h36 =>
k29 .normal [(0, (get tT 0)), (3, (.int .i32 48)), (4, (.int .i64 2)), (5, t50)] h36) (fun k29 =>
k29 .normal [(0, (get tT 0)), (3, (get tT 3)), (4, (get tT 4)), (5, (.bool false))] h33) (seqK (fun tT_1 h37 =>
ms (fun k30 =>
L0 (get tT_1 0) (get tT_1 3) (get tT_1 4) (get tT_1 5) h37 (blkK [3] 0 k30)) (seqK (fun tT_2 h38 =>
bareK (xbin P .neq T.int32 (.tmp 92) (.const (.int .i32 95)) (get tT_2 3) (.int .i32 95)) h38 fun t93 h39 =>
K0 .ret [(2, t93)] h39) K0)) K0)) K0)

noncomputable def s_internal_strconv_underscoreOK_b0 (mg : GT) (mc : CT) (ms : ST) (P : Program) (C : CallF) (L0 : Value → Value → Value → Value → AHeap → K → Res) (v0 : Value) (v3 : Value) (v4 : Value) (v5 : Value) (H : AHeap) (k : K) : Res :=
bareK (lenT v0) H fun t53 h38 =>
bareK (xbin P .lss T.int (.tmp 51) (.tmp 53) v4 t53) h38 fun t54 h39 =>
mc t54 (fun k31 => k31 .normal [(0, v0), (3, v3), (4, v4), (5, v5)] h39) (fun k31 =>
k31 (.exit 0) [(54, t54), (53, t53), (52, v0), (51, v4), (0, v0), (3, v3), (4, v4), (5, v5)] h39) (seqK (fun tT h40 =>
ms (fun k32 =>
bareK (xindex P T.string (get tT 0) (get tT 4)) h40 fun t59 h41 =>
bareK (xbin P .leq T.uint8 (.const (.int .u8 48)) (.tmp 59) (.int .u8 48) t59) h41 fun t60 h42 =>
mg t60 true (fun o33 => o33 (get tT 0) h42) h42 fun t62 h43 =>
mg t60 true (fun o34 => o34 (get tT 4) h43) h43 fun t63 h44 =>
mg t60 true (fun o35 => bareK (xindex P T.string t62 t63) h44 o35) h44 fun t64 h45 =>
mg t60 true (fun o36 => bareK (xbin P .leq T.uint8 (.tmp 64) (.const (.int .u8 57)) t64 (.int .u8 57)) h45 o36) h45 fun t65 h46 =>
pickK t60 t65 (.bool false) fun t66 =>
mg t66 false (fun o37 => o37 (get tT 5) h46) h46 fun t68 h47 =>
mg t66 false (fun o38 => o38 t68 h47) h47 fun t69 h48 =>
mg t69 true (fun o39 => o39 (get tT 0) h48) h48 fun t70 h49 =>
mg t69 true (fun o40 => o40 (get tT 4) h49) h49 fun t71 h50 =>
mg t69 true (fun o41 => bareK (xindex P T.string t70 t71) h50 o41) h50 fun t72 h51 =>
mg t69 true (fun o42 => enterK C F.internal_strconv_lower [t72] h51 o42) h51 fun t73 h52 =>
mg t69 true (fun o43 => bareK (xbin P .leq T.uint8 (.const (.int .u8 97)) (.tmp 73) (.int .u8 97) t73) h52 o43) h52 fun t74 h53 =>
mg t66 false (fun o44 => pickK t69 t74 (.bool false) fun v => o44 v h53) h53 fun t75 h54 =>
mg t66 false (fun o45 => o45 t75 h54) h54 fun t76 h55 =>
mg t76 true (fun o46 => o46 (get tT 0) h55) h55 fun t77 h56 =>
mg t76 true (fun o47 => o47 (get tT 4) h56) h56 fun t78 h57 =>
mg t76 true (fun o48 => bareK (xindex P T.string t77 t78) h57 o48) h57 fun t79 h58 =>
mg t76 true (fun o49 => enterK C F.internal_strconv_lower [t79] h58 o49) h58 fun t80 h59 =>
mg t76 true (fun o50 => bareK (xbin P .leq T.uint8 (.tmp 80) (.const (.int .u8 102)) t80 (.int .u8 102)) h59 o50) h59 fun t81 h60 =>
mg t66 false (fun o51 => pickK t76 t81 (.bool false) fun v => o51 v h60) h60 fun t82 h61 =>
pickK t66 (.bool true) t82 fun t83 =>
mc t83 (fun k52 => k52 (.exit 1) ((3, (.int .i32 48)) :: (83, t83) :: (82, t82) :: (81, t81) :: (80, t80) :: (79, t79) :: (78, t78) :: (77, t77) :: (76, t76) :: (75, t75) :: (74, t74) :: (73, t73) :: (72, t72) :: (71, t71) :: (70, t70) :: (69, t69) :: (68, t68) :: (67, t66) :: (66, t66) :: (65, t65) :: (64, t64) :: (63, t63) :: (62, t62) :: (61, t60) :: (60, t60) :: (59, t59) :: (58, (get tT 4)) :: (57, (get tT 0)) :: tT) h61) (fun k52 =>
k52 .normal [(0, (get tT 0)), (3, (get tT 3)), (4, (get tT 4)), (5, (get tT 5))] h61) (seqK (fun tT_1 h62 =>
bareK (xindex P T.string (get tT_1 0) (get tT_1 4)) h62 fun t86 h63 =>
bareK (xbin P .eql T.uint8 (.tmp 86) (.const (.int .u8 95)) t86 (.int .u8 95)) h63 fun t87 h64 =>
mc t87 (fun k53 => bareK (xbin P .neq T.int32 (.tmp 88) (.const (.int .i32 48)) (get tT_1 3) (.int .i32 48)) h64 fun t89 h65 =>
mc t89 (fun k54 => k54 .ret [(2, (.bool false))] h65) (fun k54 =>
k54 .normal [(0, (get tT_1 0)), (4, (get tT_1 4)), (5, (get tT_1 5))] h65) (seqK (fun tT_2 h66 =>
k53 (.exit 1) ((3, (.int .i32 95)) :: tT_2) h66) (afterK [0, 3, 4, 5] k53))) (fun k53 =>
k53 .normal [(0, (get tT_1 0)), (3, (get tT_1 3)), (4, (get tT_1 4)), (5, (get tT_1 5))] h64) (seqK (fun tT_3 h67 =>
bareK (xbin P .eql T.int32 (.tmp 90) (.const (.int .i32 95)) (get tT_3 3) (.int .i32 95)) h67 fun t91 h68 =>
mc t91 (fun k55 => k55 .ret [(2, (.bool false))] h68) (fun k55 =>
k55 .normal [(0, (get tT_3 0)), (4, (get tT_3 4)), (5, (get tT_3 5))] h68) (seqK (fun tT_4 h69 =>
k32 .normal [(0, (get tT_4 0)), (3, (.int .i32 33)), (4, (get tT_4 4)), (5, (get tT_4 5))] h69) (blkK [0, 3, 4, 5] 1 k32))) (blkK [0, 3, 4, 5] 1 k32))) (blkK [0, 3, 4, 5] 1 k32))) (seqK (fun tT_5 h70 =>
bareK (xbin P .add T.int (.tmp 55) (.const (.int .i64 1)) (get tT_5 4) (.int .i64 1)) h70 fun t56 h71 =>
k .normal [(0, (get tT_5 0)), (3, (get tT_5 3)), (4, t56), (5, (get tT_5 5))] h71) (afterK [0, 3, 4, 5] k))) (afterK [0, 3, 4, 5] k))

theorem s_internal_strconv_underscoreOK_eq (M : CombL) (C : CallF) (LP : LoopH) (a0 : Value) (H : AHeap) : dBodyL M Tryd.prog hints C LP F.internal_strconv_underscoreOK [a0] H = s_internal_strconv_underscoreOK M.b.g M.c M.s Tryd.prog C (fun v0 v3 v4 v5 H k => loopL M Tryd.prog hints C LP F.internal_strconv_underscoreOK 0 [(0, v0), (3, v3), (4, v4), (5, v5)] H k) a0 H (endK Tryd.prog [.tmp 2]) := by kernel_rfl

theorem s_internal_strconv_underscoreOK_b0_eq (M : CombL) (C : CallF) (LP : LoopH) (v0 : Value) (v3 : Value) (v4 : Value) (v5 : Value) (H : AHeap) (k : K) : bodyL M Tryd.prog hints C LP F.internal_strconv_underscoreOK 0 [(0, v0), (3, v3), (4, v4), (5, v5)] H (afterK [0, 3, 4, 5] k) = s_internal_strconv_underscoreOK_b0 M.b.g M.c M.s Tryd.prog C (fun v0 v3 v4 v5 H k => loopL M Tryd.prog hints C LP F.internal_strconv_underscoreOK 0 [(0, v0), (3, v3), (4, v4), (5, v5)] H k) v0 v3 v4 v5 H k := by kernel_rfl

/-! slices.order2Ordered[string] -/

noncomputable def s_slices_order2Ordered_string (mg : GT) (mc : CT) (ms : ST) (P : Program) (C : CallF) (a0 : Value) (a1 : Value) (a2 : Value) (a3 : Value) (H : AHeap) (K0 : K) : Res :=
bareK (ixS 1 a0 a2) H fun t12 h1 =>
bareK (ld1 h1 t12) h1 fun t13 h2 =>
bareK (ixS 1 a0 a1) h2 fun t16 h3 =>
bareK (ld1 h3 t16) h3 fun t17 h4 =>
enterK C F.cmp_Less_string [t13, t17] h4 fun t18 h5 =>
checkK true <|
mc t18 (fun k1 => bareK (xnilCheck a3) h5 fun t20 h6 =>
bareK (ld1 h6 t20) h6 fun t21 h7 =>
bareK (xbin P .add T.int (.tmp 21) (.const (.int .i64 1)) t21 (.int .i64 1)) h7 fun t22 h8 =>
bareK (xnilCheck a3) h8 fun t23 h9 =>
quietK (st1 h9 t23 t22) fun _ h10 =>
k1 .ret [(8, a2), (9, a1)] h10) (fun k1 =>
k1 .normal [(1, a1), (2, a2)] h5) (seqK (fun tT h11 =>
K0 .ret [(8, (get tT 1)), (9, (get tT 2))] h11) K0)

theorem s_slices_order2Ordered_string_eq (M : CombL) (C : CallF) (LP : LoopH) (a0 : Value) (a1 : Value) (a2 : Value) (a3 : Value) (H : AHeap) : dBodyL M Tryd.prog hints C LP F.slices_order2Ordered_string [a0, a1, a2, a3] H = s_slices_order2Ordered_string M.b.g M.c M.s Tryd.prog C a0 a1 a2 a3 H (endK Tryd.prog [.tmp 8, .tmp 9]) := by kernel_rfl

/-! math.bits.TrailingZeros32 -/

noncomputable def s_math_bits_TrailingZeros32 (mg : GT) (mc : CT) (ms : ST) (P : Program) (C : CallF) (a0 : Value) (H : AHeap) (K0 : K) : Res :=
bareK (xbin P .eql T.uint32 (.tmp 3) (.const (.int .u32 0)) a0 (.int .u32 0)) H fun t4 h1 =>
mc t4 (fun k1 => k1 .ret [(2, (.int .i64 32))] h1) (fun k1 =>
k1 .normal [(0, a0)] h1) (seqK (fun tT h2 =>
bareK (xun P .neg (get tT 0)) h2 fun t7 h3 =>
bareK (xbin P .and T.uint32 (.tmp 5) (.tmp 7) (get tT 0) t7) h3 fun t8 h4 =>
bareK (xbin P .mul T.uint32 (.tmp 8) (.const (.int .u32 125613361)) t8 (.int .u32 125613361)) h4 fun t9 h5 =>
bareK (xbin P .shr T.uint32 (.tmp 9) (.const (.int .u64 27)) t9 (.int .u64 27)) h5 fun t10 h6 =>
bareK (ixA 32 1 top t10) h6 fun t11 h7 =>
bareK (ld1 h7 t11) h7 fun t12 h8 =>
bothK (xconv P T.uint8 T.int t12 h8) fun t13 h9 =>
K0 .ret [(2, t13)] h9) K0)

theorem s_math_bits_TrailingZeros32_eq (M : CombL) (C : CallF) (LP : LoopH) (a0 : Value) (H : AHeap) : dBodyL M Tryd.prog hints C LP F.math_bits_TrailingZeros32 [a0] H = s_math_bits_TrailingZeros32 M.b.g M.c M.s Tryd.prog C a0 H (endK Tryd.prog [.tmp 2]) := by kernel_rfl

/-! math.bits.TrailingZeros64 -/

noncomputable def s_math_bits_TrailingZeros64 (mg : GT) (mc : CT) (ms : ST) (P : Program) (C : CallF) (a0 : Value) (H : AHeap) (K0 : K) : Res :=
bareK (xbin P .eql T.uint64 (.tmp 3) (.const (.int .u64 0)) a0 (.int .u64 0)) H fun t4 h1 =>
mc t4 (fun k1 => k1 .ret [(2, (.int .i64 64))] h1) (fun k1 =>
k1 .normal [(0, a0)] h1) (seqK (fun tT h2 =>
bareK (xun P .neg (get tT 0)) h2 fun t7 h3 =>
bareK (xbin P .and T.uint64 (.tmp 5) (.tmp 7) (get tT 0) t7) h3 fun t8 h4 =>
bareK (xbin P .mul T.uint64 (.tmp 8) (.const (.int .u64 285870213051353865)) t8 (.int .u64 285870213051353865)) h4 fun t9 h5 =>
bareK (xbin P .shr T.uint64 (.tmp 9) (.const (.int .u64 58)) t9 (.int .u64 58)) h5 fun t10 h6 =>
bareK (ixA 64 1 top t10) h6 fun t11 h7 =>
bareK (ld1 h7 t11) h7 fun t12 h8 =>
bothK (xconv P T.uint8 T.int t12 h8) fun t13 h9 =>
K0 .ret [(2, t13)] h9) K0)

theorem s_math_bits_TrailingZeros64_eq (M : CombL) (C : CallF) (LP : LoopH) (a0 : Value) (H : AHeap) : dBodyL M Tryd.prog hints C LP F.math_bits_TrailingZeros64 [a0] H = s_math_bits_TrailingZeros64 M.b.g M.c M.s Tryd.prog C a0 H (endK Tryd.prog [.tmp 2]) := by kernel_rfl

/-! gosem.cut.vars -/

noncomputable def s_gosem_cut_vars (mg : GT) (mc : CT) (ms : ST) (P : Program) (C : CallF) (H : AHeap) (K0 : K) : Res :=
bareK (bldA #[(.int .u8 0), (.int .u8 0), (.int .u8 0), (.int .u8 0), (.int .u8 0), (.int .u8 0), (.int .u8 0), (.int .u8 0), (.int .u8 0), (.int .u8 0), (.int .u8 0), (.int .u8 0), (.int .u8 0), (.int .u8 0), (.int .u8 0), (.int .u8 0), (.int .u8 0), (.int .u8 0), (.int .u8 0), (.int .u8 0), (.int .u8 0), (.int .u8 0), (.int .u8 0), (.int .u8 0), (.int .u8 0), (.int .u8 0), (.int .u8 0), (.int .u8 0), (.int .u8 0), (.int .u8 0), (.int .u8 0), (.int .u8 0)] 1 [(0, (.int .u8 0)), (1, (.int .u8 1)), (2, (.int .u8 28)), (3, (.int .u8 2)), (4, (.int .u8 29)), (5, (.int .u8 14)), (6, (.int .u8 24)), (7, (.int .u8 3)), (8, (.int .u8 30)), (9, (.int .u8 22)), (10, (.int .u8 20)), (11, (.int .u8 15)), (12, (.int .u8 25)), (13, (.int .u8 17)), (14, (.int .u8 4)), (15, (.int .u8 8)), (16, (.int .u8 31)), (17, (.int .u8 27)), (18, (.int .u8 13)), (19, (.int .u8 23)), (20, (.int .u8 21)), (21, (.int .u8 19)), (22, (.int .u8 16)), (23, (.int .u8 7)), (24, (.int .u8 26)), (25, (.int .u8 12)), (26, (.int .u8 18)), (27, (.int .u8 6)), (28, (.int .u8 11)), (29, (.int .u8 5)), (30, (.int .u8 10)), (31, (.int .u8 9))]) H fun t0 h1 =>
quietK (stN 32 h1 top t0) fun _ h2 =>
bareK (bldA #[(.int .u8 0), (.int .u8 0), (.int .u8 0), (.int .u8 0), (.int .u8 0), (.int .u8 0), (.int .u8 0), (.int .u8 0), (.int .u8 0), (.int .u8 0), (.int .u8 0), (.int .u8 0), (.int .u8 0), (.int .u8 0), (.int .u8 0), (.int .u8 0), (.int .u8 0), (.int .u8 0), (.int .u8 0), (.int .u8 0), (.int .u8 0), (.int .u8 0), (.int .u8 0), (.int .u8 0), (.int .u8 0), (.int .u8 0), (.int .u8 0), (.int .u8 0), (.int .u8 0), (.int .u8 0), (.int .u8 0), (.int .u8 0), (.int .u8 0), (.int .u8 0), (.int .u8 0), (.int .u8 0), (.int .u8 0), (.int .u8 0), (.int .u8 0), (.int .u8 0), (.int .u8 0), (.int .u8 0), (.int .u8 0), (.int .u8 0), (.int .u8 0), (.int .u8 0), (.int .u8 0), (.int .u8 0), (.int .u8 0), (.int .u8 0), (.int .u8 0), (.int .u8 0), (.int .u8 0), (.int .u8 0), (.int .u8 0), (.int .u8 0), (.int .u8 0), (.int .u8 0), (.int .u8 0), (.int .u8 0), (.int .u8 0), (.int .u8 0), (.int .u8 0), (.int .u8 0)] 1 [(0, (.int .u8 0)), (1, (.int .u8 1)), (2, (.int .u8 56)), (3, (.int .u8 2)), (4, (.int .u8 57)), (5, (.int .u8 49)), (6, (.int .u8 28)), (7, (.int .u8 3)), (8, (.int .u8 61)), (9, (.int .u8 58)), (10, (.int .u8 42)), (11, (.int .u8 50)), (12, (.int .u8 38)), (13, (.int .u8 29)), (14, (.int .u8 17)), (15, (.int .u8 4)), (16, (.int .u8 62)), (17, (.int .u8 47)), (18, (.int .u8 59)), (19, (.int .u8 36)), (20, (.int .u8 45)), (21, (.int .u8 43)), (22, (.int .u8 51)), (23, (.int .u8 22)), (24, (.int .u8 53)), (25, (.int .u8 39)), (26, (.int .u8 33)), (27, (.int .u8 30)), (28, (.int .u8 24)), (29, (.int .u8 18)), (30, (.int .u8 12)), (31, (.int .u8 5)), (32, (.int .u8 63)), (33, (.int .u8 55)), (34, (.int .u8 48)), (35, (.int .u8 27)), (36, (.int .u8 60)), (37, (.int .u8 41)), (38, (.int .u8 37)), (39, (.int .u8 16)), (40, (.int .u8 46)), (41, (.int .u8 35)), (42, (.int .u8 44)), (43, (.int .u8 21)), (44, (.int .u8 52)), (45, (.int .u8 32)), (46, (.int .u8 23)), (47, (.int .u8 11)), (48, (.int .u8 54)), (49, (.int .u8 26)), (50, (.int .u8 40)), (51, (.int .u8 15)), (52, (.int .u8 34)), (53, (.int .u8 20)), (54, (.int .u8 31)), (55, (.int .u8 10)), (56, (.int .u8 25)), (57, (.int .u8 14)), (58, (.int .u8 19)), (59, (.int .u8 9)), (60, (.int .u8 13)), (61, (.int .u8 8)), (62, (.int .u8 7)), (63, (.int .u8 6))]) h2 fun t1 h3 =>
quietK (stN 64 h3 top t1) fun _ h4 =>
bareK (bldA #[(.int .u64 0), (.int .u64 0), (.int .u64 0), (.int .u64 0), (.int .u64 0), (.int .u64 0), (.int .u64 0), (.int .u64 0), (.int .u64 0), (.int .u64 0), (.int .u64 0), (.int .u64 0), (.int .u64 0), (.int .u64 0), (.int .u64 0), (.int .u64 0), (.int .u64 0), (.int .u64 0), (.int .u64 0), (.int .u64 0)] 1 [(0, (.int .u64 1)), (1, (.int .u64 10)), (2, (.int .u64 100)), (3, (.int .u64 1000)), (4, (.int .u64 10000)), (5, (.int .u64 100000)), (6, (.int .u64 1000000)), (7, (.int .u64 10000000)), (8, (.int .u64 100000000)), (9, (.int .u64 1000000000)), (10, (.int .u64 10000000000)), (11, (.int .u64 100000000000)), (12, (.int .u64 1000000000000)), (13, (.int .u64 10000000000000)), (14, (.int .u64 100000000000000)), (15, (.int .u64 1000000000000000)), (16, (.int .u64 10000000000000000)), (17, (.int .u64 100000000000000000)), (18, (.int .u64 1000000000000000000)), (19, (.int .u64 10000000000000000000))]) h4 fun t2 h5 =>
quietK (stN 20 h5 top t2) fun _ h6 =>
enterK C F.errors_New [(.string (mk [118, 97, 108, 117, 101, 32, 111, 117, 116, 32, 111, 102, 32, 114, 97, 110, 103, 101]))] h6 fun t3 h7 =>
quietK (st1 h7 top t3) fun _ h8 =>
enterK C F.errors_New [(.string (mk [105, 110, 118, 97, 108, 105, 100, 32, 115, 121, 110, 116, 97, 120]))] h8 fun t4 h9 =>
quietK (st1 h9 top t4) fun _ h10 =>
K0 .normal [(4, t4), (3, t3), (2, t2), (1, t1), (0, t0)] h10

theorem s_gosem_cut_vars_eq (M : CombL) (C : CallF) (LP : LoopH) (H : AHeap) : dBodyL M Tryd.prog hints C LP F.gosem_cut_vars [] H = s_gosem_cut_vars M.b.g M.c M.s Tryd.prog C H (endK Tryd.prog []) := by kernel_rfl

end Go.Proofs.YtlfpjndbpclnnaaDoor
