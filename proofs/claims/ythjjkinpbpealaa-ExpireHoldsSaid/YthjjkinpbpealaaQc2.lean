/-
  1 texts in one (merge.py): Sh.
  Conditions: none. By an AI agent.
-/
import Derived.Test.YthjjkinpbpealaaQc1
import Derived.Test.YthjjkinpbpealaaChecked
import Derived.KernelRfl

/-
  The seat's functions as terms over the engine's combinators (a program of ours printed it).
  Conditions: none. By an AI agent.
-/
set_option linter.unusedVariables false
namespace Go.Proofs.Ythjjkinpbpealaa
open Go Eng

/-! (*ticketline.expire.Store).Put -/

noncomputable def s_expire_Store_Put (mg : GT) (mc : CT) (ms : ST) (P : Program) (C : CallF) (a0 : Value) (a1 : Value) (a2 : Value) (a3 : Value) (H : AHeap) (K0 : K) : Res :=
ms (fun k1 =>
bareK (xbin P .eql T.p_expire_Store (.tmp 12) (.const (.pointer none)) a0 (.pointer none)) H fun t13 h1 =>
mc t13 (fun k2 => k2 .ret [(8, (.int .i64 1))] h1) (fun k2 =>
bareK (xbin P .lss T.int (.tmp 15) (.const (.int .i64 0)) a3 (.int .i64 0)) h1 fun t16 h2 =>
mg t16 false (fun o3 => o3 a3 h2) h2 fun t18 h3 =>
mg t16 false (fun o4 => bareK (xbin P .gtr T.int (.tmp 18) (.const (.int .i64 1099511627776)) t18 (.int .i64 1099511627776)) h3 o4) h3 fun t19 h4 =>
pickK t16 (.bool true) t19 fun t20 =>
mc t20 (fun k5 => k5 .ret [(8, (.int .i64 2))] h4) (fun k5 =>
k5 .normal [(0, a0), (1, a1), (2, a2), (3, a3)] h4) (afterK [0, 1, 2, 3] k2)) (blkK [0, 1, 2, 3] 0 k1)) (seqK (fun tT h5 =>
enterK C F.expire_check [(get tT 1), (get tT 2)] h5 fun t23 h6 =>
bareK (xbin P .neq T.api_Errno (.tmp 24) (.const (.int .i64 0)) t23 (.int .i64 0)) h6 fun t25 h7 =>
mc t25 (fun k6 => k6 .ret [(8, t23)] h7) (fun k6 =>
k6 .normal [(0, (get tT 0)), (1, (get tT 1)), (2, (get tT 2)), (3, (get tT 3))] h7) (seqK (fun tT_1 h8 =>
bareK (xbin P .gtr T.int (.tmp 27) (.const (.int .i64 0)) (get tT_1 3) (.int .i64 0)) h8 fun t28 h9 =>
mg t28 true (fun o7 => o7 (get tT_1 3) h9) h9 fun t30 h10 =>
mg t28 true (fun o8 => o8 (get tT_1 0) h10) h10 fun t31 h11 =>
mg t28 true (fun o9 => bareK (xnilCheck t31) h11 o9) h11 fun t32 h12 =>
mg t28 true (fun o10 => bareK (fad 2 t32) h12 o10) h12 fun t33 h13 =>
mg t28 true (fun o11 => bareK (ld1 h13 t33) h13 o11) h13 fun t34 h14 =>
mg t28 true (fun o12 => bareK (xbin P .leq T.int (.tmp 30) (.tmp 34) t30 t34) h14 o12) h14 fun t35 h15 =>
pickK t28 t35 (.bool false) fun t36 =>
mc t36 (fun k13 => k13 .ret [(8, (.int .i64 14))] h15) (fun k13 =>
k13 .normal [(0, (get tT_1 0)), (1, (get tT_1 1)), (2, (get tT_1 2)), (3, (get tT_1 3))] h15) (seqK (fun tT_2 h16 =>
bareK (xnilCheck (get tT_2 0)) h16 fun t38 h17 =>
bareK (fad 0 t38) h17 fun t39 h18 =>
enterK C F.model_Model_Put [t39, (get tT_2 1), (get tT_2 2)] h18 fun t42 h19 =>
bareK (xbin P .neq T.api_Errno (.tmp 43) (.const (.int .i64 0)) t42 (.int .i64 0)) h19 fun t44 h20 =>
mc t44 (fun k14 => k14 .ret [(8, t42)] h20) (fun k14 =>
k14 .normal [(0, (get tT_2 0)), (1, (get tT_2 1)), (3, (get tT_2 3))] h20) (seqK (fun tT_3 h21 =>
enterK C F.expire_Store_set [(get tT_3 0), (get tT_3 1), (get tT_3 3)] h21 fun t49 h22 =>
K0 .ret [(8, (.int .i64 0))] h22) K0)) K0)) K0)) K0)

theorem s_expire_Store_Put_eq (M : CombL) (C : CallF) (LP : LoopH) (a0 : Value) (a1 : Value) (a2 : Value) (a3 : Value) (H : AHeap) : dBodyL M Try.prog hints C LP F.expire_Store_Put [a0, a1, a2, a3] H = s_expire_Store_Put M.b.g M.c M.s Try.prog C a0 a1 a2 a3 H (endK Try.prog [.tmp 8]) := by kernel_rfl

/-! (*ticketline.expire.Store).Pass -/

noncomputable def s_expire_Store_Pass (mg : GT) (mc : CT) (ms : ST) (P : Program) (C : CallF) (a0 : Value) (a1 : Value) (H : AHeap) (K0 : K) : Res :=
ms (fun k1 =>
bareK (xbin P .eql T.p_expire_Store (.tmp 6) (.const (.pointer none)) a0 (.pointer none)) H fun t7 h1 =>
mc t7 (fun k2 => k2 .ret [(4, (.int .i64 1))] h1) (fun k2 =>
bareK (xbin P .lss T.int (.tmp 9) (.const (.int .i64 0)) a1 (.int .i64 0)) h1 fun t10 h2 =>
mg t10 false (fun o3 => o3 a1 h2) h2 fun t12 h3 =>
mg t10 false (fun o4 => bareK (xbin P .gtr T.int (.tmp 12) (.const (.int .i64 1099511627776)) t12 (.int .i64 1099511627776)) h3 o4) h3 fun t13 h4 =>
pickK t10 (.bool true) t13 fun t14 =>
mc t14 (fun k5 => k5 .ret [(4, (.int .i64 2))] h4) (fun k5 =>
bareK (xnilCheck a0) h4 fun t18 h5 =>
bareK (fad 2 t18) h5 fun t19 h6 =>
bareK (ld1 h6 t19) h6 fun t20 h7 =>
bareK (xbin P .lss T.int (.tmp 16) (.tmp 20) a1 t20) h7 fun t21 h8 =>
mc t21 (fun k6 => k6 .ret [(4, (.int .i64 14))] h8) (fun k6 =>
k6 .normal [(0, a0), (1, a1)] h8) (afterK [0, 1] k5)) (afterK [0, 1] k2)) (blkK [0, 1] 0 k1)) (seqK (fun tT h9 =>
bareK (xnilCheck (get tT 0)) h9 fun t24 h10 =>
bareK (fad 2 t24) h10 fun t25 h11 =>
quietK (st1 h11 t25 (get tT 1)) fun _ h12 =>
K0 .ret [(4, (.int .i64 0))] h12) K0)

theorem s_expire_Store_Pass_eq (M : CombL) (C : CallF) (LP : LoopH) (a0 : Value) (a1 : Value) (H : AHeap) : dBodyL M Try.prog hints C LP F.expire_Store_Pass [a0, a1] H = s_expire_Store_Pass M.b.g M.c M.s Try.prog C a0 a1 H (endK Try.prog [.tmp 4]) := by kernel_rfl

/-! (*ticketline.expire.Store).Waiting -/

noncomputable def s_expire_Store_Waiting (mg : GT) (mc : CT) (ms : ST) (P : Program) (C : CallF) (a0 : Value) (H : AHeap) (K0 : K) : Res :=
bareK (xbin P .eql T.p_expire_Store (.tmp 3) (.const (.pointer none)) a0 (.pointer none)) H fun t4 h1 =>
mc t4 (fun k1 => k1 .ret [(2, (.int .i64 0))] h1) (fun k1 =>
k1 .normal [(0, a0)] h1) (seqK (fun tT h2 =>
enterK C F.expire_Store_waiting [(get tT 0)] h2 fun t6 h3 =>
bareK (lenS t6) h3 fun t7 h4 =>
K0 .ret [(2, t7)] h4) K0)

theorem s_expire_Store_Waiting_eq (M : CombL) (C : CallF) (LP : LoopH) (a0 : Value) (H : AHeap) : dBodyL M Try.prog hints C LP F.expire_Store_Waiting [a0] H = s_expire_Store_Waiting M.b.g M.c M.s Try.prog C a0 H (endK Try.prog [.tmp 2]) := by kernel_rfl

/-! (*ticketline.expire.Store).Len -/

noncomputable def s_expire_Store_Len (mg : GT) (mc : CT) (ms : ST) (P : Program) (C : CallF) (a0 : Value) (H : AHeap) (K0 : K) : Res :=
bareK (xbin P .eql T.p_expire_Store (.tmp 3) (.const (.pointer none)) a0 (.pointer none)) H fun t4 h1 =>
mc t4 (fun k1 => k1 .ret [(2, (.int .i64 0))] h1) (fun k1 =>
k1 .normal [(0, a0)] h1) (seqK (fun tT h2 =>
bareK (xnilCheck (get tT 0)) h2 fun t6 h3 =>
bareK (fad 0 t6) h3 fun t7 h4 =>
enterK C F.model_Model_Len [t7] h4 fun t8 h5 =>
enterK C F.expire_Store_Waiting [(get tT 0)] h5 fun t10 h6 =>
bareK (xbin P .sub T.int (.tmp 8) (.tmp 10) t8 t10) h6 fun t11 h7 =>
K0 .ret [(2, t11)] h7) K0)

theorem s_expire_Store_Len_eq (M : CombL) (C : CallF) (LP : LoopH) (a0 : Value) (H : AHeap) : dBodyL M Try.prog hints C LP F.expire_Store_Len [a0] H = s_expire_Store_Len M.b.g M.c M.s Try.prog C a0 H (endK Try.prog [.tmp 2]) := by kernel_rfl

/-! (*ticketline.expire.Store).Sweep -/

noncomputable def s_expire_Store_Sweep (mg : GT) (mc : CT) (ms : ST) (P : Program) (C : CallF) (L0 : Value → Value → Value → Value → Value → AHeap → K → Res) (a0 : Value) (a1 : Value) (H : AHeap) (K0 : K) : Res :=
ms (fun k1 =>
bareK (xbin P .eql T.p_expire_Store (.tmp 10) (.const (.pointer none)) a0 (.pointer none)) H fun t11 h1 =>
mc t11 (fun k2 => k2 .ret [(4, (.slice none 0 0)), (5, (.int .i64 1))] h1) (fun k2 =>
bareK (xbin P .lss T.int (.tmp 13) (.const (.int .i64 1)) a1 (.int .i64 1)) h1 fun t14 h2 =>
mc t14 (fun k3 => k3 .ret [(4, (.slice none 0 0)), (5, (.int .i64 2))] h2) (fun k3 =>
k3 .normal [(0, a0), (1, a1)] h2) (afterK [0, 1] k2)) (blkK [0, 1] 0 k1)) (seqK (fun tT h3 =>
enterK C F.expire_Store_waiting [(get tT 0)] h3 fun t16 h4 =>
bareK (lenS t16) h4 fun t20 h5 =>
nextK C h5 (xbuiltin P .min [T.int, T.int] [(get tT 1), t20] h5) fun t21 h6 =>
bareK (slS T.string 1 t16 none (some t21) none h6) h6 fun t22 h7 =>
bareK (lenS t22) h7 fun t24 h8 =>
ms (fun k4 =>
L0 (get tT 0) t22 t22 t24 (.int .i64 0) h8 (blkK [6] 1 k4)) (seqK (fun tT_1 h9 =>
K0 .ret [(4, (get tT_1 6)), (5, (.int .i64 0))] h9) K0)) K0)

noncomputable def s_expire_Store_Sweep_b0 (mg : GT) (mc : CT) (ms : ST) (P : Program) (C : CallF) (L0 : Value → Value → Value → Value → Value → AHeap → K → Res) (v0 : Value) (v6 : Value) (v23 : Value) (v24 : Value) (v25 : Value) (H : AHeap) (k : K) : Res :=
bareK (xbin P .lss T.int (.tmp 25) (.tmp 24) v25 v24) H fun t26 h9 =>
mc t26 (fun k5 => k5 .normal [(0, v0), (6, v6), (23, v23), (24, v24), (25, v25)] h9) (fun k5 =>
k5 (.exit 1) [(26, t26), (0, v0), (6, v6), (23, v23), (24, v24), (25, v25)] h9) (seqK (fun tT h10 =>
ms (fun k6 =>
bareK (ixS 1 (get tT 23) (get tT 25)) h10 fun t27 h11 =>
bareK (ld1 h11 t27) h11 fun t28 h12 =>
bareK (xnilCheck (get tT 0)) h12 fun t30 h13 =>
bareK (fad 0 t30) h13 fun t31 h14 =>
enterK C F.model_Model_Delete [t31, t28] h14 fun t33 h15 =>
bareK (xnilCheck (get tT 0)) h15 fun t35 h16 =>
bareK (fad 1 t35) h16 fun t36 h17 =>
bareK (ld1 h17 t36) h17 fun t37 h18 =>
nextK C h18 (xbuiltin P .delete [T.map_string_int, T.string] [t37, t28] h18) fun _ h19 =>
k6 .normal [(0, (get tT 0)), (6, (get tT 6)), (23, (get tT 23)), (24, (get tT 24)), (25, (get tT 25))] h19) (seqK (fun tT_1 h20 =>
bareK (xbin P .add T.int (.tmp 25) (.const (.int .i64 1)) (get tT_1 25) (.int .i64 1)) h20 fun t39 h21 =>
k .normal [(0, (get tT_1 0)), (6, (get tT_1 6)), (23, (get tT_1 23)), (24, (get tT_1 24)), (25, t39)] h21) (afterK [0, 6, 23, 24, 25] k))) (afterK [0, 6, 23, 24, 25] k))

theorem s_expire_Store_Sweep_eq (M : CombL) (C : CallF) (LP : LoopH) (a0 : Value) (a1 : Value) (H : AHeap) : dBodyL M Try.prog hints C LP F.expire_Store_Sweep [a0, a1] H = s_expire_Store_Sweep M.b.g M.c M.s Try.prog C (fun v0 v6 v23 v24 v25 H k => loopL M Try.prog hints C LP F.expire_Store_Sweep 0 [(0, v0), (6, v6), (23, v23), (24, v24), (25, v25)] H k) a0 a1 H (endK Try.prog [.tmp 4, .tmp 5]) := by kernel_rfl

theorem s_expire_Store_Sweep_b0_eq (M : CombL) (C : CallF) (LP : LoopH) (v0 : Value) (v6 : Value) (v23 : Value) (v24 : Value) (v25 : Value) (H : AHeap) (k : K) : bodyL M Try.prog hints C LP F.expire_Store_Sweep 0 [(0, v0), (6, v6), (23, v23), (24, v24), (25, v25)] H (afterK [0, 6, 23, 24, 25] k) = s_expire_Store_Sweep_b0 M.b.g M.c M.s Try.prog C (fun v0 v6 v23 v24 v25 H k => loopL M Try.prog hints C LP F.expire_Store_Sweep 0 [(0, v0), (6, v6), (23, v23), (24, v24), (25, v25)] H k) v0 v6 v23 v24 v25 H k := by kernel_rfl

/-! (*ticketline.expire.Store).Alive -/

noncomputable def s_expire_Store_Alive (mg : GT) (mc : CT) (ms : ST) (P : Program) (C : CallF) (a0 : Value) (H : AHeap) (K0 : K) : Res :=
bothK (newv T.p_expire_Store a0 H) fun t1 h1 =>
bareK (ld1 h1 t1) h1 fun t3 h2 =>
bareK (xbin P .eql T.p_expire_Store (.tmp 3) (.const (.pointer none)) t3 (.pointer none)) h2 fun t4 h3 =>
mc t4 (fun k1 => k1 .ret [(2, (.slice none 0 0))] h3) (fun k1 =>
k1 .normal [(1, t1)] h3) (seqK (fun tT h4 =>
bareK (ld1 h4 (get tT 1)) h4 fun t5 h5 =>
bareK (xnilCheck t5) h5 fun t6 h6 =>
bareK (fad 0 t6) h6 fun t7 h7 =>
enterK C F.model_Model_Pairs [t7] h7 fun t8 h8 =>
enterK C F.slices_DeleteFunc_Pair [t8, (.func (.func F.expire_Store_Alive_1) #[] #[(get tT 1)])] h8 fun t10 h9 =>
K0 .ret [(2, t10)] h9) K0)

theorem s_expire_Store_Alive_eq (M : CombL) (C : CallF) (LP : LoopH) (a0 : Value) (H : AHeap) : dBodyL M Try.prog hints C LP F.expire_Store_Alive [a0] H = s_expire_Store_Alive M.b.g M.c M.s Try.prog C a0 H (endK Try.prog [.tmp 2]) := by kernel_rfl

/-! ticketline.ticketlinelaw45.small -/

noncomputable def s_law_small (mg : GT) (mc : CT) (ms : ST) (P : Program) (C : CallF) (L0 : Value → Value → Value → AHeap → K → Res) (a0 : Value) (a1 : Value) (H : AHeap) (K0 : K) : Res :=
ms (fun k1 =>
L0 a0 a1 (.int .i64 0) H (blkK [0, 1] 0 k1)) (seqK (fun tT h1 =>
bareK (lenS (get tT 0)) h1 fun t34 h2 =>
bareK (xbin P .leq T.int (.tmp 34) (.tmp 35) t34 (get tT 1)) h2 fun t36 h3 =>
K0 .ret [(4, t36)] h3) K0)

noncomputable def s_law_small_b0 (mg : GT) (mc : CT) (ms : ST) (P : Program) (C : CallF) (L0 : Value → Value → Value → AHeap → K → Res) (v0 : Value) (v1 : Value) (v5 : Value) (H : AHeap) (k : K) : Res :=
bareK (lenS v0) H fun t8 h1 =>
bareK (xbin P .lss T.int (.tmp 6) (.tmp 8) v5 t8) h1 fun t9 h2 =>
mg t9 true (fun o2 => o2 v5 h2) h2 fun t11 h3 =>
mg t9 true (fun o3 => o3 v1 h3) h3 fun t12 h4 =>
mg t9 true (fun o4 => bareK (xbin P .lss T.int (.tmp 11) (.tmp 12) t11 t12) h4 o4) h4 fun t13 h5 =>
pickK t9 t13 (.bool false) fun t14 =>
mc t14 (fun k5 => k5 .normal [(0, v0), (1, v1), (5, v5)] h5) (fun k5 =>
k5 (.exit 0) [(14, t14), (13, t13), (12, t12), (11, t11), (10, t9), (9, t9), (8, t8), (7, v0), (6, v5), (0, v0), (1, v1), (5, v5)] h5) (seqK (fun tT h6 =>
ms (fun k6 =>
bareK (ixS 4 (get tT 0) (get tT 5)) h6 fun t19 h7 =>
bareK (fad 1 t19) h7 fun t20 h8 =>
bareK (ld1 h8 t20) h8 fun t21 h9 =>
bareK (lenT t21) h9 fun t22 h10 =>
bareK (xbin P .gtr T.int (.tmp 22) (.const (.int .i64 30)) t22 (.int .i64 30)) h10 fun t23 h11 =>
mg t23 false (fun o7 => o7 (get tT 0) h11) h11 fun t25 h12 =>
mg t23 false (fun o8 => o8 (get tT 5) h12) h12 fun t26 h13 =>
mg t23 false (fun o9 => bareK (ixS 4 t25 t26) h13 o9) h13 fun t27 h14 =>
mg t23 false (fun o10 => bareK (fad 2 t27) h14 o10) h14 fun t28 h15 =>
mg t23 false (fun o11 => bareK (ld1 h15 t28) h15 o11) h15 fun t29 h16 =>
mg t23 false (fun o12 => bareK (lenT t29) h16 o12) h16 fun t30 h17 =>
mg t23 false (fun o13 => bareK (xbin P .gtr T.int (.tmp 30) (.const (.int .i64 44)) t30 (.int .i64 44)) h17 o13) h17 fun t31 h18 =>
pickK t23 (.bool true) t31 fun t32 =>
mc t32 (fun k14 => k14 .ret [(4, (.bool false))] h18) (fun k14 =>
k14 .normal [(0, (get tT 0)), (1, (get tT 1)), (5, (get tT 5))] h18) (blkK [0, 1, 5] 1 k6)) (seqK (fun tT_1 h19 =>
bareK (xbin P .add T.int (.tmp 15) (.const (.int .i64 1)) (get tT_1 5) (.int .i64 1)) h19 fun t16 h20 =>
k .normal [(0, (get tT_1 0)), (1, (get tT_1 1)), (5, t16)] h20) (afterK [0, 1, 5] k))) (afterK [0, 1, 5] k))

theorem s_law_small_eq (M : CombL) (C : CallF) (LP : LoopH) (a0 : Value) (a1 : Value) (H : AHeap) : dBodyL M Try.prog hints C LP F.law_small [a0, a1] H = s_law_small M.b.g M.c M.s Try.prog C (fun v0 v1 v5 H k => loopL M Try.prog hints C LP F.law_small 0 [(0, v0), (1, v1), (5, v5)] H k) a0 a1 H (endK Try.prog [.tmp 4]) := by kernel_rfl

theorem s_law_small_b0_eq (M : CombL) (C : CallF) (LP : LoopH) (v0 : Value) (v1 : Value) (v5 : Value) (H : AHeap) (k : K) : bodyL M Try.prog hints C LP F.law_small 0 [(0, v0), (1, v1), (5, v5)] H (afterK [0, 1, 5] k) = s_law_small_b0 M.b.g M.c M.s Try.prog C (fun v0 v1 v5 H k => loopL M Try.prog hints C LP F.law_small 0 [(0, v0), (1, v1), (5, v5)] H k) v0 v1 v5 H k := by kernel_rfl

/-! ticketline.ticketlinelaw45.calls -/

noncomputable def s_law_calls (mg : GT) (mc : CT) (ms : ST) (P : Program) (C : CallF) (a0 : Value) (a1 : Value) (H : AHeap) (K0 : K) : Res :=
bothK (newv T.law_Act a1 H) fun t3 h1 =>
bareK (fad 0 t3) h1 fun t5 h2 =>
bareK (ld1 h2 t5) h2 fun t6 h3 =>
ms (fun k1 =>
bareK (xbin P .eql T.int (.tmp 6) (.const (.int .i64 0)) t6 (.int .i64 0)) h3 fun t8 h4 =>
mc t8 (fun k2 => bareK (fad 1 t3) h4 fun t10 h5 =>
bareK (ld1 h5 t10) h5 fun t11 h6 =>
bareK (fad 2 t3) h6 fun t12 h7 =>
bareK (ld1 h7 t12) h7 fun t13 h8 =>
bareK (fad 3 t3) h8 fun t14 h9 =>
bareK (ld1 h9 t14) h9 fun t15 h10 =>
enterK C F.expire_Store_Put [a0, t11, t13, t15] h10 fun t16 h11 =>
k2 .ret [(4, t16)] h11) (fun k2 =>
bareK (xbin P .eql T.int (.tmp 6) (.const (.int .i64 1)) t6 (.int .i64 1)) h4 fun t18 h12 =>
mc t18 (fun k3 => bareK (fad 1 t3) h12 fun t20 h13 =>
bareK (ld1 h13 t20) h13 fun t21 h14 =>
bareK (fad 3 t3) h14 fun t22 h15 =>
bareK (ld1 h15 t22) h15 fun t23 h16 =>
enterK C F.expire_Store_Extend [a0, t21, t23] h16 fun t24 h17 =>
k3 .ret [(4, t24)] h17) (fun k3 =>
bareK (xbin P .eql T.int (.tmp 6) (.const (.int .i64 2)) t6 (.int .i64 2)) h12 fun t26 h18 =>
mc t26 (fun k4 => bareK (fad 1 t3) h18 fun t28 h19 =>
bareK (ld1 h19 t28) h19 fun t29 h20 =>
enterK C F.expire_Store_Delete [a0, t29] h20 fun t30 h21 =>
k4 .ret [(4, t30)] h21) (fun k4 =>
k4 .normal [(0, a0), (3, t3)] h18) (afterK [0, 3] k3)) (afterK [0, 3] k2)) (blkK [0, 3] 0 k1)) (seqK (fun tT h22 =>
bareK (fad 3 (get tT 3)) h22 fun t32 h23 =>
bareK (ld1 h23 t32) h23 fun t33 h24 =>
enterK C F.expire_Store_Pass [(get tT 0), t33] h24 fun t34 h25 =>
K0 .ret [(4, t34)] h25) K0)

theorem s_law_calls_eq (M : CombL) (C : CallF) (LP : LoopH) (a0 : Value) (a1 : Value) (H : AHeap) : dBodyL M Try.prog hints C LP F.law_calls [a0, a1] H = s_law_calls M.b.g M.c M.s Try.prog C a0 a1 H (endK Try.prog [.tmp 4]) := by kernel_rfl

/-! (*ticketline.expire.Store).Now -/

noncomputable def s_expire_Store_Now (mg : GT) (mc : CT) (ms : ST) (P : Program) (C : CallF) (a0 : Value) (H : AHeap) (K0 : K) : Res :=
bareK (xbin P .eql T.p_expire_Store (.tmp 3) (.const (.pointer none)) a0 (.pointer none)) H fun t4 h1 =>
mc t4 (fun k1 => k1 .ret [(2, (.int .i64 0))] h1) (fun k1 =>
k1 .normal [(0, a0)] h1) (seqK (fun tT h2 =>
bareK (xnilCheck (get tT 0)) h2 fun t6 h3 =>
bareK (fad 2 t6) h3 fun t7 h4 =>
bareK (ld1 h4 t7) h4 fun t8 h5 =>
K0 .ret [(2, t8)] h5) K0)

theorem s_expire_Store_Now_eq (M : CombL) (C : CallF) (LP : LoopH) (a0 : Value) (H : AHeap) : dBodyL M Try.prog hints C LP F.expire_Store_Now [a0] H = s_expire_Store_Now M.b.g M.c M.s Try.prog C a0 H (endK Try.prog [.tmp 2]) := by kernel_rfl

/-! (*ticketline.expire.Store).Get -/

noncomputable def s_expire_Store_Get (mg : GT) (mc : CT) (ms : ST) (P : Program) (C : CallF) (a0 : Value) (a1 : Value) (H : AHeap) (K0 : K) : Res :=
bareK (xbin P .eql T.p_expire_Store (.tmp 9) (.const (.pointer none)) a0 (.pointer none)) H fun t10 h1 =>
mc t10 (fun k1 => k1 .ret [(4, (.string (mk []))), (5, (.int .i64 0)), (6, (.int .i64 1))] h1) (fun k1 =>
k1 .normal [(0, a0), (1, a1)] h1) (seqK (fun tT h2 =>
enterK C F.expire_check [(get tT 1), (.string (mk []))] h2 fun t12 h3 =>
bareK (xbin P .neq T.api_Errno (.tmp 13) (.const (.int .i64 0)) t12 (.int .i64 0)) h3 fun t14 h4 =>
mc t14 (fun k2 => k2 .ret [(4, (.string (mk []))), (5, (.int .i64 0)), (6, t12)] h4) (fun k2 =>
k2 .normal [(0, (get tT 0)), (1, (get tT 1))] h4) (seqK (fun tT_1 h5 =>
bareK (xnilCheck (get tT_1 0)) h5 fun t18 h6 =>
bareK (fad 0 t18) h6 fun t19 h7 =>
enterK C F.model_Model_Get [t19, (get tT_1 1)] h7 fun t21 h8 =>
bareK (xextract t21 0) h8 fun t22 h9 =>
bareK (xextract t21 1) h9 fun t23 h10 =>
bareK (xbin P .neq T.api_Errno (.tmp 24) (.const (.int .i64 0)) t23 (.int .i64 0)) h10 fun t25 h11 =>
mg t25 false (fun o3 => o3 (get tT_1 0) h11) h11 fun t27 h12 =>
mg t25 false (fun o4 => o4 (get tT_1 1) h12) h12 fun t28 h13 =>
mg t25 false (fun o5 => enterK C F.expire_Store_ended [t27, t28] h13 o5) h13 fun t29 h14 =>
pickK t25 (.bool true) t29 fun t30 =>
mc t30 (fun k6 => k6 .ret [(4, (.string (mk []))), (5, (.int .i64 0)), (6, (.int .i64 9))] h14) (fun k6 =>
k6 .normal [(0, (get tT_1 0)), (1, (get tT_1 1)), (8, t22)] h14) (seqK (fun tT_2 h15 =>
bareK (xnilCheck (get tT_2 0)) h15 fun t33 h16 =>
bareK (fad 1 t33) h16 fun t34 h17 =>
bareK (ld1 h17 t34) h17 fun t35 h18 =>
bareK (xlookup P T.map_string_int t35 (get tT_2 1) false h18) h18 fun t37 h19 =>
checkK true <|
K0 .ret [(4, (get tT_2 8)), (5, t37), (6, (.int .i64 0))] h19) K0)) K0)) K0)

theorem s_expire_Store_Get_eq (M : CombL) (C : CallF) (LP : LoopH) (a0 : Value) (a1 : Value) (H : AHeap) : dBodyL M Try.prog hints C LP F.expire_Store_Get [a0, a1] H = s_expire_Store_Get M.b.g M.c M.s Try.prog C a0 a1 H (endK Try.prog [.tmp 4, .tmp 5, .tmp 6]) := by kernel_rfl

/-! (*ticketline.ticketlinelaw45.Model).do -/

noncomputable def s_law_Model_do (mg : GT) (mc : CT) (ms : ST) (P : Program) (C : CallF) (a0 : Value) (a1 : Value) (H : AHeap) (K0 : K) : Res :=
bothK (newv T.law_Act a1 H) fun t3 h1 =>
bareK (fad 0 t3) h1 fun t7 h2 =>
bareK (ld1 h2 t7) h2 fun t8 h3 =>
bareK (xbin P .neq T.int (.tmp 8) (.const (.int .i64 2)) t8 (.int .i64 2)) h3 fun t9 h4 =>
mg t9 true (fun o1 => bareK (fad 3 t3) h4 o1) h4 fun t11 h5 =>
mg t9 true (fun o2 => bareK (ld1 h5 t11) h5 o2) h5 fun t12 h6 =>
mg t9 true (fun o3 => bareK (xbin P .lss T.int (.tmp 12) (.const (.int .i64 0)) t12 (.int .i64 0)) h6 o3) h6 fun t13 h7 =>
mg t9 true (fun o4 => o4 t13 h7) h7 fun t14 h8 =>
mg t14 false (fun o5 => bareK (fad 3 t3) h8 o5) h8 fun t15 h9 =>
mg t14 false (fun o6 => bareK (ld1 h9 t15) h9 o6) h9 fun t16 h10 =>
mg t14 false (fun o7 => bareK (xbin P .gtr T.int (.tmp 16) (.const (.int .i64 1099511627776)) t16 (.int .i64 1099511627776)) h10 o7) h10 fun t17 h11 =>
mg t9 true (fun o8 => pickK t14 (.bool true) t17 fun v => o8 v h11) h11 fun t18 h12 =>
pickK t9 t18 (.bool false) fun t19 =>
mc t19 (fun k9 => k9 .ret [(4, (.int .i64 2))] h12) (fun k9 =>
k9 .normal [(0, a0), (3, t3)] h12) (seqK (fun tT h13 =>
bareK (fad 0 (get tT 3)) h13 fun t20 h14 =>
bareK (ld1 h14 t20) h14 fun t21 h15 =>
bareK (xbin P .eql T.int (.tmp 21) (.const (.int .i64 3)) t21 (.int .i64 3)) h15 fun t22 h16 =>
mc t22 (fun k10 => bareK (fad 3 (get tT 3)) h16 fun t23 h17 =>
bareK (ld1 h17 t23) h17 fun t24 h18 =>
bareK (xnilCheck (get tT 0)) h18 fun t26 h19 =>
bareK (fad 1 t26) h19 fun t27 h20 =>
bareK (ld1 h20 t27) h20 fun t28 h21 =>
bareK (xbin P .lss T.int (.tmp 24) (.tmp 28) t24 t28) h21 fun t29 h22 =>
checkK true <|
mc t29 (fun k11 => k11 .ret [(4, (.int .i64 14))] h22) (fun k11 =>
k11 .normal [(0, (get tT 0)), (3, (get tT 3))] h22) (seqK (fun tT_1 h23 =>
bareK (fad 3 (get tT_1 3)) h23 fun t31 h24 =>
bareK (ld1 h24 t31) h24 fun t32 h25 =>
bareK (xnilCheck (get tT_1 0)) h25 fun t33 h26 =>
bareK (fad 1 t33) h26 fun t34 h27 =>
quietK (st1 h27 t34 t32) fun _ h28 =>
k10 .ret [(4, (.int .i64 0))] h28) (afterK [0, 3] k10))) (fun k10 =>
k10 .normal [(0, (get tT 0)), (3, (get tT 3))] h16) (seqK (fun tT_2 h29 =>
bareK (fad 0 (get tT_2 3)) h29 fun t35 h30 =>
bareK (ld1 h30 t35) h30 fun t36 h31 =>
bareK (xbin P .neq T.int (.tmp 36) (.const (.int .i64 0)) t36 (.int .i64 0)) h31 fun t37 h32 =>
mc t37 (fun k12 => bareK (fad 2 (get tT_2 3)) h32 fun t38 h33 =>
quietK (st1 h33 t38 (.string (mk []))) fun _ h34 =>
k12 .normal [(0, (get tT_2 0)), (3, (get tT_2 3))] h34) (fun k12 =>
k12 .normal [(0, (get tT_2 0)), (3, (get tT_2 3))] h32) (seqK (fun tT_3 h35 =>
bareK (fad 1 (get tT_3 3)) h35 fun t39 h36 =>
bareK (ld1 h36 t39) h36 fun t40 h37 =>
bareK (fad 2 (get tT_3 3)) h37 fun t41 h38 =>
bareK (ld1 h38 t41) h38 fun t42 h39 =>
enterK C F.law_bad [t40, t42] h39 fun t43 h40 =>
bareK (xbin P .neq T.api_Errno (.tmp 44) (.const (.int .i64 0)) t43 (.int .i64 0)) h40 fun t45 h41 =>
mc t45 (fun k13 => k13 .ret [(4, t43)] h41) (fun k13 =>
k13 .normal [(0, (get tT_3 0)), (3, (get tT_3 3))] h41) (seqK (fun tT_4 h42 =>
bareK (fad 1 (get tT_4 3)) h42 fun t48 h43 =>
bareK (ld1 h43 t48) h43 fun t49 h44 =>
enterK C F.law_Model_find [(get tT_4 0), t49] h44 fun t50 h45 =>
ms (fun k14 =>
bareK (fad 0 (get tT_4 3)) h45 fun t58 h46 =>
bareK (ld1 h46 t58) h46 fun t59 h47 =>
bareK (xbin P .neq T.int (.tmp 59) (.const (.int .i64 2)) t59 (.int .i64 2)) h47 fun t60 h48 =>
mg t60 true (fun o15 => bareK (fad 3 (get tT_4 3)) h48 o15) h48 fun t62 h49 =>
mg t60 true (fun o16 => bareK (ld1 h49 t62) h49 o16) h49 fun t63 h50 =>
mg t60 true (fun o17 => bareK (xbin P .neq T.int (.tmp 63) (.const (.int .i64 0)) t63 (.int .i64 0)) h50 o17) h50 fun t64 h51 =>
pickK t60 t64 (.bool false) fun t65 =>
mg t65 true (fun o18 => bareK (fad 3 (get tT_4 3)) h51 o18) h51 fun t67 h52 =>
mg t65 true (fun o19 => bareK (ld1 h52 t67) h52 o19) h52 fun t68 h53 =>
mg t65 true (fun o20 => o20 (get tT_4 0) h53) h53 fun t69 h54 =>
mg t65 true (fun o21 => bareK (xnilCheck t69) h54 o21) h54 fun t70 h55 =>
mg t65 true (fun o22 => bareK (fad 1 t70) h55 o22) h55 fun t71 h56 =>
mg t65 true (fun o23 => bareK (ld1 h56 t71) h56 o23) h56 fun t72 h57 =>
mg t65 true (fun o24 => bareK (xbin P .leq T.int (.tmp 68) (.tmp 72) t68 t72) h57 o24) h57 fun t73 h58 =>
pickK t65 t73 (.bool false) fun t74 =>
checkK true <|
mc t74 (fun k25 => k25 .ret [(4, (.int .i64 14))] h58) (fun k25 =>
bareK (fad 0 (get tT_4 3)) h58 fun t76 h59 =>
bareK (ld1 h59 t76) h59 fun t77 h60 =>
bareK (xbin P .neq T.int (.tmp 77) (.const (.int .i64 0)) t77 (.int .i64 0)) h60 fun t78 h61 =>
mg t78 true (fun o26 => o26 (get tT_4 0) h61) h61 fun t80 h62 =>
mg t78 true (fun o27 => o27 t50 h62) h62 fun t81 h63 =>
mg t78 true (fun o28 => enterK C F.law_Model_alive [t80, t81] h63 o28) h63 fun t82 h64 =>
mg t78 true (fun o29 => bareK (xun P .not t82) h64 o29) h64 fun t83 h65 =>
pickK t78 t83 (.bool false) fun t84 =>
mc t84 (fun k30 => k30 .ret [(4, (.int .i64 9))] h65) (fun k30 =>
bareK (fad 0 (get tT_4 3)) h65 fun t86 h66 =>
bareK (ld1 h66 t86) h66 fun t87 h67 =>
bareK (xbin P .eql T.int (.tmp 87) (.const (.int .i64 0)) t87 (.int .i64 0)) h67 fun t88 h68 =>
mc t88 (fun k31 => bareK (fad 1 (get tT_4 3)) h68 fun t90 h69 =>
bareK (ld1 h69 t90) h69 fun t91 h70 =>
bareK (fad 2 (get tT_4 3)) h70 fun t92 h71 =>
bareK (ld1 h71 t92) h71 fun t93 h72 =>
bareK (fad 3 (get tT_4 3)) h72 fun t94 h73 =>
bareK (ld1 h73 t94) h73 fun t95 h74 =>
bareK (bldS #[(.string (mk [])), (.string (mk [])), (.int .i64 0)] [(0, 1), (1, 1), (2, 1)] [(0, t91), (1, t93), (2, t95)]) h74 fun t96 h75 =>
enterK C F.law_Model_put [(get tT_4 0), t96] h75 fun t97 h76 =>
k31 .normal [] h76) (fun k31 =>
bareK (fad 0 (get tT_4 3)) h68 fun t99 h77 =>
bareK (ld1 h77 t99) h77 fun t100 h78 =>
bareK (xbin P .eql T.int (.tmp 100) (.const (.int .i64 1)) t100 (.int .i64 1)) h78 fun t101 h79 =>
mc t101 (fun k32 => bareK (fad 1 (get tT_4 3)) h79 fun t103 h80 =>
bareK (ld1 h80 t103) h80 fun t104 h81 =>
bareK (xnilCheck (get tT_4 0)) h81 fun t106 h82 =>
bareK (fad 0 t106) h82 fun t107 h83 =>
bareK (ld1 h83 t107) h83 fun t108 h84 =>
bareK (ixS 3 t108 t50) h84 fun t110 h85 =>
bareK (fad 1 t110) h85 fun t111 h86 =>
bareK (ld1 h86 t111) h86 fun t112 h87 =>
bareK (fad 3 (get tT_4 3)) h87 fun t113 h88 =>
bareK (ld1 h88 t113) h88 fun t114 h89 =>
bareK (bldS #[(.string (mk [])), (.string (mk [])), (.int .i64 0)] [(0, 1), (1, 1), (2, 1)] [(0, t104), (1, t112), (2, t114)]) h89 fun t115 h90 =>
enterK C F.law_Model_put [(get tT_4 0), t115] h90 fun t116 h91 =>
checkK true <|
k32 .normal [] h91) (fun k32 =>
enterK C F.law_Model_without [(get tT_4 0), t50] h79 fun t54 h92 =>
bareK (xnilCheck (get tT_4 0)) h92 fun t55 h93 =>
bareK (fad 0 t55) h93 fun t56 h94 =>
quietK (st1 h94 t56 t54) fun _ h95 =>
k32 .normal [] h95) (afterK [] k31)) (afterK [] k30)) (afterK [] k25)) (blkK [] 0 k14)) (seqK (fun tT_5 h96 =>
K0 .ret [(4, (.int .i64 0))] h96) K0)) K0)) K0)) K0)) K0)

theorem s_law_Model_do_eq (M : CombL) (C : CallF) (LP : LoopH) (a0 : Value) (a1 : Value) (H : AHeap) : dBodyL M Try.prog hints C LP F.law_Model_do [a0, a1] H = s_law_Model_do M.b.g M.c M.s Try.prog C a0 a1 H (endK Try.prog [.tmp 4]) := by kernel_rfl

/-! ticketline.ticketlinelaw45.sweeps -/

noncomputable def s_law_sweeps (mg : GT) (mc : CT) (ms : ST) (P : Program) (C : CallF) (L0 : Value → Value → Value → AHeap → K → Res) (a0 : Value) (a1 : Value) (a2 : Value) (a3 : Value) (H : AHeap) (K0 : K) : Res :=
enterK C F.expire_Store_Sweep [a0, a1] H fun t15 h1 =>
bareK (xextract t15 0) h1 fun t16 h2 =>
bareK (xextract t15 1) h2 fun t17 h3 =>
bareK (lenS t16) h3 fun t19 h4 =>
bareK (lenS a2) h4 fun t21 h5 =>
bareK (xbin P .neq T.int (.tmp 19) (.tmp 21) t19 t21) h5 fun t22 h6 =>
mg t22 false (fun o1 => o1 t17 h6) h6 fun t24 h7 =>
mg t22 false (fun o2 => o2 a3 h7) h7 fun t25 h8 =>
mg t22 false (fun o3 => bareK (xbin P .neq T.int (.tmp 24) (.tmp 25) t24 t25) h8 o3) h8 fun t26 h9 =>
pickK t22 (.bool true) t26 fun t27 =>
mc t27 (fun k4 => k4 .ret [(8, (.bool false))] h9) (fun k4 =>
k4 .normal [(2, a2), (9, t16)] h9) (seqK (fun tT h10 =>
ms (fun k5 =>
L0 (get tT 2) (get tT 9) (.int .i64 0) h10 (blkK [] 0 k5)) (seqK (fun tT_1 h11 =>
K0 .ret [(8, (.bool true))] h11) K0)) K0)

noncomputable def s_law_sweeps_b0 (mg : GT) (mc : CT) (ms : ST) (P : Program) (C : CallF) (L0 : Value → Value → Value → AHeap → K → Res) (v2 : Value) (v9 : Value) (v11 : Value) (H : AHeap) (k : K) : Res :=
bareK (lenS v9) H fun t30 h11 =>
bareK (xbin P .lss T.int (.tmp 28) (.tmp 30) v11 t30) h11 fun t31 h12 =>
mc t31 (fun k6 => k6 .normal [(2, v2), (9, v9), (11, v11)] h12) (fun k6 =>
k6 (.exit 0) [(31, t31), (30, t30), (29, v9), (28, v11), (2, v2), (9, v9), (11, v11)] h12) (seqK (fun tT h13 =>
ms (fun k7 =>
bareK (ixS 1 (get tT 9) (get tT 11)) h13 fun t36 h14 =>
bareK (ld1 h14 t36) h14 fun t37 h15 =>
bareK (ixS 1 (get tT 2) (get tT 11)) h15 fun t40 h16 =>
bareK (ld1 h16 t40) h16 fun t41 h17 =>
bareK (xbin P .neq T.string (.tmp 37) (.tmp 41) t37 t41) h17 fun t42 h18 =>
checkK true <|
mc t42 (fun k8 => k8 .ret [(8, (.bool false))] h18) (fun k8 =>
k8 .normal [(2, (get tT 2)), (9, (get tT 9)), (11, (get tT 11))] h18) (blkK [2, 9, 11] 1 k7)) (seqK (fun tT_1 h19 =>
bareK (xbin P .add T.int (.tmp 32) (.const (.int .i64 1)) (get tT_1 11) (.int .i64 1)) h19 fun t33 h20 =>
k .normal [(2, (get tT_1 2)), (9, (get tT_1 9)), (11, t33)] h20) (afterK [2, 9, 11] k))) (afterK [2, 9, 11] k))

theorem s_law_sweeps_eq (M : CombL) (C : CallF) (LP : LoopH) (a0 : Value) (a1 : Value) (a2 : Value) (a3 : Value) (H : AHeap) : dBodyL M Try.prog hints C LP F.law_sweeps [a0, a1, a2, a3] H = s_law_sweeps M.b.g M.c M.s Try.prog C (fun v2 v9 v11 H k => loopL M Try.prog hints C LP F.law_sweeps 0 [(2, v2), (9, v9), (11, v11)] H k) a0 a1 a2 a3 H (endK Try.prog [.tmp 8]) := by kernel_rfl

theorem s_law_sweeps_b0_eq (M : CombL) (C : CallF) (LP : LoopH) (v2 : Value) (v9 : Value) (v11 : Value) (H : AHeap) (k : K) : bodyL M Try.prog hints C LP F.law_sweeps 0 [(2, v2), (9, v9), (11, v11)] H (afterK [2, 9, 11] k) = s_law_sweeps_b0 M.b.g M.c M.s Try.prog C (fun v2 v9 v11 H k => loopL M Try.prog hints C LP F.law_sweeps 0 [(2, v2), (9, v9), (11, v11)] H k) v2 v9 v11 H k := by kernel_rfl

/-! (*ticketline.ticketlinelaw45.Model).waiting -/

noncomputable def s_law_Model_waiting (mg : GT) (mc : CT) (ms : ST) (P : Program) (C : CallF) (L0 : Value → Value → Value → AHeap → K → Res) (L1 : Value → Value → Value → Value → Value → AHeap → K → Res) (L2 : Value → Value → Value → AHeap → K → Res) (a0 : Value) (H : AHeap) (K0 : K) : Res :=
ms (fun k1 =>
L0 a0 (.slice none 0 0) (.int .i64 0) H (blkK [3] 0 k1)) (seqK (fun tT h1 =>
ms (fun k2 =>
L2 (get tT 3) (.slice none 0 0) (.int .i64 0) h1 (blkK [8] 4 k2)) (seqK (fun tT_1 h2 =>
K0 .ret [(2, (get tT_1 8))] h2) K0)) K0)

noncomputable def s_law_Model_waiting_b0 (mg : GT) (mc : CT) (ms : ST) (P : Program) (C : CallF) (L0 : Value → Value → Value → AHeap → K → Res) (L1 : Value → Value → Value → Value → Value → AHeap → K → Res) (L2 : Value → Value → Value → AHeap → K → Res) (v0 : Value) (v3 : Value) (v4 : Value) (H : AHeap) (k : K) : Res :=
bareK (xnilCheck v0) H fun t12 h1 =>
bareK (fad 0 t12) h1 fun t13 h2 =>
bareK (ld1 h2 t13) h2 fun t14 h3 =>
bareK (lenS t14) h3 fun t15 h4 =>
bareK (xbin P .lss T.int (.tmp 10) (.tmp 15) v4 t15) h4 fun t16 h5 =>
mc t16 (fun k2 => k2 .normal [(0, v0), (3, v3), (4, v4)] h5) (fun k2 =>
k2 (.exit 0) [(16, t16), (15, t15), (14, t14), (13, t13), (12, t12), (11, v0), (10, v4), (0, v0), (3, v3), (4, v4)] h5) (seqK (fun tT h6 =>
ms (fun k3 =>
enterK C F.law_Model_alive [(get tT 0), (get tT 4)] h6 fun t21 h7 =>
mc t21 (fun k4 => k4 (.exit 1) ((21, t21) :: (20, (get tT 4)) :: (19, (get tT 0)) :: tT) h7) (fun k4 =>
k4 .normal [(0, (get tT 0)), (3, (get tT 3)), (4, (get tT 4))] h7) (seqK (fun tT_1 h8 =>
bareK (xnilCheck (get tT_1 0)) h8 fun t23 h9 =>
bareK (fad 0 t23) h9 fun t24 h10 =>
bareK (ld1 h10 t24) h10 fun t25 h11 =>
bareK (ixS 3 t25 (get tT_1 4)) h11 fun t27 h12 =>
bareK (ldN 3 h12 t27) h12 fun t28 h13 =>
bothK (newv T.law_Entry (.agg #[(.string (mk [])), (.string (mk [])), (.int .i64 0)]) h13) fun t5 h14 =>
quietK (stN 3 h14 t5 t28) fun _ h15 =>
ms (fun k5 =>
L1 (get tT_1 0) (get tT_1 3) (get tT_1 4) t5 (.int .i64 0) h15 (blkK [0, 3, 4, 5, 6] 2 k5)) (seqK (fun tT_2 h16 =>
bareK (ldN 3 h16 (get tT_2 5)) h16 fun t65 h17 =>
bothK (bldL T.law_Entry [(.string (mk [])), (.string (mk [])), (.int .i64 0)] 1 [(0, t65)] h17) fun t66 h18 =>
bareK (slS T.law_Entry 3 (get tT_2 3) (some (get tT_2 6)) none none h18) h18 fun t69 h19 =>
bothK (app T.law_Entry 3 40 t66 (srcS 3 t69 h19) h19) fun t70 h20 =>
checkK true <|
bareK (slS T.law_Entry 3 (get tT_2 3) none (some (get tT_2 6)) none h20) h20 fun t73 h21 =>
bothK (app T.law_Entry 3 40 (.slice none 0 0) (srcS 3 t73 h21) h21) fun t74 h22 =>
bothK (app T.law_Entry 3 40 t74 (srcS 3 t70 h22) h22) fun t76 h23 =>
k3 .normal [(0, (get tT_2 0)), (3, t76), (4, (get tT_2 4))] h23) (blkK [0, 3, 4] 1 k3))) (blkK [0, 3, 4] 1 k3))) (seqK (fun tT_3 h24 =>
bareK (xbin P .add T.int (.tmp 17) (.const (.int .i64 1)) (get tT_3 4) (.int .i64 1)) h24 fun t18 h25 =>
k .normal [(0, (get tT_3 0)), (3, (get tT_3 3)), (4, t18)] h25) (afterK [0, 3, 4] k))) (afterK [0, 3, 4] k))

noncomputable def s_law_Model_waiting_b1 (mg : GT) (mc : CT) (ms : ST) (P : Program) (C : CallF) (L0 : Value → Value → Value → AHeap → K → Res) (L1 : Value → Value → Value → Value → Value → AHeap → K → Res) (L2 : Value → Value → Value → AHeap → K → Res) (v0 : Value) (v3 : Value) (v4 : Value) (v5 : Value) (v6 : Value) (H : AHeap) (k : K) : Res :=
bareK (lenS v3) H fun t31 h16 =>
bareK (xbin P .lss T.int (.tmp 29) (.tmp 31) v6 t31) h16 fun t32 h17 =>
mg t32 true (fun o6 => o6 v3 h17) h17 fun t34 h18 =>
mg t32 true (fun o7 => o7 v6 h18) h18 fun t35 h19 =>
mg t32 true (fun o8 => bareK (ixS 3 t34 t35) h19 o8) h19 fun t36 h20 =>
mg t32 true (fun o9 => bareK (fad 2 t36) h20 o9) h20 fun t37 h21 =>
mg t32 true (fun o10 => bareK (ld1 h21 t37) h21 o10) h21 fun t38 h22 =>
mg t32 true (fun o11 => bareK (fad 2 v5) h22 o11) h22 fun t39 h23 =>
mg t32 true (fun o12 => bareK (ld1 h23 t39) h23 o12) h23 fun t40 h24 =>
mg t32 true (fun o13 => bareK (xbin P .lss T.int (.tmp 38) (.tmp 40) t38 t40) h24 o13) h24 fun t41 h25 =>
mg t32 true (fun o14 => o14 t41 h25) h25 fun t42 h26 =>
mg t42 false (fun o15 => o15 v3 h26) h26 fun t43 h27 =>
mg t42 false (fun o16 => o16 v6 h27) h27 fun t44 h28 =>
mg t42 false (fun o17 => bareK (ixS 3 t43 t44) h28 o17) h28 fun t45 h29 =>
mg t42 false (fun o18 => bareK (fad 2 t45) h29 o18) h29 fun t46 h30 =>
mg t42 false (fun o19 => bareK (ld1 h30 t46) h30 o19) h30 fun t47 h31 =>
mg t42 false (fun o20 => bareK (fad 2 v5) h31 o20) h31 fun t48 h32 =>
mg t42 false (fun o21 => bareK (ld1 h32 t48) h32 o21) h32 fun t49 h33 =>
mg t42 false (fun o22 => bareK (xbin P .eql T.int (.tmp 47) (.tmp 49) t47 t49) h33 o22) h33 fun t50 h34 =>
mg t42 false (fun o23 => o23 t50 h34) h34 fun t51 h35 =>
mg t51 true (fun o24 => o24 v3 h35) h35 fun t52 h36 =>
mg t51 true (fun o25 => o25 v6 h36) h36 fun t53 h37 =>
mg t51 true (fun o26 => bareK (ixS 3 t52 t53) h37 o26) h37 fun t54 h38 =>
mg t51 true (fun o27 => bareK (fad 0 t54) h38 o27) h38 fun t55 h39 =>
mg t51 true (fun o28 => bareK (ld1 h39 t55) h39 o28) h39 fun t56 h40 =>
mg t51 true (fun o29 => bareK (fad 0 v5) h40 o29) h40 fun t57 h41 =>
mg t51 true (fun o30 => bareK (ld1 h41 t57) h41 o30) h41 fun t58 h42 =>
mg t51 true (fun o31 => bareK (xbin P .lss T.string (.tmp 56) (.tmp 58) t56 t58) h42 o31) h42 fun t59 h43 =>
mg t42 false (fun o32 => pickK t51 t59 (.bool false) fun v => o32 v h43) h43 fun t60 h44 =>
mg t32 true (fun o33 => pickK t42 (.bool true) t60 fun v => o33 v h44) h44 fun t61 h45 =>
pickK t32 t61 (.bool false) fun t62 =>
checkK true <|
mc t62 (fun k34 => k34 .normal [(0, v0), (3, v3), (4, v4), (5, v5), (6, v6)] h45) (fun k34 =>
k34 (.exit 2) [(62, t62), (61, t61), (60, t60), (59, t59), (58, t58), (57, t57), (56, t56), (55, t55), (54, t54), (53, t53), (52, t52), (51, t51), (50, t50), (49, t49), (48, t48), (47, t47), (46, t46), (45, t45), (44, t44), (43, t43), (42, t42), (41, t41), (40, t40), (39, t39), (38, t38), (37, t37), (36, t36), (35, t35), (34, t34), (33, t32), (32, t32), (31, t31), (30, v3), (29, v6), (0, v0), (3, v3), (4, v4), (5, v5), (6, v6)] h45) (seqK (fun tT h46 =>
ms (fun k35 =>
bareK (xbin P .add T.int (.tmp 63) (.const (.int .i64 1)) (get tT 6) (.int .i64 1)) h46 fun t64 h47 =>
k35 .normal [(0, (get tT 0)), (3, (get tT 3)), (4, (get tT 4)), (5, (get tT 5)), (6, t64)] h47) (afterK [0, 3, 4, 5, 6] k)) (afterK [0, 3, 4, 5, 6] k))

noncomputable def s_law_Model_waiting_b2 (mg : GT) (mc : CT) (ms : ST) (P : Program) (C : CallF) (L0 : Value → Value → Value → AHeap → K → Res) (L1 : Value → Value → Value → Value → Value → AHeap → K → Res) (L2 : Value → Value → Value → AHeap → K → Res) (v3 : Value) (v8 : Value) (v9 : Value) (H : AHeap) (k : K) : Res :=
bareK (lenS v3) H fun t79 h2 =>
bareK (xbin P .lss T.int (.tmp 77) (.tmp 79) v9 t79) h2 fun t80 h3 =>
mc t80 (fun k3 => k3 .normal [(3, v3), (8, v8), (9, v9)] h3) (fun k3 =>
k3 (.exit 4) [(80, t80), (79, t79), (78, v3), (77, v9), (3, v3), (8, v8), (9, v9)] h3) (seqK (fun tT h4 =>
ms (fun k4 =>
bareK (ixS 3 (get tT 3) (get tT 9)) h4 fun t86 h5 =>
bareK (fad 0 t86) h5 fun t87 h6 =>
bareK (ld1 h6 t87) h6 fun t88 h7 =>
bothK (bldL T.string [(.string (mk []))] 1 [(0, t88)] h7) fun t89 h8 =>
bothK (app T.string 1 16 (get tT 8) (srcS 1 t89 h8) h8) fun t90 h9 =>
k4 .normal [(3, (get tT 3)), (8, t90), (9, (get tT 9))] h9) (seqK (fun tT_1 h10 =>
bareK (xbin P .add T.int (.tmp 81) (.const (.int .i64 1)) (get tT_1 9) (.int .i64 1)) h10 fun t82 h11 =>
k .normal [(3, (get tT_1 3)), (8, (get tT_1 8)), (9, t82)] h11) (afterK [3, 8, 9] k))) (afterK [3, 8, 9] k))

theorem s_law_Model_waiting_eq (M : CombL) (C : CallF) (LP : LoopH) (a0 : Value) (H : AHeap) : dBodyL M Try.prog hints C LP F.law_Model_waiting [a0] H = s_law_Model_waiting M.b.g M.c M.s Try.prog C (fun v0 v3 v4 H k => loopL M Try.prog hints C LP F.law_Model_waiting 0 [(0, v0), (3, v3), (4, v4)] H k) (fun v0 v3 v4 v5 v6 H k => loopL M Try.prog hints C LP F.law_Model_waiting 1 [(0, v0), (3, v3), (4, v4), (5, v5), (6, v6)] H k) (fun v3 v8 v9 H k => loopL M Try.prog hints C LP F.law_Model_waiting 2 [(3, v3), (8, v8), (9, v9)] H k) a0 H (endK Try.prog [.tmp 2]) := by kernel_rfl

theorem s_law_Model_waiting_b0_eq (M : CombL) (C : CallF) (LP : LoopH) (v0 : Value) (v3 : Value) (v4 : Value) (H : AHeap) (k : K) : bodyL M Try.prog hints C LP F.law_Model_waiting 0 [(0, v0), (3, v3), (4, v4)] H (afterK [0, 3, 4] k) = s_law_Model_waiting_b0 M.b.g M.c M.s Try.prog C (fun v0 v3 v4 H k => loopL M Try.prog hints C LP F.law_Model_waiting 0 [(0, v0), (3, v3), (4, v4)] H k) (fun v0 v3 v4 v5 v6 H k => loopL M Try.prog hints C LP F.law_Model_waiting 1 [(0, v0), (3, v3), (4, v4), (5, v5), (6, v6)] H k) (fun v3 v8 v9 H k => loopL M Try.prog hints C LP F.law_Model_waiting 2 [(3, v3), (8, v8), (9, v9)] H k) v0 v3 v4 H k := by kernel_rfl

theorem s_law_Model_waiting_b1_eq (M : CombL) (C : CallF) (LP : LoopH) (v0 : Value) (v3 : Value) (v4 : Value) (v5 : Value) (v6 : Value) (H : AHeap) (k : K) : bodyL M Try.prog hints C LP F.law_Model_waiting 1 [(0, v0), (3, v3), (4, v4), (5, v5), (6, v6)] H (afterK [0, 3, 4, 5, 6] k) = s_law_Model_waiting_b1 M.b.g M.c M.s Try.prog C (fun v0 v3 v4 H k => loopL M Try.prog hints C LP F.law_Model_waiting 0 [(0, v0), (3, v3), (4, v4)] H k) (fun v0 v3 v4 v5 v6 H k => loopL M Try.prog hints C LP F.law_Model_waiting 1 [(0, v0), (3, v3), (4, v4), (5, v5), (6, v6)] H k) (fun v3 v8 v9 H k => loopL M Try.prog hints C LP F.law_Model_waiting 2 [(3, v3), (8, v8), (9, v9)] H k) v0 v3 v4 v5 v6 H k := by kernel_rfl

theorem s_law_Model_waiting_b2_eq (M : CombL) (C : CallF) (LP : LoopH) (v3 : Value) (v8 : Value) (v9 : Value) (H : AHeap) (k : K) : bodyL M Try.prog hints C LP F.law_Model_waiting 2 [(3, v3), (8, v8), (9, v9)] H (afterK [3, 8, 9] k) = s_law_Model_waiting_b2 M.b.g M.c M.s Try.prog C (fun v0 v3 v4 H k => loopL M Try.prog hints C LP F.law_Model_waiting 0 [(0, v0), (3, v3), (4, v4)] H k) (fun v0 v3 v4 v5 v6 H k => loopL M Try.prog hints C LP F.law_Model_waiting 1 [(0, v0), (3, v3), (4, v4), (5, v5), (6, v6)] H k) (fun v3 v8 v9 H k => loopL M Try.prog hints C LP F.law_Model_waiting 2 [(3, v3), (8, v8), (9, v9)] H k) v3 v8 v9 H k := by kernel_rfl

/-! (*ticketline.ticketlinelaw45.Model).without -/

noncomputable def s_law_Model_without (mg : GT) (mc : CT) (ms : ST) (P : Program) (C : CallF) (a0 : Value) (a1 : Value) (H : AHeap) (K0 : K) : Res :=
bareK (xbin P .lss T.int (.tmp 5) (.const (.int .i64 0)) a1 (.int .i64 0)) H fun t6 h1 =>
mc t6 (fun k1 => bareK (xnilCheck a0) h1 fun t8 h2 =>
bareK (fad 0 t8) h2 fun t9 h3 =>
bareK (ld1 h3 t9) h3 fun t10 h4 =>
k1 .ret [(4, t10)] h4) (fun k1 =>
k1 .normal [(0, a0), (1, a1)] h1) (seqK (fun tT h5 =>
bareK (xnilCheck (get tT 0)) h5 fun t12 h6 =>
bareK (fad 0 t12) h6 fun t13 h7 =>
bareK (ld1 h7 t13) h7 fun t14 h8 =>
bareK (slS T.law_Entry 3 t14 none (some (get tT 1)) none h8) h8 fun t16 h9 =>
bothK (app T.law_Entry 3 40 (.slice none 0 0) (srcS 3 t16 h9) h9) fun t17 h10 =>
bareK (xnilCheck (get tT 0)) h10 fun t19 h11 =>
bareK (fad 0 t19) h11 fun t20 h12 =>
bareK (ld1 h12 t20) h12 fun t21 h13 =>
bareK (xbin P .add T.int (.tmp 22) (.const (.int .i64 1)) (get tT 1) (.int .i64 1)) h13 fun t23 h14 =>
bareK (slS T.law_Entry 3 t21 (some t23) none none h14) h14 fun t24 h15 =>
bothK (app T.law_Entry 3 40 t17 (srcS 3 t24 h15) h15) fun t25 h16 =>
checkK (okV (some true) none h9 h10 h10 h10 && (okV (some true) none h9 h10 h10 h11 && (okV (some true) none h9 h10 h11 h12 && (okV (some true) (blockOf t20) h9 h10 h12 h13 && (okV (some true) none h9 h10 h13 h13 && (okV (some true) none h9 h10 h13 h14 && (okV (some true) (blockOf t21) h9 h10 h14 h15 && true))))))) <|
K0 .ret [(4, t25)] h16) K0)

theorem s_law_Model_without_eq (M : CombL) (C : CallF) (LP : LoopH) (a0 : Value) (a1 : Value) (H : AHeap) : dBodyL M Try.prog hints C LP F.law_Model_without [a0, a1] H = s_law_Model_without M.b.g M.c M.s Try.prog C a0 a1 H (endK Try.prog [.tmp 4]) := by kernel_rfl

/-! (*ticketline.ticketlinelaw45.Model).find -/

noncomputable def s_law_Model_find (mg : GT) (mc : CT) (ms : ST) (P : Program) (C : CallF) (L0 : Value → Value → Value → AHeap → K → Res) (a0 : Value) (a1 : Value) (H : AHeap) (K0 : K) : Res :=
ms (fun k1 =>
L0 a0 a1 (.int .i64 0) H (blkK [] 0 k1)) (seqK (fun tT h1 =>
K0 .ret [(4, (.int .i64 (-1)))] h1) K0)

noncomputable def s_law_Model_find_b0 (mg : GT) (mc : CT) (ms : ST) (P : Program) (C : CallF) (L0 : Value → Value → Value → AHeap → K → Res) (v0 : Value) (v1 : Value) (v5 : Value) (H : AHeap) (k : K) : Res :=
bareK (xnilCheck v0) H fun t8 h1 =>
bareK (fad 0 t8) h1 fun t9 h2 =>
bareK (ld1 h2 t9) h2 fun t10 h3 =>
bareK (lenS t10) h3 fun t11 h4 =>
bareK (xbin P .lss T.int (.tmp 6) (.tmp 11) v5 t11) h4 fun t12 h5 =>
mc t12 (fun k2 => k2 .normal [(0, v0), (1, v1), (5, v5)] h5) (fun k2 =>
k2 (.exit 0) [(12, t12), (11, t11), (10, t10), (9, t9), (8, t8), (7, v0), (6, v5), (0, v0), (1, v1), (5, v5)] h5) (seqK (fun tT h6 =>
ms (fun k3 =>
bareK (xnilCheck (get tT 0)) h6 fun t16 h7 =>
bareK (fad 0 t16) h7 fun t17 h8 =>
bareK (ld1 h8 t17) h8 fun t18 h9 =>
bareK (ixS 3 t18 (get tT 5)) h9 fun t20 h10 =>
bareK (fad 0 t20) h10 fun t21 h11 =>
bareK (ld1 h11 t21) h11 fun t22 h12 =>
bareK (xbin P .eql T.string (.tmp 22) (.tmp 23) t22 (get tT 1)) h12 fun t24 h13 =>
mc t24 (fun k4 => k4 .ret [(4, (get tT 5))] h13) (fun k4 =>
k4 .normal [(0, (get tT 0)), (1, (get tT 1)), (5, (get tT 5))] h13) (blkK [0, 1, 5] 1 k3)) (seqK (fun tT_1 h14 =>
bareK (xbin P .add T.int (.tmp 13) (.const (.int .i64 1)) (get tT_1 5) (.int .i64 1)) h14 fun t14 h15 =>
k .normal [(0, (get tT_1 0)), (1, (get tT_1 1)), (5, t14)] h15) (afterK [0, 1, 5] k))) (afterK [0, 1, 5] k))

theorem s_law_Model_find_eq (M : CombL) (C : CallF) (LP : LoopH) (a0 : Value) (a1 : Value) (H : AHeap) : dBodyL M Try.prog hints C LP F.law_Model_find [a0, a1] H = s_law_Model_find M.b.g M.c M.s Try.prog C (fun v0 v1 v5 H k => loopL M Try.prog hints C LP F.law_Model_find 0 [(0, v0), (1, v1), (5, v5)] H k) a0 a1 H (endK Try.prog [.tmp 4]) := by kernel_rfl

theorem s_law_Model_find_b0_eq (M : CombL) (C : CallF) (LP : LoopH) (v0 : Value) (v1 : Value) (v5 : Value) (H : AHeap) (k : K) : bodyL M Try.prog hints C LP F.law_Model_find 0 [(0, v0), (1, v1), (5, v5)] H (afterK [0, 1, 5] k) = s_law_Model_find_b0 M.b.g M.c M.s Try.prog C (fun v0 v1 v5 H k => loopL M Try.prog hints C LP F.law_Model_find 0 [(0, v0), (1, v1), (5, v5)] H k) v0 v1 v5 H k := by kernel_rfl

/-! ticketline.ticketlinelaw45.bad -/

noncomputable def s_law_bad (mg : GT) (mc : CT) (ms : ST) (P : Program) (C : CallF) (a0 : Value) (a1 : Value) (H : AHeap) (K0 : K) : Res :=
ms (fun k1 =>
bareK (lenT a0) H fun t7 h1 =>
bareK (xbin P .eql T.int (.tmp 7) (.const (.int .i64 0)) t7 (.int .i64 0)) h1 fun t8 h2 =>
mc t8 (fun k2 => k2 .ret [(4, (.int .i64 2))] h2) (fun k2 =>
bareK (lenT a0) h2 fun t11 h3 =>
bareK (xbin P .gtr T.int (.tmp 11) (.const (.int .i64 24)) t11 (.int .i64 24)) h3 fun t12 h4 =>
mg t12 false (fun o3 => o3 a1 h4) h4 fun t14 h5 =>
mg t12 false (fun o4 => bareK (lenT t14) h5 o4) h5 fun t15 h6 =>
mg t12 false (fun o5 => bareK (xbin P .gtr T.int (.tmp 15) (.const (.int .i64 40)) t15 (.int .i64 40)) h6 o5) h6 fun t16 h7 =>
pickK t12 (.bool true) t16 fun t17 =>
mc t17 (fun k6 => k6 .ret [(4, (.int .i64 5))] h7) (fun k6 =>
k6 .normal [] h7) (afterK [] k2)) (blkK [] 0 k1)) (seqK (fun tT h8 =>
K0 .ret [(4, (.int .i64 0))] h8) K0)

theorem s_law_bad_eq (M : CombL) (C : CallF) (LP : LoopH) (a0 : Value) (a1 : Value) (H : AHeap) : dBodyL M Try.prog hints C LP F.law_bad [a0, a1] H = s_law_bad M.b.g M.c M.s Try.prog C a0 a1 H (endK Try.prog [.tmp 4]) := by kernel_rfl

/-! (*ticketline.ticketlinelaw45.Model).alive -/

noncomputable def s_law_Model_alive (mg : GT) (mc : CT) (ms : ST) (P : Program) (C : CallF) (a0 : Value) (a1 : Value) (H : AHeap) (K0 : K) : Res :=
bareK (xbin P .geq T.int (.tmp 5) (.const (.int .i64 0)) a1 (.int .i64 0)) H fun t6 h1 =>
mg t6 true (fun o1 => o1 a0 h1) h1 fun t8 h2 =>
mg t6 true (fun o2 => bareK (xnilCheck t8) h2 o2) h2 fun t9 h3 =>
mg t6 true (fun o3 => bareK (fad 0 t9) h3 o3) h3 fun t10 h4 =>
mg t6 true (fun o4 => bareK (ld1 h4 t10) h4 o4) h4 fun t11 h5 =>
mg t6 true (fun o5 => o5 a1 h5) h5 fun t12 h6 =>
mg t6 true (fun o6 => bareK (ixS 3 t11 t12) h6 o6) h6 fun t13 h7 =>
mg t6 true (fun o7 => bareK (fad 2 t13) h7 o7) h7 fun t14 h8 =>
mg t6 true (fun o8 => bareK (ld1 h8 t14) h8 o8) h8 fun t15 h9 =>
mg t6 true (fun o9 => bareK (xbin P .eql T.int (.tmp 15) (.const (.int .i64 0)) t15 (.int .i64 0)) h9 o9) h9 fun t16 h10 =>
mg t6 true (fun o10 => o10 t16 h10) h10 fun t17 h11 =>
mg t17 false (fun o11 => o11 a0 h11) h11 fun t18 h12 =>
mg t17 false (fun o12 => bareK (xnilCheck t18) h12 o12) h12 fun t19 h13 =>
mg t17 false (fun o13 => bareK (fad 0 t19) h13 o13) h13 fun t20 h14 =>
mg t17 false (fun o14 => bareK (ld1 h14 t20) h14 o14) h14 fun t21 h15 =>
mg t17 false (fun o15 => o15 a1 h15) h15 fun t22 h16 =>
mg t17 false (fun o16 => bareK (ixS 3 t21 t22) h16 o16) h16 fun t23 h17 =>
mg t17 false (fun o17 => bareK (fad 2 t23) h17 o17) h17 fun t24 h18 =>
mg t17 false (fun o18 => bareK (ld1 h18 t24) h18 o18) h18 fun t25 h19 =>
mg t17 false (fun o19 => o19 a0 h19) h19 fun t26 h20 =>
mg t17 false (fun o20 => bareK (xnilCheck t26) h20 o20) h20 fun t27 h21 =>
mg t17 false (fun o21 => bareK (fad 1 t27) h21 o21) h21 fun t28 h22 =>
mg t17 false (fun o22 => bareK (ld1 h22 t28) h22 o22) h22 fun t29 h23 =>
mg t17 false (fun o23 => bareK (xbin P .gtr T.int (.tmp 25) (.tmp 29) t25 t29) h23 o23) h23 fun t30 h24 =>
mg t6 true (fun o24 => pickK t17 (.bool true) t30 fun v => o24 v h24) h24 fun t31 h25 =>
pickK t6 t31 (.bool false) fun t32 =>
checkK true <|
K0 .ret [(4, t32)] h25

theorem s_law_Model_alive_eq (M : CombL) (C : CallF) (LP : LoopH) (a0 : Value) (a1 : Value) (H : AHeap) : dBodyL M Try.prog hints C LP F.law_Model_alive [a0, a1] H = s_law_Model_alive M.b.g M.c M.s Try.prog C a0 a1 H (endK Try.prog [.tmp 4]) := by kernel_rfl

/-! ticketline.ticketlinelaw45.gets -/

noncomputable def s_law_gets (mg : GT) (mc : CT) (ms : ST) (P : Program) (C : CallF) (a0 : Value) (a1 : Value) (a2 : Value) (a3 : Value) (a4 : Value) (H : AHeap) (K0 : K) : Res :=
enterK C F.expire_Store_Get [a0, a1] H fun t17 h1 =>
bareK (xextract t17 0) h1 fun t18 h2 =>
bareK (xextract t17 1) h2 fun t19 h3 =>
bareK (xextract t17 2) h3 fun t20 h4 =>
bareK (xbin P .eql T.string (.tmp 21) (.tmp 22) t18 a2) h4 fun t23 h5 =>
mg t23 true (fun o1 => o1 t19 h5) h5 fun t25 h6 =>
mg t23 true (fun o2 => o2 a3 h6) h6 fun t26 h7 =>
mg t23 true (fun o3 => bareK (xbin P .eql T.int (.tmp 25) (.tmp 26) t25 t26) h7 o3) h7 fun t27 h8 =>
pickK t23 t27 (.bool false) fun t28 =>
mg t28 true (fun o4 => o4 t20 h8) h8 fun t30 h9 =>
mg t28 true (fun o5 => o5 a4 h9) h9 fun t31 h10 =>
mg t28 true (fun o6 => bareK (xbin P .eql T.int (.tmp 30) (.tmp 31) t30 t31) h10 o6) h10 fun t32 h11 =>
pickK t28 t32 (.bool false) fun t33 =>
K0 .ret [(10, t33)] h11

theorem s_law_gets_eq (M : CombL) (C : CallF) (LP : LoopH) (a0 : Value) (a1 : Value) (a2 : Value) (a3 : Value) (a4 : Value) (H : AHeap) : dBodyL M Try.prog hints C LP F.law_gets [a0, a1, a2, a3, a4] H = s_law_gets M.b.g M.c M.s Try.prog C a0 a1 a2 a3 a4 H (endK Try.prog [.tmp 10]) := by kernel_rfl

/-! ticketline.ticketlinelaw45.alike -/

noncomputable def s_law_alike (mg : GT) (mc : CT) (ms : ST) (P : Program) (C : CallF) (L0 : Value → Value → Value → Value → Value → AHeap → K → Res) (L1 : Value → Value → Value → Value → AHeap → K → Res) (L2 : Value → Value → Value → Value → Value → Value → AHeap → K → Res) (a0 : Value) (a1 : Value) (H : AHeap) (K0 : K) : Res :=
bareK (xbin P .eql T.p_expire_Store (.tmp 12) (.const (.pointer none)) a0 (.pointer none)) H fun t13 h1 =>
mg t13 false (fun o1 => o1 a0 h1) h1 fun t15 h2 =>
mg t13 false (fun o2 => enterK C F.expire_Store_Now [t15] h2 o2) h2 fun t16 h3 =>
mg t13 false (fun o3 => o3 a1 h3) h3 fun t17 h4 =>
mg t13 false (fun o4 => bareK (xnilCheck t17) h4 o4) h4 fun t18 h5 =>
mg t13 false (fun o5 => bareK (fad 1 t18) h5 o5) h5 fun t19 h6 =>
mg t13 false (fun o6 => bareK (ld1 h6 t19) h6 o6) h6 fun t20 h7 =>
mg t13 false (fun o7 => bareK (xbin P .neq T.int (.tmp 16) (.tmp 20) t16 t20) h7 o7) h7 fun t21 h8 =>
pickK t13 (.bool true) t21 fun t22 =>
mg t22 false (fun o8 => o8 a0 h8) h8 fun t24 h9 =>
mg t22 false (fun o9 => enterK C F.expire_Store_Waiting [t24] h9 o9) h9 fun t25 h10 =>
mg t22 false (fun o10 => o10 a1 h10) h10 fun t26 h11 =>
mg t22 false (fun o11 => enterK C F.law_Model_waiting [t26] h11 o11) h11 fun t27 h12 =>
mg t22 false (fun o12 => bareK (lenS t27) h12 o12) h12 fun t28 h13 =>
mg t22 false (fun o13 => bareK (xbin P .neq T.int (.tmp 25) (.tmp 28) t25 t28) h13 o13) h13 fun t29 h14 =>
pickK t22 (.bool true) t29 fun t30 =>
mg t30 false (fun o14 => o14 a0 h14) h14 fun t32 h15 =>
mg t30 false (fun o15 => enterK C F.expire_Store_Len [t32] h15 o15) h15 fun t33 h16 =>
mg t30 false (fun o16 => o16 a1 h16) h16 fun t34 h17 =>
mg t30 false (fun o17 => bareK (xnilCheck t34) h17 o17) h17 fun t35 h18 =>
mg t30 false (fun o18 => bareK (fad 0 t35) h18 o18) h18 fun t36 h19 =>
mg t30 false (fun o19 => bareK (ld1 h19 t36) h19 o19) h19 fun t37 h20 =>
mg t30 false (fun o20 => bareK (lenS t37) h20 o20) h20 fun t38 h21 =>
mg t30 false (fun o21 => o21 a1 h21) h21 fun t39 h22 =>
mg t30 false (fun o22 => enterK C F.law_Model_waiting [t39] h22 o22) h22 fun t40 h23 =>
mg t30 false (fun o23 => bareK (lenS t40) h23 o23) h23 fun t41 h24 =>
mg t30 false (fun o24 => bareK (xbin P .sub T.int (.tmp 38) (.tmp 41) t38 t41) h24 o24) h24 fun t42 h25 =>
mg t30 false (fun o25 => bareK (xbin P .neq T.int (.tmp 33) (.tmp 42) t33 t42) h25 o25) h25 fun t43 h26 =>
pickK t30 (.bool true) t43 fun t44 =>
checkK (okV (goesV t13 false) none h2 h3 h3 h4 && (okV (goesV t13 false) none h2 h3 h4 h5 && (okV (goesV t13 false) none h2 h3 h5 h6 && (okV (goesV t13 false) (blockOf t19) h2 h3 h6 h7 && (okV (goesV t22 false) none h9 h10 h10 h11 && (okV (goesV t30 false) none h15 h16 h16 h17 && (okV (goesV t30 false) none h15 h16 h17 h18 && (okV (goesV t30 false) none h15 h16 h18 h19 && (okV (goesV t30 false) (blockOf t36) h15 h16 h19 h20 && (okV (goesV t30 false) none h15 h16 h20 h21 && (okV (goesV t30 false) none h15 h16 h21 h22 && (okV (goesV t30 false) none h22 h23 h16 h17 && (okV (goesV t30 false) none h22 h23 h17 h18 && (okV (goesV t30 false) none h22 h23 h18 h19 && (okV (goesV t30 false) (blockOf t36) h22 h23 h19 h20 && (okV (goesV t30 false) none h22 h23 h20 h21 && true)))))))))))))))) <|
mc t44 (fun k26 => k26 .ret [(4, (.bool false))] h26) (fun k26 =>
k26 .normal [(0, a0), (1, a1)] h26) (seqK (fun tT h27 =>
ms (fun k27 =>
L0 (get tT 0) (get tT 1) (.int .i64 0) (.slice none 0 0) (.int .i64 0) h27 (blkK [0, 5, 6] 0 k27)) (seqK (fun tT_1 h28 =>
ms (fun k28 =>
L1 (get tT_1 0) (get tT_1 5) (get tT_1 6) (.int .i64 0) h28 (blkK [0, 5] 2 k28)) (seqK (fun tT_2 h29 =>
enterK C F.expire_Store_Next [(get tT_2 0)] h29 fun t133 h30 =>
bareK (xbin P .eql T.int (.tmp 133) (.tmp 134) t133 (get tT_2 5)) h30 fun t135 h31 =>
K0 .ret [(4, t135)] h31) K0)) K0)) K0)

noncomputable def s_law_alike_b0 (mg : GT) (mc : CT) (ms : ST) (P : Program) (C : CallF) (L0 : Value → Value → Value → Value → Value → AHeap → K → Res) (L1 : Value → Value → Value → Value → AHeap → K → Res) (L2 : Value → Value → Value → Value → Value → Value → AHeap → K → Res) (v0 : Value) (v1 : Value) (v5 : Value) (v6 : Value) (v7 : Value) (H : AHeap) (k : K) : Res :=
bareK (xnilCheck v1) H fun t47 h28 =>
bareK (fad 0 t47) h28 fun t48 h29 =>
bareK (ld1 h29 t48) h29 fun t49 h30 =>
bareK (lenS t49) h30 fun t50 h31 =>
bareK (xbin P .lss T.int (.tmp 45) (.tmp 50) v7 t50) h31 fun t51 h32 =>
mc t51 (fun k28 => k28 .normal [(0, v0), (1, v1), (5, v5), (6, v6), (7, v7)] h32) (fun k28 =>
k28 (.exit 0) [(51, t51), (50, t50), (49, t49), (48, t48), (47, t47), (46, v1), (45, v7), (0, v0), (1, v1), (5, v5), (6, v6), (7, v7)] h32) (seqK (fun tT h33 =>
ms (fun k29 =>
bareK (xnilCheck (get tT 1)) h33 fun t55 h34 =>
bareK (fad 0 t55) h34 fun t56 h35 =>
bareK (ld1 h35 t56) h35 fun t57 h36 =>
bareK (ixS 3 t57 (get tT 7)) h36 fun t59 h37 =>
bareK (ldN 3 h37 t59) h37 fun t60 h38 =>
bothK (newv T.law_Entry (.agg #[(.string (mk [])), (.string (mk [])), (.int .i64 0)]) h38) fun t8 h39 =>
quietK (stN 3 h39 t8 t60) fun _ h40 =>
enterK C F.law_Model_alive [(get tT 1), (get tT 7)] h40 fun t63 h41 =>
bareK (xun P .not t63) h41 fun t64 h42 =>
mc t64 (fun k30 => bareK (fad 0 t8) h42 fun t66 h43 =>
bareK (ld1 h43 t66) h43 fun t67 h44 =>
enterK C F.law_gets [(get tT 0), t67, (.string (mk [])), (.int .i64 0), (.int .i64 9)] h44 fun t68 h45 =>
bareK (xun P .not t68) h45 fun t69 h46 =>
mc t69 (fun k31 => k31 .ret [(4, (.bool false))] h46) (fun k31 =>
k31 .normal [(0, (get tT 0)), (1, (get tT 1)), (5, (get tT 5)), (6, (get tT 6)), (7, (get tT 7))] h46) (seqK (fun tT_1 h47 =>
k30 (.exit 1) (tT_1) h47) (afterK [0, 1, 5, 6, 7, 8] k30))) (fun k30 =>
k30 .normal [(0, (get tT 0)), (1, (get tT 1)), (5, (get tT 5)), (6, (get tT 6)), (7, (get tT 7)), (8, t8)] h42) (seqK (fun tT_2 h48 =>
bareK (fad 0 (get tT_2 8)) h48 fun t71 h49 =>
bareK (ld1 h49 t71) h49 fun t72 h50 =>
bareK (fad 1 (get tT_2 8)) h50 fun t73 h51 =>
bareK (ld1 h51 t73) h51 fun t74 h52 =>
bareK (bldS #[(.string (mk [])), (.string (mk []))] [(0, 1), (1, 1)] [(0, t72), (1, t74)]) h52 fun t75 h53 =>
bothK (bldL T.api_Pair [(.string (mk [])), (.string (mk []))] 1 [(0, t75)] h53) fun t76 h54 =>
bothK (app T.api_Pair 2 32 (get tT_2 6) (srcS 2 t76 h54) h54) fun t77 h55 =>
bareK (fad 2 (get tT_2 8)) h55 fun t78 h56 =>
bareK (ld1 h56 t78) h56 fun t79 h57 =>
bareK (xbin P .gtr T.int (.tmp 79) (.const (.int .i64 0)) t79 (.int .i64 0)) h57 fun t80 h58 =>
mg t80 true (fun o32 => o32 (get tT_2 5) h58) h58 fun t82 h59 =>
mg t80 true (fun o33 => bareK (xbin P .eql T.int (.tmp 82) (.const (.int .i64 0)) t82 (.int .i64 0)) h59 o33) h59 fun t83 h60 =>
mg t80 true (fun o34 => o34 t83 h60) h60 fun t84 h61 =>
mg t84 false (fun o35 => bareK (fad 2 (get tT_2 8)) h61 o35) h61 fun t85 h62 =>
mg t84 false (fun o36 => bareK (ld1 h62 t85) h62 o36) h62 fun t86 h63 =>
mg t84 false (fun o37 => o37 (get tT_2 5) h63) h63 fun t87 h64 =>
mg t84 false (fun o38 => bareK (xbin P .lss T.int (.tmp 86) (.tmp 87) t86 t87) h64 o38) h64 fun t88 h65 =>
mg t80 true (fun o39 => pickK t84 (.bool true) t88 fun v => o39 v h65) h65 fun t89 h66 =>
pickK t80 t89 (.bool false) fun t90 =>
mc t90 (fun k40 => bareK (fad 2 (get tT_2 8)) h66 fun t91 h67 =>
bareK (ld1 h67 t91) h67 fun t92 h68 =>
k40 .normal [(0, (get tT_2 0)), (1, (get tT_2 1)), (5, t92), (6, t77), (7, (get tT_2 7)), (8, (get tT_2 8))] h68) (fun k40 =>
k40 .normal [(0, (get tT_2 0)), (1, (get tT_2 1)), (5, (get tT_2 5)), (6, t77), (7, (get tT_2 7)), (8, (get tT_2 8))] h66) (seqK (fun tT_3 h69 =>
bareK (fad 0 (get tT_3 8)) h69 fun t94 h70 =>
bareK (ld1 h70 t94) h70 fun t95 h71 =>
bareK (fad 1 (get tT_3 8)) h71 fun t96 h72 =>
bareK (ld1 h72 t96) h72 fun t97 h73 =>
bareK (fad 2 (get tT_3 8)) h73 fun t98 h74 =>
bareK (ld1 h74 t98) h74 fun t99 h75 =>
enterK C F.law_gets [(get tT_3 0), t95, t97, t99, (.int .i64 0)] h75 fun t100 h76 =>
bareK (xun P .not t100) h76 fun t101 h77 =>
mc t101 (fun k41 => k41 .ret [(4, (.bool false))] h77) (fun k41 =>
k41 .normal [(0, (get tT_3 0)), (1, (get tT_3 1)), (5, (get tT_3 5)), (6, (get tT_3 6)), (7, (get tT_3 7))] h77) (blkK [0, 1, 5, 6, 7] 1 k29)) (blkK [0, 1, 5, 6, 7] 1 k29))) (blkK [0, 1, 5, 6, 7] 1 k29))) (seqK (fun tT_4 h78 =>
bareK (xbin P .add T.int (.tmp 52) (.const (.int .i64 1)) (get tT_4 7) (.int .i64 1)) h78 fun t53 h79 =>
k .normal [(0, (get tT_4 0)), (1, (get tT_4 1)), (5, (get tT_4 5)), (6, (get tT_4 6)), (7, t53)] h79) (afterK [0, 1, 5, 6, 7] k))) (afterK [0, 1, 5, 6, 7] k))

noncomputable def s_law_alike_b1 (mg : GT) (mc : CT) (ms : ST) (P : Program) (C : CallF) (L0 : Value → Value → Value → Value → Value → AHeap → K → Res) (L1 : Value → Value → Value → Value → AHeap → K → Res) (L2 : Value → Value → Value → Value → Value → Value → AHeap → K → Res) (v0 : Value) (v5 : Value) (v6 : Value) (v9 : Value) (H : AHeap) (k : K) : Res :=
bareK (xbin P .lss T.int (.tmp 102) (.const (.int .i64 2)) v9 (.int .i64 2)) H fun t103 h29 =>
mc t103 (fun k29 => k29 .normal [(0, v0), (5, v5), (6, v6), (9, v9)] h29) (fun k29 =>
k29 (.exit 2) [(103, t103), (102, v9), (0, v0), (5, v5), (6, v6), (9, v9)] h29) (seqK (fun tT h30 =>
ms (fun k30 =>
enterK C F.expire_Store_Alive [(get tT 0)] h30 fun t107 h31 =>
bareK (lenS t107) h31 fun t109 h32 =>
bareK (lenS (get tT 6)) h32 fun t111 h33 =>
bareK (xbin P .neq T.int (.tmp 109) (.tmp 111) t109 t111) h33 fun t112 h34 =>
mc t112 (fun k31 => k31 .ret [(4, (.bool false))] h34) (fun k31 =>
k31 .normal [(0, (get tT 0)), (5, (get tT 5)), (6, (get tT 6)), (9, (get tT 9)), (10, t107)] h34) (seqK (fun tT_1 h35 =>
ms (fun k32 =>
L2 (get tT_1 0) (get tT_1 5) (get tT_1 6) (get tT_1 9) (get tT_1 10) (.int .i64 0) h35 (blkK [0, 5, 6, 9] 4 k32)) (blkK [0, 5, 6, 9] 3 k30)) (blkK [0, 5, 6, 9] 3 k30))) (seqK (fun tT_2 h36 =>
bareK (xbin P .add T.int (.tmp 104) (.const (.int .i64 1)) (get tT_2 9) (.int .i64 1)) h36 fun t105 h37 =>
k .normal [(0, (get tT_2 0)), (5, (get tT_2 5)), (6, (get tT_2 6)), (9, t105)] h37) (afterK [0, 5, 6, 9] k))) (afterK [0, 5, 6, 9] k))

noncomputable def s_law_alike_b2 (mg : GT) (mc : CT) (ms : ST) (P : Program) (C : CallF) (L0 : Value → Value → Value → Value → Value → AHeap → K → Res) (L1 : Value → Value → Value → Value → AHeap → K → Res) (L2 : Value → Value → Value → Value → Value → Value → AHeap → K → Res) (v0 : Value) (v5 : Value) (v6 : Value) (v9 : Value) (v10 : Value) (v11 : Value) (H : AHeap) (k : K) : Res :=
bareK (lenS v10) H fun t115 h36 =>
bareK (xbin P .lss T.int (.tmp 113) (.tmp 115) v11 t115) h36 fun t116 h37 =>
mc t116 (fun k33 => k33 .normal [(0, v0), (5, v5), (6, v6), (9, v9), (10, v10), (11, v11)] h37) (fun k33 =>
k33 (.exit 4) [(116, t116), (115, t115), (114, v10), (113, v11), (0, v0), (5, v5), (6, v6), (9, v9), (10, v10), (11, v11)] h37) (seqK (fun tT h38 =>
ms (fun k34 =>
bareK (ixS 2 (get tT 10) (get tT 11)) h38 fun t121 h39 =>
bareK (ldN 2 h39 t121) h39 fun t122 h40 =>
bareK (ixS 2 (get tT 6) (get tT 11)) h40 fun t125 h41 =>
bareK (ldN 2 h41 t125) h41 fun t126 h42 =>
bareK (xbin P .neq T.api_Pair (.tmp 122) (.tmp 126) t122 t126) h42 fun t127 h43 =>
checkK true <|
mc t127 (fun k35 => k35 .ret [(4, (.bool false))] h43) (fun k35 =>
k35 .normal [(0, (get tT 0)), (5, (get tT 5)), (6, (get tT 6)), (9, (get tT 9)), (10, (get tT 10)), (11, (get tT 11))] h43) (seqK (fun tT_1 h44 =>
bareK (ixS 2 (get tT_1 10) (get tT_1 11)) h44 fun t130 h45 =>
bareK (fad 1 t130) h45 fun t131 h46 =>
quietK (st1 h46 t131 (.string (mk [111, 116, 104, 101, 114]))) fun _ h47 =>
k34 .normal [(0, (get tT_1 0)), (5, (get tT_1 5)), (6, (get tT_1 6)), (9, (get tT_1 9)), (10, (get tT_1 10)), (11, (get tT_1 11))] h47) (blkK [0, 5, 6, 9, 10, 11] 5 k34))) (seqK (fun tT_2 h48 =>
bareK (xbin P .add T.int (.tmp 117) (.const (.int .i64 1)) (get tT_2 11) (.int .i64 1)) h48 fun t118 h49 =>
k .normal [(0, (get tT_2 0)), (5, (get tT_2 5)), (6, (get tT_2 6)), (9, (get tT_2 9)), (10, (get tT_2 10)), (11, t118)] h49) (afterK [0, 5, 6, 9, 10, 11] k))) (afterK [0, 5, 6, 9, 10, 11] k))

theorem s_law_alike_eq (M : CombL) (C : CallF) (LP : LoopH) (a0 : Value) (a1 : Value) (H : AHeap) : dBodyL M Try.prog hints C LP F.law_alike [a0, a1] H = s_law_alike M.b.g M.c M.s Try.prog C (fun v0 v1 v5 v6 v7 H k => loopL M Try.prog hints C LP F.law_alike 0 [(0, v0), (1, v1), (5, v5), (6, v6), (7, v7)] H k) (fun v0 v5 v6 v9 H k => loopL M Try.prog hints C LP F.law_alike 1 [(0, v0), (5, v5), (6, v6), (9, v9)] H k) (fun v0 v5 v6 v9 v10 v11 H k => loopL M Try.prog hints C LP F.law_alike 2 [(0, v0), (5, v5), (6, v6), (9, v9), (10, v10), (11, v11)] H k) a0 a1 H (endK Try.prog [.tmp 4]) := by kernel_rfl

theorem s_law_alike_b0_eq (M : CombL) (C : CallF) (LP : LoopH) (v0 : Value) (v1 : Value) (v5 : Value) (v6 : Value) (v7 : Value) (H : AHeap) (k : K) : bodyL M Try.prog hints C LP F.law_alike 0 [(0, v0), (1, v1), (5, v5), (6, v6), (7, v7)] H (afterK [0, 1, 5, 6, 7] k) = s_law_alike_b0 M.b.g M.c M.s Try.prog C (fun v0 v1 v5 v6 v7 H k => loopL M Try.prog hints C LP F.law_alike 0 [(0, v0), (1, v1), (5, v5), (6, v6), (7, v7)] H k) (fun v0 v5 v6 v9 H k => loopL M Try.prog hints C LP F.law_alike 1 [(0, v0), (5, v5), (6, v6), (9, v9)] H k) (fun v0 v5 v6 v9 v10 v11 H k => loopL M Try.prog hints C LP F.law_alike 2 [(0, v0), (5, v5), (6, v6), (9, v9), (10, v10), (11, v11)] H k) v0 v1 v5 v6 v7 H k := by kernel_rfl

theorem s_law_alike_b1_eq (M : CombL) (C : CallF) (LP : LoopH) (v0 : Value) (v5 : Value) (v6 : Value) (v9 : Value) (H : AHeap) (k : K) : bodyL M Try.prog hints C LP F.law_alike 1 [(0, v0), (5, v5), (6, v6), (9, v9)] H (afterK [0, 5, 6, 9] k) = s_law_alike_b1 M.b.g M.c M.s Try.prog C (fun v0 v1 v5 v6 v7 H k => loopL M Try.prog hints C LP F.law_alike 0 [(0, v0), (1, v1), (5, v5), (6, v6), (7, v7)] H k) (fun v0 v5 v6 v9 H k => loopL M Try.prog hints C LP F.law_alike 1 [(0, v0), (5, v5), (6, v6), (9, v9)] H k) (fun v0 v5 v6 v9 v10 v11 H k => loopL M Try.prog hints C LP F.law_alike 2 [(0, v0), (5, v5), (6, v6), (9, v9), (10, v10), (11, v11)] H k) v0 v5 v6 v9 H k := by kernel_rfl

theorem s_law_alike_b2_eq (M : CombL) (C : CallF) (LP : LoopH) (v0 : Value) (v5 : Value) (v6 : Value) (v9 : Value) (v10 : Value) (v11 : Value) (H : AHeap) (k : K) : bodyL M Try.prog hints C LP F.law_alike 2 [(0, v0), (5, v5), (6, v6), (9, v9), (10, v10), (11, v11)] H (afterK [0, 5, 6, 9, 10, 11] k) = s_law_alike_b2 M.b.g M.c M.s Try.prog C (fun v0 v1 v5 v6 v7 H k => loopL M Try.prog hints C LP F.law_alike 0 [(0, v0), (1, v1), (5, v5), (6, v6), (7, v7)] H k) (fun v0 v5 v6 v9 H k => loopL M Try.prog hints C LP F.law_alike 1 [(0, v0), (5, v5), (6, v6), (9, v9)] H k) (fun v0 v5 v6 v9 v10 v11 H k => loopL M Try.prog hints C LP F.law_alike 2 [(0, v0), (5, v5), (6, v6), (9, v9), (10, v10), (11, v11)] H k) v0 v5 v6 v9 v10 v11 H k := by kernel_rfl

/-! (*ticketline.expire.Store).Extend -/

noncomputable def s_expire_Store_Extend (mg : GT) (mc : CT) (ms : ST) (P : Program) (C : CallF) (a0 : Value) (a1 : Value) (a2 : Value) (H : AHeap) (K0 : K) : Res :=
ms (fun k1 =>
bareK (xbin P .eql T.p_expire_Store (.tmp 12) (.const (.pointer none)) a0 (.pointer none)) H fun t13 h1 =>
mc t13 (fun k2 => k2 .ret [(6, (.int .i64 1))] h1) (fun k2 =>
bareK (xbin P .lss T.int (.tmp 15) (.const (.int .i64 0)) a2 (.int .i64 0)) h1 fun t16 h2 =>
mg t16 false (fun o3 => o3 a2 h2) h2 fun t18 h3 =>
mg t16 false (fun o4 => bareK (xbin P .gtr T.int (.tmp 18) (.const (.int .i64 1099511627776)) t18 (.int .i64 1099511627776)) h3 o4) h3 fun t19 h4 =>
pickK t16 (.bool true) t19 fun t20 =>
mc t20 (fun k5 => k5 .ret [(6, (.int .i64 2))] h4) (fun k5 =>
k5 .normal [(0, a0), (1, a1), (2, a2)] h4) (afterK [0, 1, 2] k2)) (blkK [0, 1, 2] 0 k1)) (seqK (fun tT h5 =>
enterK C F.expire_check [(get tT 1), (.string (mk []))] h5 fun t22 h6 =>
bareK (xbin P .neq T.api_Errno (.tmp 23) (.const (.int .i64 0)) t22 (.int .i64 0)) h6 fun t24 h7 =>
mc t24 (fun k6 => k6 .ret [(6, t22)] h7) (fun k6 =>
k6 .normal [(0, (get tT 0)), (1, (get tT 1)), (2, (get tT 2))] h7) (seqK (fun tT_1 h8 =>
bareK (xbin P .gtr T.int (.tmp 26) (.const (.int .i64 0)) (get tT_1 2) (.int .i64 0)) h8 fun t27 h9 =>
mg t27 true (fun o7 => o7 (get tT_1 2) h9) h9 fun t29 h10 =>
mg t27 true (fun o8 => o8 (get tT_1 0) h10) h10 fun t30 h11 =>
mg t27 true (fun o9 => bareK (xnilCheck t30) h11 o9) h11 fun t31 h12 =>
mg t27 true (fun o10 => bareK (fad 2 t31) h12 o10) h12 fun t32 h13 =>
mg t27 true (fun o11 => bareK (ld1 h13 t32) h13 o11) h13 fun t33 h14 =>
mg t27 true (fun o12 => bareK (xbin P .leq T.int (.tmp 29) (.tmp 33) t29 t33) h14 o12) h14 fun t34 h15 =>
pickK t27 t34 (.bool false) fun t35 =>
mc t35 (fun k13 => k13 .ret [(6, (.int .i64 14))] h15) (fun k13 =>
k13 .normal [(0, (get tT_1 0)), (1, (get tT_1 1)), (2, (get tT_1 2))] h15) (seqK (fun tT_2 h16 =>
enterK C F.expire_Store_Get [(get tT_2 0), (get tT_2 1)] h16 fun t39 h17 =>
bareK (xextract t39 0) h17 fun t40 h18 =>
bareK (xextract t39 1) h18 fun t41 h19 =>
bareK (xextract t39 2) h19 fun t42 h20 =>
bareK (xbin P .neq T.api_Errno (.tmp 43) (.const (.int .i64 0)) t42 (.int .i64 0)) h20 fun t44 h21 =>
mc t44 (fun k14 => k14 .ret [(6, t42)] h21) (fun k14 =>
k14 .normal [(0, (get tT_2 0)), (1, (get tT_2 1)), (2, (get tT_2 2))] h21) (seqK (fun tT_3 h22 =>
enterK C F.expire_Store_set [(get tT_3 0), (get tT_3 1), (get tT_3 2)] h22 fun t49 h23 =>
K0 .ret [(6, (.int .i64 0))] h23) K0)) K0)) K0)) K0)

theorem s_expire_Store_Extend_eq (M : CombL) (C : CallF) (LP : LoopH) (a0 : Value) (a1 : Value) (a2 : Value) (H : AHeap) : dBodyL M Try.prog hints C LP F.expire_Store_Extend [a0, a1, a2] H = s_expire_Store_Extend M.b.g M.c M.s Try.prog C a0 a1 a2 H (endK Try.prog [.tmp 6]) := by kernel_rfl

/-! (*ticketline.expire.Store).Delete -/

noncomputable def s_expire_Store_Delete (mg : GT) (mc : CT) (ms : ST) (P : Program) (C : CallF) (a0 : Value) (a1 : Value) (H : AHeap) (K0 : K) : Res :=
enterK C F.expire_Store_Get [a0, a1] H fun t11 h1 =>
bareK (xextract t11 0) h1 fun t12 h2 =>
bareK (xextract t11 1) h2 fun t13 h3 =>
bareK (xextract t11 2) h3 fun t14 h4 =>
bareK (xbin P .neq T.api_Errno (.tmp 15) (.const (.int .i64 0)) t14 (.int .i64 0)) h4 fun t16 h5 =>
mc t16 (fun k1 => k1 .ret [(4, t14)] h5) (fun k1 =>
k1 .normal [(0, a0), (1, a1)] h5) (seqK (fun tT h6 =>
bareK (xnilCheck (get tT 0)) h6 fun t19 h7 =>
bareK (fad 0 t19) h7 fun t20 h8 =>
enterK C F.model_Model_Delete [t20, (get tT 1)] h8 fun t22 h9 =>
bareK (xnilCheck (get tT 0)) h9 fun t24 h10 =>
bareK (fad 1 t24) h10 fun t25 h11 =>
bareK (ld1 h11 t25) h11 fun t26 h12 =>
nextK C h12 (xbuiltin P .delete [T.map_string_int, T.string] [t26, (get tT 1)] h12) fun _ h13 =>
K0 .ret [(4, (.int .i64 0))] h13) K0)

theorem s_expire_Store_Delete_eq (M : CombL) (C : CallF) (LP : LoopH) (a0 : Value) (a1 : Value) (H : AHeap) : dBodyL M Try.prog hints C LP F.expire_Store_Delete [a0, a1] H = s_expire_Store_Delete M.b.g M.c M.s Try.prog C a0 a1 H (endK Try.prog [.tmp 4]) := by kernel_rfl

/-! ticketline.expire.check -/

noncomputable def s_expire_check (mg : GT) (mc : CT) (ms : ST) (P : Program) (C : CallF) (a0 : Value) (a1 : Value) (H : AHeap) (K0 : K) : Res :=
bothK (newv T.model_Model (.agg #[(.slice none 0 0)]) H) fun t5 h1 =>
enterK C F.model_Model_Put [t5, a0, a1] h1 fun t8 h2 =>
K0 .ret [(4, t8)] h2

theorem s_expire_check_eq (M : CombL) (C : CallF) (LP : LoopH) (a0 : Value) (a1 : Value) (H : AHeap) : dBodyL M Try.prog hints C LP F.expire_check [a0, a1] H = s_expire_check M.b.g M.c M.s Try.prog C a0 a1 H (endK Try.prog [.tmp 4]) := by kernel_rfl

/-! (*ticketline.model.Model).Put -/

noncomputable def s_model_Model_Put (mg : GT) (mc : CT) (ms : ST) (P : Program) (C : CallF) (a0 : Value) (a1 : Value) (a2 : Value) (H : AHeap) (K0 : K) : Res :=
bothK (bldL T.string [(.string (mk []))] 1 [(0, a2)] H) fun t14 h1 =>
enterK C F.model_Model_at [a0, a1, t14] h1 fun t15 h2 =>
bareK (xextract t15 0) h2 fun t16 h3 =>
bareK (xextract t15 1) h3 fun t17 h4 =>
bareK (xextract t15 2) h4 fun t18 h5 =>
bareK (xbin P .neq T.api_Errno (.tmp 19) (.const (.int .i64 0)) t18 (.int .i64 0)) h5 fun t20 h6 =>
mc t20 (fun k1 => k1 .ret [(6, t18)] h6) (fun k1 =>
k1 .normal [(0, a0), (1, a1), (2, a2), (7, t16), (8, t17)] h6) (seqK (fun tT h7 =>
bareK (bldS #[(.string (mk [])), (.string (mk []))] [(0, 1), (1, 1)] [(0, (get tT 1)), (1, (get tT 2))]) h7 fun t27 h8 =>
enterK C F.model_Model_set [(get tT 0), (get tT 7), (get tT 8), t27] h8 fun t28 h9 =>
K0 .ret [(6, t28)] h9) K0)

theorem s_model_Model_Put_eq (M : CombL) (C : CallF) (LP : LoopH) (a0 : Value) (a1 : Value) (a2 : Value) (H : AHeap) : dBodyL M Try.prog hints C LP F.model_Model_Put [a0, a1, a2] H = s_model_Model_Put M.b.g M.c M.s Try.prog C a0 a1 a2 H (endK Try.prog [.tmp 6]) := by kernel_rfl

/-! (*ticketline.expire.Store).set -/

noncomputable def s_expire_Store_set (mg : GT) (mc : CT) (ms : ST) (P : Program) (C : CallF) (a0 : Value) (a1 : Value) (a2 : Value) (H : AHeap) (K0 : K) : Res :=
bareK (xnilCheck a0) H fun t7 h1 =>
bareK (fad 1 t7) h1 fun t8 h2 =>
bareK (ld1 h2 t8) h2 fun t9 h3 =>
bareK (xbin P .eql T.map_string_int (.tmp 9) (.const (.map none)) t9 (.map none)) h3 fun t10 h4 =>
mc t10 (fun k1 => bothK (xmakeMap P T.map_string_int none h4) fun t12 h5 =>
bareK (xnilCheck a0) h5 fun t13 h6 =>
bareK (fad 1 t13) h6 fun t14 h7 =>
quietK (st1 h7 t14 t12) fun _ h8 =>
k1 .normal [(0, a0), (1, a1), (2, a2)] h8) (fun k1 =>
k1 .normal [(0, a0), (1, a1), (2, a2)] h4) (seqK (fun tT h9 =>
bareK (xnilCheck (get tT 0)) h9 fun t16 h10 =>
bareK (fad 1 t16) h10 fun t17 h11 =>
bareK (ld1 h11 t17) h11 fun t18 h12 =>
nextK C h12 (xbuiltin P .delete [T.map_string_int, T.string] [t18, (get tT 1)] h12) fun _ h13 =>
bareK (xbin P .gtr T.int (.tmp 20) (.const (.int .i64 0)) (get tT 2) (.int .i64 0)) h13 fun t21 h14 =>
mc t21 (fun k2 => bareK (xnilCheck (get tT 0)) h14 fun t23 h15 =>
bareK (fad 1 t23) h15 fun t24 h16 =>
bareK (ld1 h16 t24) h16 fun t25 h17 =>
quietK (xmapUpdate P T.map_string_int t25 (get tT 1) (get tT 2) h17) fun _ h18 =>
k2 .normal [] h18) (fun k2 =>
k2 .normal [] h14) K0) K0)

theorem s_expire_Store_set_eq (M : CombL) (C : CallF) (LP : LoopH) (a0 : Value) (a1 : Value) (a2 : Value) (H : AHeap) : dBodyL M Try.prog hints C LP F.expire_Store_set [a0, a1, a2] H = s_expire_Store_set M.b.g M.c M.s Try.prog C a0 a1 a2 H (endK Try.prog []) := by kernel_rfl

/-! (*ticketline.model.Model).Len -/

noncomputable def s_model_Model_Len (mg : GT) (mc : CT) (ms : ST) (P : Program) (C : CallF) (a0 : Value) (H : AHeap) (K0 : K) : Res :=
bareK (xbin P .eql T.p_model_Model (.tmp 3) (.const (.pointer none)) a0 (.pointer none)) H fun t4 h1 =>
mc t4 (fun k1 => k1 .ret [(2, (.int .i64 0))] h1) (fun k1 =>
k1 .normal [(0, a0)] h1) (seqK (fun tT h2 =>
bareK (xnilCheck (get tT 0)) h2 fun t6 h3 =>
bareK (fad 0 t6) h3 fun t7 h4 =>
bareK (ld1 h4 t7) h4 fun t8 h5 =>
bareK (lenS t8) h5 fun t9 h6 =>
K0 .ret [(2, t9)] h6) K0)

theorem s_model_Model_Len_eq (M : CombL) (C : CallF) (LP : LoopH) (a0 : Value) (H : AHeap) : dBodyL M Try.prog hints C LP F.model_Model_Len [a0] H = s_model_Model_Len M.b.g M.c M.s Try.prog C a0 H (endK Try.prog [.tmp 2]) := by kernel_rfl

/-! (*ticketline.model.Model).Delete -/

noncomputable def s_model_Model_Delete (mg : GT) (mc : CT) (ms : ST) (P : Program) (C : CallF) (a0 : Value) (a1 : Value) (H : AHeap) (K0 : K) : Res :=
enterK C F.model_Model_Get [a0, a1] H fun t13 h1 =>
bareK (xextract t13 0) h1 fun t14 h2 =>
bareK (xextract t13 1) h2 fun t15 h3 =>
bareK (xbin P .neq T.api_Errno (.tmp 16) (.const (.int .i64 0)) t15 (.int .i64 0)) h3 fun t17 h4 =>
mc t17 (fun k1 => k1 .ret [(4, (.string (mk []))), (5, t15)] h4) (fun k1 =>
k1 .normal [(0, a0), (1, a1), (6, t14)] h4) (seqK (fun tT h5 =>
enterK C F.model_Model_place [(get tT 0), (get tT 1)] h5 fun t22 h6 =>
bareK (xextract t22 0) h6 fun t23 h7 =>
bareK (xextract t22 1) h7 fun t24 h8 =>
bareK (xnilCheck (get tT 0)) h8 fun t27 h9 =>
bareK (fad 0 t27) h9 fun t28 h10 =>
bareK (ld1 h10 t28) h10 fun t29 h11 =>
bareK (xbin P .add T.int (.tmp 31) (.const (.int .i64 1)) t23 (.int .i64 1)) h11 fun t32 h12 =>
enterK C F.slices_Delete_Pair [t29, t23, t32] h12 fun t33 h13 =>
bareK (xnilCheck (get tT 0)) h13 fun t34 h14 =>
bareK (fad 0 t34) h14 fun t35 h15 =>
quietK (st1 h15 t35 t33) fun _ h16 =>
K0 .ret [(4, (get tT 6)), (5, (.int .i64 0))] h16) K0)

theorem s_model_Model_Delete_eq (M : CombL) (C : CallF) (LP : LoopH) (a0 : Value) (a1 : Value) (H : AHeap) : dBodyL M Try.prog hints C LP F.model_Model_Delete [a0, a1] H = s_model_Model_Delete M.b.g M.c M.s Try.prog C a0 a1 H (endK Try.prog [.tmp 4, .tmp 5]) := by kernel_rfl

/-! slices.DeleteFunc[[]ticketline.api.Pair,ticketline.api.Pair] -/

noncomputable def s_slices_DeleteFunc_Pair (mg : GT) (mc : CT) (ms : ST) (P : Program) (C : CallF) (L0 : Value → Value → Value → Value → AHeap → K → Res) (a0 : Value) (a1 : Value) (H : AHeap) (K0 : K) : Res :=
enterK C F.slices_IndexFunc_Pair [a0, a1] H fun t10 h1 =>
bareK (xbin P .eql T.int (.tmp 11) (.const (.int .i64 (-1))) t10 (.int .i64 (-1))) h1 fun t12 h2 =>
mc t12 (fun k1 => k1 .ret [(4, a0)] h2) (fun k1 =>
k1 .normal [(0, a0), (1, a1), (5, t10)] h2) (seqK (fun tT h3 =>
bareK (xbin P .add T.int (.tmp 14) (.const (.int .i64 1)) (get tT 5) (.int .i64 1)) h3 fun t15 h4 =>
ms (fun k2 =>
L0 (get tT 0) (get tT 1) (get tT 5) t15 h4 (blkK [0, 5] 0 k2)) (seqK (fun tT_1 h5 =>
bareK (slS T.api_Pair 2 (get tT_1 0) (some (get tT_1 5)) none none h5) h5 fun t38 h6 =>
bothK (xclear P [T.sl_api_Pair] t38 h6) fun _ h7 =>
bareK (slS T.api_Pair 2 (get tT_1 0) none (some (get tT_1 5)) none h7) h7 fun t41 h8 =>
K0 .ret [(4, t41)] h8) K0)) K0)

noncomputable def s_slices_DeleteFunc_Pair_b0 (mg : GT) (mc : CT) (ms : ST) (P : Program) (C : CallF) (L0 : Value → Value → Value → Value → AHeap → K → Res) (v0 : Value) (v1 : Value) (v5 : Value) (v6 : Value) (H : AHeap) (k : K) : Res :=
bareK (lenS v0) H fun t18 h5 =>
bareK (xbin P .lss T.int (.tmp 16) (.tmp 18) v6 t18) h5 fun t19 h6 =>
mc t19 (fun k3 => k3 .normal [(0, v0), (1, v1), (5, v5), (6, v6)] h6) (fun k3 =>
k3 (.exit 0) [(19, t19), (18, t18), (17, v0), (16, v6), (0, v0), (1, v1), (5, v5), (6, v6)] h6) (seqK (fun tT h7 =>
ms (fun k4 =>
bareK (ixS 2 (get tT 0) (get tT 6)) h7 fun t24 h8 =>
bareK (ldN 2 h8 t24) h8 fun t25 h9 =>
bothK (newv T.api_Pair (.agg #[(.string (mk [])), (.string (mk []))]) h9) fun t7 h10 =>
quietK (stN 2 h10 t7 t25) fun _ h11 =>
bareK (ldN 2 h11 t7) h11 fun t27 h12 =>
callK P C (get tT 1) [t27] h12 fun t28 h13 =>
bareK (xun P .not t28) h13 fun t29 h14 =>
mc t29 (fun k5 => bareK (ldN 2 h14 t7) h14 fun t32 h15 =>
bareK (ixS 2 (get tT 0) (get tT 5)) h15 fun t33 h16 =>
quietK (stN 2 h16 t33 t32) fun _ h17 =>
bareK (xbin P .add T.int (.tmp 34) (.const (.int .i64 1)) (get tT 5) (.int .i64 1)) h17 fun t35 h18 =>
k5 .normal [(0, (get tT 0)), (1, (get tT 1)), (5, t35), (6, (get tT 6))] h18) (fun k5 =>
k5 .normal [(0, (get tT 0)), (1, (get tT 1)), (5, (get tT 5)), (6, (get tT 6))] h14) (blkK [0, 1, 5, 6] 1 k4)) (seqK (fun tT_1 h19 =>
bareK (xbin P .add T.int (.tmp 20) (.const (.int .i64 1)) (get tT_1 6) (.int .i64 1)) h19 fun t21 h20 =>
k .normal [(0, (get tT_1 0)), (1, (get tT_1 1)), (5, (get tT_1 5)), (6, t21)] h20) (afterK [0, 1, 5, 6] k))) (afterK [0, 1, 5, 6] k))

theorem s_slices_DeleteFunc_Pair_eq (M : CombL) (C : CallF) (LP : LoopH) (a0 : Value) (a1 : Value) (H : AHeap) : dBodyL M Try.prog hints C LP F.slices_DeleteFunc_Pair [a0, a1] H = s_slices_DeleteFunc_Pair M.b.g M.c M.s Try.prog C (fun v0 v1 v5 v6 H k => loopL M Try.prog hints C LP F.slices_DeleteFunc_Pair 0 [(0, v0), (1, v1), (5, v5), (6, v6)] H k) a0 a1 H (endK Try.prog [.tmp 4]) := by kernel_rfl

theorem s_slices_DeleteFunc_Pair_b0_eq (M : CombL) (C : CallF) (LP : LoopH) (v0 : Value) (v1 : Value) (v5 : Value) (v6 : Value) (H : AHeap) (k : K) : bodyL M Try.prog hints C LP F.slices_DeleteFunc_Pair 0 [(0, v0), (1, v1), (5, v5), (6, v6)] H (afterK [0, 1, 5, 6] k) = s_slices_DeleteFunc_Pair_b0 M.b.g M.c M.s Try.prog C (fun v0 v1 v5 v6 H k => loopL M Try.prog hints C LP F.slices_DeleteFunc_Pair 0 [(0, v0), (1, v1), (5, v5), (6, v6)] H k) v0 v1 v5 v6 H k := by kernel_rfl

/-! (*ticketline.model.Model).Pairs -/

noncomputable def s_model_Model_Pairs (mg : GT) (mc : CT) (ms : ST) (P : Program) (C : CallF) (a0 : Value) (H : AHeap) (K0 : K) : Res :=
bareK (xbin P .eql T.p_model_Model (.tmp 3) (.const (.pointer none)) a0 (.pointer none)) H fun t4 h1 =>
mc t4 (fun k1 => k1 .ret [(2, (.slice none 0 0))] h1) (fun k1 =>
k1 .normal [(0, a0)] h1) (seqK (fun tT h2 =>
bareK (xnilCheck (get tT 0)) h2 fun t6 h3 =>
bareK (fad 0 t6) h3 fun t7 h4 =>
bareK (ld1 h4 t7) h4 fun t8 h5 =>
enterK C F.slices_Clone_Pair [t8] h5 fun t9 h6 =>
K0 .ret [(2, t9)] h6) K0)

theorem s_model_Model_Pairs_eq (M : CombL) (C : CallF) (LP : LoopH) (a0 : Value) (H : AHeap) : dBodyL M Try.prog hints C LP F.model_Model_Pairs [a0] H = s_model_Model_Pairs M.b.g M.c M.s Try.prog C a0 H (endK Try.prog [.tmp 2]) := by kernel_rfl

/-! (*ticketline.expire.Store).Alive$1 -/

noncomputable def s_expire_Store_Alive_1 (mg : GT) (mc : CT) (ms : ST) (P : Program) (C : CallF) (a0 : Value) (a1 : Value) (H : AHeap) (K0 : K) : Res :=
bothK (newv T.api_Pair a0 H) fun t2 h1 =>
bareK (ld1 h1 a1) h1 fun t4 h2 =>
bareK (fad 0 t2) h2 fun t5 h3 =>
bareK (ld1 h3 t5) h3 fun t6 h4 =>
enterK C F.expire_Store_ended [t4, t6] h4 fun t7 h5 =>
K0 .ret [(3, t7)] h5

theorem s_expire_Store_Alive_1_eq (M : CombL) (C : CallF) (LP : LoopH) (a0 : Value) (a1 : Value) (H : AHeap) : dBodyL M Try.prog hints C LP F.expire_Store_Alive_1 [a0, a1] H = s_expire_Store_Alive_1 M.b.g M.c M.s Try.prog C a0 a1 H (endK Try.prog [.tmp 3]) := by kernel_rfl

/-! (*ticketline.expire.Store).ended -/

noncomputable def s_expire_Store_ended (mg : GT) (mc : CT) (ms : ST) (P : Program) (C : CallF) (a0 : Value) (a1 : Value) (H : AHeap) (K0 : K) : Res :=
bareK (xnilCheck a0) H fun t6 h1 =>
bareK (fad 1 t6) h1 fun t7 h2 =>
bareK (ld1 h2 t7) h2 fun t8 h3 =>
bareK (xlookup P T.map_string_int t8 a1 false h3) h3 fun t10 h4 =>
bareK (xbin P .gtr T.int (.tmp 10) (.const (.int .i64 0)) t10 (.int .i64 0)) h4 fun t11 h5 =>
mg t11 true (fun o1 => o1 a0 h5) h5 fun t13 h6 =>
mg t11 true (fun o2 => bareK (xnilCheck t13) h6 o2) h6 fun t14 h7 =>
mg t11 true (fun o3 => bareK (fad 1 t14) h7 o3) h7 fun t15 h8 =>
mg t11 true (fun o4 => bareK (ld1 h8 t15) h8 o4) h8 fun t16 h9 =>
mg t11 true (fun o5 => o5 a1 h9) h9 fun t17 h10 =>
mg t11 true (fun o6 => bareK (xlookup P T.map_string_int t16 t17 false h10) h10 o6) h10 fun t18 h11 =>
mg t11 true (fun o7 => o7 a0 h11) h11 fun t19 h12 =>
mg t11 true (fun o8 => bareK (xnilCheck t19) h12 o8) h12 fun t20 h13 =>
mg t11 true (fun o9 => bareK (fad 2 t20) h13 o9) h13 fun t21 h14 =>
mg t11 true (fun o10 => bareK (ld1 h14 t21) h14 o10) h14 fun t22 h15 =>
mg t11 true (fun o11 => bareK (xbin P .leq T.int (.tmp 18) (.tmp 22) t18 t22) h15 o11) h15 fun t23 h16 =>
pickK t11 t23 (.bool false) fun t24 =>
checkK true <|
K0 .ret [(4, t24)] h16

theorem s_expire_Store_ended_eq (M : CombL) (C : CallF) (LP : LoopH) (a0 : Value) (a1 : Value) (H : AHeap) : dBodyL M Try.prog hints C LP F.expire_Store_ended [a0, a1] H = s_expire_Store_ended M.b.g M.c M.s Try.prog C a0 a1 H (endK Try.prog [.tmp 4]) := by kernel_rfl

/-! (*ticketline.model.Model).Get -/

noncomputable def s_model_Model_Get (mg : GT) (mc : CT) (ms : ST) (P : Program) (C : CallF) (a0 : Value) (a1 : Value) (H : AHeap) (K0 : K) : Res :=
enterK C F.model_Model_at [a0, a1, (.slice none 0 0)] H fun t12 h1 =>
bareK (xextract t12 0) h1 fun t13 h2 =>
bareK (xextract t12 1) h2 fun t14 h3 =>
bareK (xextract t12 2) h3 fun t15 h4 =>
ms (fun k1 =>
bareK (xbin P .neq T.api_Errno (.tmp 17) (.const (.int .i64 0)) t15 (.int .i64 0)) h4 fun t18 h5 =>
mc t18 (fun k2 => k2 .ret [(4, (.string (mk []))), (5, t15)] h5) (fun k2 =>
bareK (xun P .not t14) h5 fun t22 h6 =>
mc t22 (fun k3 => k3 .ret [(4, (.string (mk []))), (5, (.int .i64 9))] h6) (fun k3 =>
k3 .normal [(0, a0), (6, t13)] h6) (afterK [0, 6] k2)) (blkK [0, 6] 0 k1)) (seqK (fun tT h7 =>
bareK (xnilCheck (get tT 0)) h7 fun t24 h8 =>
bareK (fad 0 t24) h8 fun t25 h9 =>
bareK (ld1 h9 t25) h9 fun t26 h10 =>
bareK (ixS 2 t26 (get tT 6)) h10 fun t28 h11 =>
bareK (fad 1 t28) h11 fun t29 h12 =>
bareK (ld1 h12 t29) h12 fun t30 h13 =>
K0 .ret [(4, t30), (5, (.int .i64 0))] h13) K0)

theorem s_model_Model_Get_eq (M : CombL) (C : CallF) (LP : LoopH) (a0 : Value) (a1 : Value) (H : AHeap) : dBodyL M Try.prog hints C LP F.model_Model_Get [a0, a1] H = s_model_Model_Get M.b.g M.c M.s Try.prog C a0 a1 H (endK Try.prog [.tmp 4, .tmp 5]) := by kernel_rfl

/-! (*ticketline.ticketlinelaw45.Model).put -/

noncomputable def s_law_Model_put (mg : GT) (mc : CT) (ms : ST) (P : Program) (C : CallF) (L0 : Value → Value → Value → Value → AHeap → K → Res) (a0 : Value) (a1 : Value) (H : AHeap) (K0 : K) : Res :=
bothK (newv T.law_Entry a1 H) fun t3 h1 =>
bareK (fad 0 t3) h1 fun t9 h2 =>
bareK (ld1 h2 t9) h2 fun t10 h3 =>
enterK C F.law_Model_find [a0, t10] h3 fun t11 h4 =>
enterK C F.law_Model_without [a0, t11] h4 fun t12 h5 =>
ms (fun k1 =>
L0 a0 t3 t12 (.int .i64 0) h5 (blkK [0, 3, 4, 5] 0 k1)) (seqK (fun tT h6 =>
bareK (ldN 3 h6 (get tT 3)) h6 fun t29 h7 =>
bothK (bldL T.law_Entry [(.string (mk [])), (.string (mk [])), (.int .i64 0)] 1 [(0, t29)] h7) fun t30 h8 =>
bareK (slS T.law_Entry 3 (get tT 4) (some (get tT 5)) none none h8) h8 fun t33 h9 =>
bothK (app T.law_Entry 3 40 t30 (srcS 3 t33 h9) h9) fun t34 h10 =>
checkK true <|
bareK (slS T.law_Entry 3 (get tT 4) none (some (get tT 5)) none h10) h10 fun t38 h11 =>
bothK (app T.law_Entry 3 40 (.slice none 0 0) (srcS 3 t38 h11) h11) fun t39 h12 =>
bothK (app T.law_Entry 3 40 t39 (srcS 3 t34 h12) h12) fun t41 h13 =>
bareK (xnilCheck (get tT 0)) h13 fun t42 h14 =>
bareK (fad 0 t42) h14 fun t43 h15 =>
quietK (st1 h15 t43 t41) fun _ h16 =>
K0 .normal ((43, t43) :: (42, t42) :: (41, t41) :: (40, t34) :: (39, t39) :: (38, t38) :: (37, (get tT 5)) :: (36, (get tT 4)) :: (35, (get tT 0)) :: (6, t34) :: (34, t34) :: (33, t33) :: (32, (get tT 5)) :: (31, (get tT 4)) :: (30, t30) :: (29, t29) :: tT) h16) K0)

noncomputable def s_law_Model_put_b0 (mg : GT) (mc : CT) (ms : ST) (P : Program) (C : CallF) (L0 : Value → Value → Value → Value → AHeap → K → Res) (v0 : Value) (v3 : Value) (v4 : Value) (v5 : Value) (H : AHeap) (k : K) : Res :=
bareK (lenS v4) H fun t15 h6 =>
bareK (xbin P .lss T.int (.tmp 13) (.tmp 15) v5 t15) h6 fun t16 h7 =>
mg t16 true (fun o2 => o2 v4 h7) h7 fun t18 h8 =>
mg t16 true (fun o3 => o3 v5 h8) h8 fun t19 h9 =>
mg t16 true (fun o4 => bareK (ixS 3 t18 t19) h9 o4) h9 fun t20 h10 =>
mg t16 true (fun o5 => bareK (fad 0 t20) h10 o5) h10 fun t21 h11 =>
mg t16 true (fun o6 => bareK (ld1 h11 t21) h11 o6) h11 fun t22 h12 =>
mg t16 true (fun o7 => bareK (fad 0 v3) h12 o7) h12 fun t23 h13 =>
mg t16 true (fun o8 => bareK (ld1 h13 t23) h13 o8) h13 fun t24 h14 =>
mg t16 true (fun o9 => bareK (xbin P .lss T.string (.tmp 22) (.tmp 24) t22 t24) h14 o9) h14 fun t25 h15 =>
pickK t16 t25 (.bool false) fun t26 =>
checkK true <|
mc t26 (fun k10 => k10 .normal [(0, v0), (3, v3), (4, v4), (5, v5)] h15) (fun k10 =>
k10 (.exit 0) [(26, t26), (25, t25), (24, t24), (23, t23), (22, t22), (21, t21), (20, t20), (19, t19), (18, t18), (17, t16), (16, t16), (15, t15), (14, v4), (13, v5), (0, v0), (3, v3), (4, v4), (5, v5)] h15) (seqK (fun tT h16 =>
ms (fun k11 =>
bareK (xbin P .add T.int (.tmp 27) (.const (.int .i64 1)) (get tT 5) (.int .i64 1)) h16 fun t28 h17 =>
k11 .normal [(0, (get tT 0)), (3, (get tT 3)), (4, (get tT 4)), (5, t28)] h17) (afterK [0, 3, 4, 5] k)) (afterK [0, 3, 4, 5] k))

theorem s_law_Model_put_eq (M : CombL) (C : CallF) (LP : LoopH) (a0 : Value) (a1 : Value) (H : AHeap) : dBodyL M Try.prog hints C LP F.law_Model_put [a0, a1] H = s_law_Model_put M.b.g M.c M.s Try.prog C (fun v0 v3 v4 v5 H k => loopL M Try.prog hints C LP F.law_Model_put 0 [(0, v0), (3, v3), (4, v4), (5, v5)] H k) a0 a1 H (endK Try.prog []) := by kernel_rfl

theorem s_law_Model_put_b0_eq (M : CombL) (C : CallF) (LP : LoopH) (v0 : Value) (v3 : Value) (v4 : Value) (v5 : Value) (H : AHeap) (k : K) : bodyL M Try.prog hints C LP F.law_Model_put 0 [(0, v0), (3, v3), (4, v4), (5, v5)] H (afterK [0, 3, 4, 5] k) = s_law_Model_put_b0 M.b.g M.c M.s Try.prog C (fun v0 v3 v4 v5 H k => loopL M Try.prog hints C LP F.law_Model_put 0 [(0, v0), (3, v3), (4, v4), (5, v5)] H k) v0 v3 v4 v5 H k := by kernel_rfl

/-! (*ticketline.model.Model).Copy -/

noncomputable def s_model_Model_Copy (mg : GT) (mc : CT) (ms : ST) (P : Program) (C : CallF) (a0 : Value) (H : AHeap) (K0 : K) : Res :=
bareK (xbin P .eql T.p_model_Model (.tmp 3) (.const (.pointer none)) a0 (.pointer none)) H fun t4 h1 =>
mc t4 (fun k1 => k1 .ret [(2, (.pointer none))] h1) (fun k1 =>
k1 .normal [(0, a0)] h1) (seqK (fun tT h2 =>
bareK (xnilCheck (get tT 0)) h2 fun t6 h3 =>
bareK (fad 0 t6) h3 fun t7 h4 =>
bareK (ld1 h4 t7) h4 fun t8 h5 =>
enterK C F.slices_Clone_Pair [t8] h5 fun t9 h6 =>
bareK (bldS #[(.slice none 0 0)] [(0, 1)] [(0, t9)]) h6 fun t10 h7 =>
bothK (newv T.model_Model t10 h7) fun t11 h8 =>
K0 .ret [(2, t11)] h8) K0)

theorem s_model_Model_Copy_eq (M : CombL) (C : CallF) (LP : LoopH) (a0 : Value) (H : AHeap) : dBodyL M Try.prog hints C LP F.model_Model_Copy [a0] H = s_model_Model_Copy M.b.g M.c M.s Try.prog C a0 H (endK Try.prog [.tmp 2]) := by kernel_rfl

/-! (*ticketline.model.Model).at -/

noncomputable def s_model_Model_at (mg : GT) (mc : CT) (ms : ST) (P : Program) (C : CallF) (a0 : Value) (a1 : Value) (a2 : Value) (H : AHeap) (K0 : K) : Res :=
bareK (xbin P .eql T.p_model_Model (.tmp 13) (.const (.pointer none)) a0 (.pointer none)) H fun t14 h1 =>
mc t14 (fun k1 => k1 .ret [(6, (.int .i64 0)), (7, (.bool false)), (8, (.int .i64 1))] h1) (fun k1 =>
k1 .normal [(0, a0), (1, a1), (2, a2)] h1) (seqK (fun tT h2 =>
enterK C F.model_check [(get tT 1), (get tT 2)] h2 fun t17 h3 =>
bareK (xbin P .neq T.api_Errno (.tmp 18) (.const (.int .i64 0)) t17 (.int .i64 0)) h3 fun t19 h4 =>
mc t19 (fun k2 => k2 .ret [(6, (.int .i64 0)), (7, (.bool false)), (8, t17)] h4) (fun k2 =>
k2 .normal [(0, (get tT 0)), (1, (get tT 1))] h4) (seqK (fun tT_1 h5 =>
callK P C (.func (.func F.model_Model_place) #[(get tT_1 0)] #[]) [(get tT_1 1)] h5 fun t26 h6 =>
bareK (xextract t26 0) h6 fun t27 h7 =>
bareK (xextract t26 1) h7 fun t28 h8 =>
K0 .ret [(6, t27), (7, t28), (8, (.int .i64 0))] h8) K0)) K0)

theorem s_model_Model_at_eq (M : CombL) (C : CallF) (LP : LoopH) (a0 : Value) (a1 : Value) (a2 : Value) (H : AHeap) : dBodyL M Try.prog hints C LP F.model_Model_at [a0, a1, a2] H = s_model_Model_at M.b.g M.c M.s Try.prog C a0 a1 a2 H (endK Try.prog [.tmp 6, .tmp 7, .tmp 8]) := by kernel_rfl

/-! (*ticketline.model.Model).set -/

noncomputable def s_model_Model_set (mg : GT) (mc : CT) (ms : ST) (P : Program) (C : CallF) (a0 : Value) (a1 : Value) (a2 : Value) (a3 : Value) (H : AHeap) (K0 : K) : Res :=
bothK (newv T.api_Pair a3 H) fun t7 h1 =>
ms (fun k1 =>
mc a2 (fun k2 => bareK (xnilCheck a0) h1 fun t23 h2 =>
bareK (fad 0 t23) h2 fun t24 h3 =>
bareK (ld1 h3 t24) h3 fun t25 h4 =>
bareK (ldN 2 h4 t7) h4 fun t27 h5 =>
bareK (ixS 2 t25 a1) h5 fun t28 h6 =>
quietK (stN 2 h6 t28 t27) fun _ h7 =>
checkK true <|
k2 .normal [] h7) (fun k2 =>
bareK (xnilCheck a0) h1 fun t31 h8 =>
bareK (fad 0 t31) h8 fun t32 h9 =>
bareK (ld1 h9 t32) h9 fun t33 h10 =>
bareK (lenS t33) h10 fun t34 h11 =>
bareK (xbin P .eql T.int (.tmp 34) (.const (.int .i64 20000)) t34 (.int .i64 20000)) h11 fun t35 h12 =>
mc t35 (fun k3 => k3 .ret [(8, (.int .i64 7))] h12) (fun k3 =>
bareK (xnilCheck a0) h12 fun t11 h13 =>
bareK (fad 0 t11) h13 fun t12 h14 =>
bareK (ld1 h14 t12) h14 fun t13 h15 =>
bareK (ldN 2 h15 t7) h15 fun t15 h16 =>
bothK (bldL T.api_Pair [(.string (mk [])), (.string (mk []))] 1 [(0, t15)] h16) fun t16 h17 =>
enterK C F.slices_Insert_Pair [t13, a1, t16] h17 fun t17 h18 =>
bareK (xnilCheck a0) h18 fun t18 h19 =>
bareK (fad 0 t18) h19 fun t19 h20 =>
quietK (st1 h20 t19 t17) fun _ h21 =>
checkK (okV (some true) none h17 h18 h12 h12 && true) <|
k3 .normal [] h21) (afterK [] k2)) (blkK [] 0 k1)) (seqK (fun tT h22 =>
K0 .ret [(8, (.int .i64 0))] h22) K0)

theorem s_model_Model_set_eq (M : CombL) (C : CallF) (LP : LoopH) (a0 : Value) (a1 : Value) (a2 : Value) (a3 : Value) (H : AHeap) : dBodyL M Try.prog hints C LP F.model_Model_set [a0, a1, a2, a3] H = s_model_Model_set M.b.g M.c M.s Try.prog C a0 a1 a2 a3 H (endK Try.prog [.tmp 8]) := by kernel_rfl

/-! slices.SortFunc[[]string,string] -/

noncomputable def s_slices_SortFunc_string (mg : GT) (mc : CT) (ms : ST) (P : Program) (C : CallF) (a0 : Value) (a1 : Value) (H : AHeap) (K0 : K) : Res :=
bareK (lenS a0) H fun t6 h1 =>
bothK (xconv P T.int T.uint t6 h1) fun t10 h2 =>
enterK C F.math_bits_Len [t10] h2 fun t11 h3 =>
enterK C F.slices_pdqsortCmpFunc_string [a0, (.int .i64 0), t6, t11, a1] h3 fun t13 h4 =>
K0 .normal [(13, t13), (12, a1), (11, t11), (10, t10), (9, t6), (8, t6), (7, a0), (4, t6), (6, t6), (5, a0), (0, a0), (1, a1)] h4

theorem s_slices_SortFunc_string_eq (M : CombL) (C : CallF) (LP : LoopH) (a0 : Value) (a1 : Value) (H : AHeap) : dBodyL M Try.prog hints C LP F.slices_SortFunc_string [a0, a1] H = s_slices_SortFunc_string M.b.g M.c M.s Try.prog C a0 a1 H (endK Try.prog []) := by kernel_rfl

/-! (*ticketline.expire.Store).waiting$1 -/

noncomputable def s_expire_Store_waiting_1 (mg : GT) (mc : CT) (ms : ST) (P : Program) (C : CallF) (a0 : Value) (a1 : Value) (a2 : Value) (H : AHeap) (K0 : K) : Res :=
bareK (ld1 H a2) H fun t6 h1 =>
bareK (xnilCheck t6) h1 fun t7 h2 =>
bareK (fad 1 t7) h2 fun t8 h3 =>
bareK (ld1 h3 t8) h3 fun t9 h4 =>
bareK (xlookup P T.map_string_int t9 a0 false h4) h4 fun t11 h5 =>
bareK (ld1 h5 a2) h5 fun t12 h6 =>
bareK (xnilCheck t12) h6 fun t13 h7 =>
bareK (fad 1 t13) h7 fun t14 h8 =>
bareK (ld1 h8 t14) h8 fun t15 h9 =>
bareK (xlookup P T.map_string_int t15 a1 false h9) h9 fun t17 h10 =>
enterK C F.cmp_Compare_int [t11, t17] h10 fun t18 h11 =>
enterK C F.cmp_Compare_string [a0, a1] h11 fun t21 h12 =>
bothK (bldL T.int [(.int .i64 0)] 2 [(0, t18), (1, t21)] h12) fun t22 h13 =>
enterK C F.cmp_Or_int [t22] h13 fun t23 h14 =>
checkK (okV (some true) none h10 h11 h11 h11 && (okV (some true) none h10 h11 h11 h11 && true)) <|
K0 .ret [(5, t23)] h14

theorem s_expire_Store_waiting_1_eq (M : CombL) (C : CallF) (LP : LoopH) (a0 : Value) (a1 : Value) (a2 : Value) (H : AHeap) : dBodyL M Try.prog hints C LP F.expire_Store_waiting_1 [a0, a1, a2] H = s_expire_Store_waiting_1 M.b.g M.c M.s Try.prog C a0 a1 a2 H (endK Try.prog [.tmp 5]) := by kernel_rfl

/-! cmp.Or[int] -/

noncomputable def s_cmp_Or_int (mg : GT) (mc : CT) (ms : ST) (P : Program) (C : CallF) (L0 : Value → Value → Value → Value → AHeap → K → Res) (a0 : Value) (H : AHeap) (K0 : K) : Res :=
bareK (lenS a0) H fun t7 h1 =>
ms (fun k1 =>
L0 (.int .i64 0) a0 t7 (.int .i64 0) h1 (blkK [3] 0 k1)) (seqK (fun tT h2 =>
K0 .ret [(2, (get tT 3))] h2) K0)

noncomputable def s_cmp_Or_int_b0 (mg : GT) (mc : CT) (ms : ST) (P : Program) (C : CallF) (L0 : Value → Value → Value → Value → AHeap → K → Res) (v3 : Value) (v6 : Value) (v7 : Value) (v8 : Value) (H : AHeap) (k : K) : Res :=
bareK (xbin P .lss T.int (.tmp 8) (.tmp 7) v8 v7) H fun t9 h2 =>
mc t9 (fun k2 => k2 .normal [(3, v3), (6, v6), (7, v7), (8, v8)] h2) (fun k2 =>
k2 (.exit 0) [(9, t9), (3, v3), (6, v6), (7, v7), (8, v8)] h2) (seqK (fun tT h3 =>
ms (fun k3 =>
bareK (ixS 1 (get tT 6) (get tT 8)) h3 fun t10 h4 =>
bareK (ld1 h4 t10) h4 fun t11 h5 =>
bareK (xbin P .neq T.int (.tmp 12) (.tmp 13) t11 (get tT 3)) h5 fun t14 h6 =>
mc t14 (fun k4 => k4 .ret [(2, t11)] h6) (fun k4 =>
k4 .normal [(3, (get tT 3)), (6, (get tT 6)), (7, (get tT 7)), (8, (get tT 8))] h6) (blkK [3, 6, 7, 8] 1 k3)) (seqK (fun tT_1 h7 =>
bareK (xbin P .add T.int (.tmp 8) (.const (.int .i64 1)) (get tT_1 8) (.int .i64 1)) h7 fun t16 h8 =>
k .normal [(3, (get tT_1 3)), (6, (get tT_1 6)), (7, (get tT_1 7)), (8, t16)] h8) (afterK [3, 6, 7, 8] k))) (afterK [3, 6, 7, 8] k))

theorem s_cmp_Or_int_eq (M : CombL) (C : CallF) (LP : LoopH) (a0 : Value) (H : AHeap) : dBodyL M Try.prog hints C LP F.cmp_Or_int [a0] H = s_cmp_Or_int M.b.g M.c M.s Try.prog C (fun v3 v6 v7 v8 H k => loopL M Try.prog hints C LP F.cmp_Or_int 0 [(3, v3), (6, v6), (7, v7), (8, v8)] H k) a0 H (endK Try.prog [.tmp 2]) := by kernel_rfl

theorem s_cmp_Or_int_b0_eq (M : CombL) (C : CallF) (LP : LoopH) (v3 : Value) (v6 : Value) (v7 : Value) (v8 : Value) (H : AHeap) (k : K) : bodyL M Try.prog hints C LP F.cmp_Or_int 0 [(3, v3), (6, v6), (7, v7), (8, v8)] H (afterK [3, 6, 7, 8] k) = s_cmp_Or_int_b0 M.b.g M.c M.s Try.prog C (fun v3 v6 v7 v8 H k => loopL M Try.prog hints C LP F.cmp_Or_int 0 [(3, v3), (6, v6), (7, v7), (8, v8)] H k) v3 v6 v7 v8 H k := by kernel_rfl

/-! cmp.Compare[int] -/

noncomputable def s_cmp_Compare_int (mg : GT) (mc : CT) (ms : ST) (P : Program) (C : CallF) (a0 : Value) (a1 : Value) (H : AHeap) (K0 : K) : Res :=
enterK C F.cmp_isNaN_int [a0] H fun t8 h1 =>
enterK C F.cmp_isNaN_int [a1] h1 fun t10 h2 =>
mc t8 (fun k1 => mc t10 (fun k2 => k2 .ret [(4, (.int .i64 0))] h2) (fun k2 =>
k2 .normal [] h2) (seqK (fun tT h3 =>
k1 .ret [(4, (.int .i64 (-1)))] h3) (afterK [0, 1, 6] k1))) (fun k1 =>
k1 .normal [(0, a0), (1, a1), (6, t10)] h2) (seqK (fun tT_1 h4 =>
mc (get tT_1 6) (fun k3 => k3 .ret [(4, (.int .i64 1))] h4) (fun k3 =>
k3 .normal [(0, (get tT_1 0)), (1, (get tT_1 1))] h4) (seqK (fun tT_2 h5 =>
bareK (xbin P .lss T.int (.tmp 14) (.tmp 15) (get tT_2 0) (get tT_2 1)) h5 fun t16 h6 =>
mc t16 (fun k4 => k4 .ret [(4, (.int .i64 (-1)))] h6) (fun k4 =>
k4 .normal [(0, (get tT_2 0)), (1, (get tT_2 1))] h6) (seqK (fun tT_3 h7 =>
bareK (xbin P .gtr T.int (.tmp 17) (.tmp 18) (get tT_3 0) (get tT_3 1)) h7 fun t19 h8 =>
mc t19 (fun k5 => k5 .ret [(4, (.int .i64 1))] h8) (fun k5 =>
k5 .normal [] h8) (seqK (fun tT_4 h9 =>
K0 .ret [(4, (.int .i64 0))] h9) K0)) K0)) K0)) K0)

theorem s_cmp_Compare_int_eq (M : CombL) (C : CallF) (LP : LoopH) (a0 : Value) (a1 : Value) (H : AHeap) : dBodyL M Try.prog hints C LP F.cmp_Compare_int [a0, a1] H = s_cmp_Compare_int M.b.g M.c M.s Try.prog C a0 a1 H (endK Try.prog [.tmp 4]) := by kernel_rfl

/-! cmp.Compare[string] -/

noncomputable def s_cmp_Compare_string (mg : GT) (mc : CT) (ms : ST) (P : Program) (C : CallF) (a0 : Value) (a1 : Value) (H : AHeap) (K0 : K) : Res :=
enterK C F.cmp_isNaN_string [a0] H fun t8 h1 =>
enterK C F.cmp_isNaN_string [a1] h1 fun t10 h2 =>
mc t8 (fun k1 => mc t10 (fun k2 => k2 .ret [(4, (.int .i64 0))] h2) (fun k2 =>
k2 .normal [] h2) (seqK (fun tT h3 =>
k1 .ret [(4, (.int .i64 (-1)))] h3) (afterK [0, 1, 6] k1))) (fun k1 =>
k1 .normal [(0, a0), (1, a1), (6, t10)] h2) (seqK (fun tT_1 h4 =>
mc (get tT_1 6) (fun k3 => k3 .ret [(4, (.int .i64 1))] h4) (fun k3 =>
k3 .normal [(0, (get tT_1 0)), (1, (get tT_1 1))] h4) (seqK (fun tT_2 h5 =>
bareK (xbin P .lss T.string (.tmp 14) (.tmp 15) (get tT_2 0) (get tT_2 1)) h5 fun t16 h6 =>
mc t16 (fun k4 => k4 .ret [(4, (.int .i64 (-1)))] h6) (fun k4 =>
k4 .normal [(0, (get tT_2 0)), (1, (get tT_2 1))] h6) (seqK (fun tT_3 h7 =>
bareK (xbin P .gtr T.string (.tmp 17) (.tmp 18) (get tT_3 0) (get tT_3 1)) h7 fun t19 h8 =>
mc t19 (fun k5 => k5 .ret [(4, (.int .i64 1))] h8) (fun k5 =>
k5 .normal [] h8) (seqK (fun tT_4 h9 =>
K0 .ret [(4, (.int .i64 0))] h9) K0)) K0)) K0)) K0)

theorem s_cmp_Compare_string_eq (M : CombL) (C : CallF) (LP : LoopH) (a0 : Value) (a1 : Value) (H : AHeap) : dBodyL M Try.prog hints C LP F.cmp_Compare_string [a0, a1] H = s_cmp_Compare_string M.b.g M.c M.s Try.prog C a0 a1 H (endK Try.prog [.tmp 4]) := by kernel_rfl

/-! (*ticketline.model.Model).place -/

noncomputable def s_model_Model_place (mg : GT) (mc : CT) (ms : ST) (P : Program) (C : CallF) (a0 : Value) (a1 : Value) (H : AHeap) (K0 : K) : Res :=
bareK (xnilCheck a0) H fun t7 h1 =>
bareK (fad 0 t7) h1 fun t8 h2 =>
bareK (ld1 h2 t8) h2 fun t9 h3 =>
enterK C F.slices_BinarySearchFunc_string [t9, a1, (.func (.func F.model_Model_place_1) #[] #[])] h3 fun t11 h4 =>
bareK (xextract t11 0) h4 fun t12 h5 =>
bareK (xextract t11 1) h5 fun t13 h6 =>
K0 .ret [(4, t12), (5, t13)] h6

theorem s_model_Model_place_eq (M : CombL) (C : CallF) (LP : LoopH) (a0 : Value) (a1 : Value) (H : AHeap) : dBodyL M Try.prog hints C LP F.model_Model_place [a0, a1] H = s_model_Model_place M.b.g M.c M.s Try.prog C a0 a1 H (endK Try.prog [.tmp 4, .tmp 5]) := by kernel_rfl

/-! slices.Delete[[]ticketline.api.Pair,ticketline.api.Pair] -/

noncomputable def s_slices_Delete_Pair (mg : GT) (mc : CT) (ms : ST) (P : Program) (C : CallF) (a0 : Value) (a1 : Value) (a2 : Value) (H : AHeap) (K0 : K) : Res :=
bareK (lenS a0) H fun t12 h1 =>
bareK (slS T.api_Pair 2 a0 (some a1) (some a2) (some t12) h1) h1 fun t13 h2 =>
bareK (xbin P .eql T.int (.tmp 14) (.tmp 15) a1 a2) h2 fun t16 h3 =>
mc t16 (fun k1 => k1 .ret [(6, a0)] h3) (fun k1 =>
k1 .normal [(0, a0), (1, a1), (2, a2)] h3) (seqK (fun tT h4 =>
bareK (lenS (get tT 0)) h4 fun t19 h5 =>
bareK (slS T.api_Pair 2 (get tT 0) none (some (get tT 1)) none h5) h5 fun t22 h6 =>
bareK (slS T.api_Pair 2 (get tT 0) (some (get tT 2)) none none h6) h6 fun t25 h7 =>
bothK (app T.api_Pair 2 32 t22 (srcS 2 t25 h7) h7) fun t26 h8 =>
checkK true <|
bareK (lenS t26) h8 fun t29 h9 =>
bareK (slS T.api_Pair 2 t26 (some t29) (some t19) none h9) h9 fun t31 h10 =>
bothK (xclear P [T.sl_api_Pair] t31 h10) fun _ h11 =>
K0 .ret [(6, t26)] h11) K0)

theorem s_slices_Delete_Pair_eq (M : CombL) (C : CallF) (LP : LoopH) (a0 : Value) (a1 : Value) (a2 : Value) (H : AHeap) : dBodyL M Try.prog hints C LP F.slices_Delete_Pair [a0, a1, a2] H = s_slices_Delete_Pair M.b.g M.c M.s Try.prog C a0 a1 a2 H (endK Try.prog [.tmp 6]) := by kernel_rfl

/-! slices.IndexFunc[[]ticketline.api.Pair,ticketline.api.Pair] -/

noncomputable def s_slices_IndexFunc_Pair (mg : GT) (mc : CT) (ms : ST) (P : Program) (C : CallF) (L0 : Value → Value → Value → Value → AHeap → K → Res) (a0 : Value) (a1 : Value) (H : AHeap) (K0 : K) : Res :=
bareK (lenS a0) H fun t7 h1 =>
ms (fun k1 =>
L0 a0 a1 t7 (.int .i64 0) h1 (blkK [] 0 k1)) (seqK (fun tT h2 =>
K0 .ret [(4, (.int .i64 (-1)))] h2) K0)

noncomputable def s_slices_IndexFunc_Pair_b0 (mg : GT) (mc : CT) (ms : ST) (P : Program) (C : CallF) (L0 : Value → Value → Value → Value → AHeap → K → Res) (v0 : Value) (v1 : Value) (v7 : Value) (v8 : Value) (H : AHeap) (k : K) : Res :=
bareK (xbin P .lss T.int (.tmp 8) (.tmp 7) v8 v7) H fun t9 h2 =>
mc t9 (fun k2 => k2 .normal [(0, v0), (1, v1), (7, v7), (8, v8)] h2) (fun k2 =>
k2 (.exit 0) [(9, t9), (0, v0), (1, v1), (7, v7), (8, v8)] h2) (seqK (fun tT h3 =>
ms (fun k3 =>
bareK (ixS 2 (get tT 0) (get tT 8)) h3 fun t14 h4 =>
bareK (ldN 2 h4 t14) h4 fun t15 h5 =>
callK P C (get tT 1) [t15] h5 fun t16 h6 =>
mc t16 (fun k4 => k4 .ret [(4, (get tT 8))] h6) (fun k4 =>
k4 .normal [(0, (get tT 0)), (1, (get tT 1)), (7, (get tT 7)), (8, (get tT 8))] h6) (blkK [0, 1, 7, 8] 1 k3)) (seqK (fun tT_1 h7 =>
bareK (xbin P .add T.int (.tmp 8) (.const (.int .i64 1)) (get tT_1 8) (.int .i64 1)) h7 fun t18 h8 =>
k .normal [(0, (get tT_1 0)), (1, (get tT_1 1)), (7, (get tT_1 7)), (8, t18)] h8) (afterK [0, 1, 7, 8] k))) (afterK [0, 1, 7, 8] k))

theorem s_slices_IndexFunc_Pair_eq (M : CombL) (C : CallF) (LP : LoopH) (a0 : Value) (a1 : Value) (H : AHeap) : dBodyL M Try.prog hints C LP F.slices_IndexFunc_Pair [a0, a1] H = s_slices_IndexFunc_Pair M.b.g M.c M.s Try.prog C (fun v0 v1 v7 v8 H k => loopL M Try.prog hints C LP F.slices_IndexFunc_Pair 0 [(0, v0), (1, v1), (7, v7), (8, v8)] H k) a0 a1 H (endK Try.prog [.tmp 4]) := by kernel_rfl

theorem s_slices_IndexFunc_Pair_b0_eq (M : CombL) (C : CallF) (LP : LoopH) (v0 : Value) (v1 : Value) (v7 : Value) (v8 : Value) (H : AHeap) (k : K) : bodyL M Try.prog hints C LP F.slices_IndexFunc_Pair 0 [(0, v0), (1, v1), (7, v7), (8, v8)] H (afterK [0, 1, 7, 8] k) = s_slices_IndexFunc_Pair_b0 M.b.g M.c M.s Try.prog C (fun v0 v1 v7 v8 H k => loopL M Try.prog hints C LP F.slices_IndexFunc_Pair 0 [(0, v0), (1, v1), (7, v7), (8, v8)] H k) v0 v1 v7 v8 H k := by kernel_rfl

/-! slices.Clone[[]ticketline.api.Pair,ticketline.api.Pair] -/

noncomputable def s_slices_Clone_Pair (mg : GT) (mc : CT) (ms : ST) (P : Program) (C : CallF) (a0 : Value) (H : AHeap) (K0 : K) : Res :=
bareK (xbin P .eql T.sl_api_Pair (.tmp 3) (.const (.slice none 0 0)) a0 (.slice none 0 0)) H fun t4 h1 =>
mc t4 (fun k1 => k1 .ret [(2, (.slice none 0 0))] h1) (fun k1 =>
k1 .normal [(0, a0)] h1) (seqK (fun tT h2 =>
bothK (bldL T.api_Pair [(.string (mk [])), (.string (mk []))] 0 [] h2) fun t5 h3 =>
bothK (app T.api_Pair 2 32 t5 (srcS 2 (get tT 0) h3) h3) fun t7 h4 =>
K0 .ret [(2, t7)] h4) K0)

theorem s_slices_Clone_Pair_eq (M : CombL) (C : CallF) (LP : LoopH) (a0 : Value) (H : AHeap) : dBodyL M Try.prog hints C LP F.slices_Clone_Pair [a0] H = s_slices_Clone_Pair M.b.g M.c M.s Try.prog C a0 H (endK Try.prog [.tmp 2]) := by kernel_rfl

/-! ticketline.model.check -/

noncomputable def s_model_check (mg : GT) (mc : CT) (ms : ST) (P : Program) (C : CallF) (a0 : Value) (a1 : Value) (H : AHeap) (K0 : K) : Res :=
ms (fun k1 =>
bareK (xbin P .eql T.string (.tmp 6) (.const (.string (mk []))) a0 (.string (mk []))) H fun t7 h1 =>
mc t7 (fun k2 => k2 .ret [(4, (.int .i64 2))] h1) (fun k2 =>
bareK (lenT a0) h1 fun t10 h2 =>
bareK (xbin P .gtr T.int (.tmp 10) (.const (.int .i64 24)) t10 (.int .i64 24)) h2 fun t11 h3 =>
mg t11 false (fun o3 => o3 a1 h3) h3 fun t13 h4 =>
mg t11 false (fun o4 => enterK C F.slices_ContainsFunc_string [t13, (.func (.func F.model_check_1) #[] #[])] h4 o4) h4 fun t14 h5 =>
pickK t11 (.bool true) t14 fun t15 =>
mc t15 (fun k5 => k5 .ret [(4, (.int .i64 5))] h5) (fun k5 =>
k5 .normal [] h5) (afterK [] k2)) (blkK [] 0 k1)) (seqK (fun tT h6 =>
K0 .ret [(4, (.int .i64 0))] h6) K0)

theorem s_model_check_eq (M : CombL) (C : CallF) (LP : LoopH) (a0 : Value) (a1 : Value) (H : AHeap) : dBodyL M Try.prog hints C LP F.model_check [a0, a1] H = s_model_check M.b.g M.c M.s Try.prog C a0 a1 H (endK Try.prog [.tmp 4]) := by kernel_rfl

/-! slices.Insert[[]ticketline.api.Pair,ticketline.api.Pair] -/

noncomputable def s_slices_Insert_Pair (mg : GT) (mc : CT) (ms : ST) (P : Program) (C : CallF) (a0 : Value) (a1 : Value) (a2 : Value) (H : AHeap) (K0 : K) : Res :=
bareK (slS T.api_Pair 2 a0 (some a1) none none H) H fun t12 h1 =>
bareK (lenS a2) h1 fun t14 h2 =>
bareK (xbin P .eql T.int (.tmp 15) (.const (.int .i64 0)) t14 (.int .i64 0)) h2 fun t16 h3 =>
mc t16 (fun k1 => k1 .ret [(6, a0)] h3) (fun k1 =>
k1 .normal [(0, a0), (1, a1), (2, a2), (7, t14)] h3) (seqK (fun tT h4 =>
bareK (lenS (get tT 0)) h4 fun t19 h5 =>
bareK (xbin P .eql T.int (.tmp 20) (.tmp 21) (get tT 1) t19) h5 fun t22 h6 =>
mc t22 (fun k2 => bothK (app T.api_Pair 2 32 (get tT 0) (srcS 2 (get tT 2) h6) h6) fun t25 h7 =>
k2 .ret [(6, t25)] h7) (fun k2 =>
k2 .normal [(0, (get tT 0)), (1, (get tT 1)), (2, (get tT 2)), (7, (get tT 7)), (8, t19)] h6) (seqK (fun tT_1 h8 =>
bareK (xbin P .add T.int (.tmp 26) (.tmp 27) (get tT_1 8) (get tT_1 7)) h8 fun t28 h9 =>
nextK C h9 (xbuiltin P .cap [T.sl_api_Pair] [(get tT_1 0)] h9) fun t30 h10 =>
bareK (xbin P .gtr T.int (.tmp 28) (.tmp 30) t28 t30) h10 fun t31 h11 =>
mc t31 (fun k3 => bareK (slS T.api_Pair 2 (get tT_1 0) none (some (get tT_1 1)) none h11) h11 fun t34 h12 =>
bareK (xbin P .add T.int (.tmp 35) (.tmp 36) (get tT_1 8) (get tT_1 7)) h12 fun t37 h13 =>
bareK (xbin P .sub T.int (.tmp 37) (.tmp 38) t37 (get tT_1 1)) h13 fun t39 h14 =>
bothK (app T.api_Pair 2 32 t34 (srcZ [(.string (mk [])), (.string (mk []))] 32 t39) h14) fun t40 h15 =>
bareK (slS T.api_Pair 2 t40 (some (get tT_1 1)) none none h15) h15 fun t43 h16 =>
bothK (cpy 2 t43 (get tT_1 2) h16) fun t45 h17 =>
bareK (xbin P .add T.int (.tmp 47) (.tmp 48) (get tT_1 1) (get tT_1 7)) h17 fun t49 h18 =>
bareK (slS T.api_Pair 2 t40 (some t49) none none h18) h18 fun t50 h19 =>
bareK (slS T.api_Pair 2 (get tT_1 0) (some (get tT_1 1)) none none h19) h19 fun t53 h20 =>
bothK (cpy 2 t50 t53 h20) fun t54 h21 =>
checkK true <|
k3 .ret [(6, t40)] h21) (fun k3 =>
k3 .normal [(0, (get tT_1 0)), (1, (get tT_1 1)), (2, (get tT_1 2)), (7, (get tT_1 7)), (8, (get tT_1 8))] h11) (seqK (fun tT_2 h22 =>
bareK (xbin P .add T.int (.tmp 57) (.tmp 58) (get tT_2 8) (get tT_2 7)) h22 fun t59 h23 =>
bareK (slS T.api_Pair 2 (get tT_2 0) none (some t59) none h23) h23 fun t60 h24 =>
bareK (xbin P .add T.int (.tmp 63) (.tmp 64) (get tT_2 1) (get tT_2 7)) h24 fun t65 h25 =>
bareK (slS T.api_Pair 2 t60 (some t65) none none h25) h25 fun t66 h26 =>
bareK (xext P Try.f66 [(get tT_2 2), t66] h26) h26 fun t67 h27 =>
bareK (xun P .not t67) h27 fun t68 h28 =>
mc t68 (fun k4 => bareK (xbin P .add T.int (.tmp 70) (.tmp 71) (get tT_2 1) (get tT_2 7)) h28 fun t72 h29 =>
bareK (slS T.api_Pair 2 t60 (some t72) none none h29) h29 fun t73 h30 =>
bareK (slS T.api_Pair 2 t60 (some (get tT_2 1)) none none h30) h30 fun t76 h31 =>
bothK (cpy 2 t73 t76 h31) fun t77 h32 =>
checkK true <|
bareK (slS T.api_Pair 2 t60 (some (get tT_2 1)) none none h32) h32 fun t80 h33 =>
bothK (cpy 2 t80 (get tT_2 2) h33) fun t82 h34 =>
k4 .ret [(6, t60)] h34) (fun k4 =>
k4 .normal [(0, t60), (1, (get tT_2 1)), (2, (get tT_2 2)), (7, (get tT_2 7)), (8, (get tT_2 8))] h28) (seqK (fun tT_3 h35 =>
bareK (slS T.api_Pair 2 (get tT_3 0) (some (get tT_3 8)) none none h35) h35 fun t86 h36 =>
bothK (cpy 2 t86 (get tT_3 2) h36) fun t88 h37 =>
bareK (slS T.api_Pair 2 (get tT_3 0) (some (get tT_3 1)) none none h37) h37 fun t91 h38 =>
enterK C F.slices_rotateRight_Pair [t91, (get tT_3 7)] h38 fun t93 h39 =>
K0 .ret [(6, (get tT_3 0))] h39) K0)) K0)) K0)) K0)

theorem s_slices_Insert_Pair_eq (M : CombL) (C : CallF) (LP : LoopH) (a0 : Value) (a1 : Value) (a2 : Value) (H : AHeap) : dBodyL M Try.prog hints C LP F.slices_Insert_Pair [a0, a1, a2] H = s_slices_Insert_Pair M.b.g M.c M.s Try.prog C a0 a1 a2 H (endK Try.prog [.tmp 6]) := by kernel_rfl

/-! slices.pdqsortCmpFunc[string] -/

noncomputable def s_slices_pdqsortCmpFunc_string (mg : GT) (mc : CT) (ms : ST) (P : Program) (C : CallF) (L0 : Value → Value → Value → Value → Value → Value → Value → AHeap → K → Res) (a0 : Value) (a1 : Value) (a2 : Value) (a3 : Value) (a4 : Value) (H : AHeap) (K0 : K) : Res :=
ms (fun k1 =>
L0 a0 a1 a2 a3 a4 (.bool true) (.bool true) H (blkK [] 0 k1)) K0

noncomputable def s_slices_pdqsortCmpFunc_string_b0 (mg : GT) (mc : CT) (ms : ST) (P : Program) (C : CallF) (L0 : Value → Value → Value → Value → Value → Value → Value → AHeap → K → Res) (v0 : Value) (v1 : Value) (v2 : Value) (v3 : Value) (v4 : Value) (v10 : Value) (v11 : Value) (H : AHeap) (k : K) : Res :=
ms (fun k2 =>
bareK (xbin P .sub T.int (.tmp 21) (.tmp 22) v2 v1) H fun t23 h1 =>
bareK (xbin P .leq T.int (.tmp 24) (.const (.int .i64 12)) t23 (.int .i64 12)) h1 fun t25 h2 =>
mc t25 (fun k3 => enterK C F.slices_insertionSortCmpFunc_string [v0, v1, v2, v4] h2 fun t30 h3 =>
k3 .ret [] h3) (fun k3 =>
k3 .normal [(0, v0), (1, v1), (2, v2), (3, v3), (4, v4), (10, v10), (11, v11), (12, t23)] h2) (seqK (fun tT h4 =>
bareK (xbin P .eql T.int (.tmp 31) (.const (.int .i64 0)) (get tT 3) (.int .i64 0)) h4 fun t32 h5 =>
mc t32 (fun k4 => enterK C F.slices_heapSortCmpFunc_string [(get tT 0), (get tT 1), (get tT 2), (get tT 4)] h5 fun t37 h6 =>
k4 .ret [] h6) (fun k4 =>
k4 .normal [(0, (get tT 0)), (1, (get tT 1)), (2, (get tT 2)), (3, (get tT 3)), (4, (get tT 4)), (10, (get tT 10)), (11, (get tT 11)), (12, (get tT 12))] h5) (seqK (fun tT_1 h7 =>
bareK (xun P .not (get tT_1 10)) h7 fun t39 h8 =>
mc t39 (fun k5 => enterK C F.slices_breakPatternsCmpFunc_string [(get tT_1 0), (get tT_1 1), (get tT_1 2), (get tT_1 4)] h8 fun t44 h9 =>
bareK (xbin P .sub T.int (.tmp 45) (.const (.int .i64 1)) (get tT_1 3) (.int .i64 1)) h9 fun t46 h10 =>
k5 .normal [(0, (get tT_1 0)), (1, (get tT_1 1)), (2, (get tT_1 2)), (3, t46), (4, (get tT_1 4)), (10, (get tT_1 10)), (11, (get tT_1 11)), (12, (get tT_1 12))] h10) (fun k5 =>
k5 .normal [(0, (get tT_1 0)), (1, (get tT_1 1)), (2, (get tT_1 2)), (3, (get tT_1 3)), (4, (get tT_1 4)), (10, (get tT_1 10)), (11, (get tT_1 11)), (12, (get tT_1 12))] h8) (seqK (fun tT_2 h11 =>
enterK C F.slices_choosePivotCmpFunc_string [(get tT_2 0), (get tT_2 1), (get tT_2 2), (get tT_2 4)] h11 fun t52 h12 =>
bareK (xextract t52 0) h12 fun t53 h13 =>
bareK (xextract t52 1) h13 fun t54 h14 =>
bareK (xbin P .eql T.slices_sortedHint (.tmp 55) (.const (.int .i64 2)) t54 (.int .i64 2)) h14 fun t56 h15 =>
mc t56 (fun k6 => enterK C F.slices_reverseRangeCmpFunc_string [(get tT_2 0), (get tT_2 1), (get tT_2 2), (get tT_2 4)] h15 fun t61 h16 =>
bareK (xbin P .sub T.int (.tmp 62) (.const (.int .i64 1)) (get tT_2 2) (.int .i64 1)) h16 fun t63 h17 =>
bareK (xbin P .sub T.int (.tmp 64) (.tmp 65) t53 (get tT_2 1)) h17 fun t66 h18 =>
bareK (xbin P .sub T.int (.tmp 63) (.tmp 66) t63 t66) h18 fun t67 h19 =>
k6 .normal [(0, (get tT_2 0)), (1, (get tT_2 1)), (2, (get tT_2 2)), (3, (get tT_2 3)), (4, (get tT_2 4)), (10, (get tT_2 10)), (11, (get tT_2 11)), (12, (get tT_2 12)), (13, t67), (14, (.int .i64 1))] h19) (fun k6 =>
k6 .normal [(0, (get tT_2 0)), (1, (get tT_2 1)), (2, (get tT_2 2)), (3, (get tT_2 3)), (4, (get tT_2 4)), (10, (get tT_2 10)), (11, (get tT_2 11)), (12, (get tT_2 12)), (13, t53), (14, t54)] h15) (seqK (fun tT_3 h20 =>
mg (get tT_3 10) true (fun o7 => o7 (get tT_3 11) h20) h20 fun t70 h21 =>
pickK (get tT_3 10) t70 (.bool false) fun t71 =>
mg t71 true (fun o8 => o8 (get tT_3 14) h21) h21 fun t73 h22 =>
mg t71 true (fun o9 => bareK (xbin P .eql T.slices_sortedHint (.tmp 73) (.const (.int .i64 1)) t73 (.int .i64 1)) h22 o9) h22 fun t74 h23 =>
pickK t71 t74 (.bool false) fun t75 =>
mc t75 (fun k10 => enterK C F.slices_partialInsertionSortCmpFunc_string [(get tT_3 0), (get tT_3 1), (get tT_3 2), (get tT_3 4)] h23 fun t80 h24 =>
mc t80 (fun k11 => k11 .ret [] h24) (fun k11 =>
k11 .normal [(0, (get tT_3 0)), (1, (get tT_3 1)), (2, (get tT_3 2)), (3, (get tT_3 3)), (4, (get tT_3 4)), (10, (get tT_3 10)), (11, (get tT_3 11)), (12, (get tT_3 12)), (13, (get tT_3 13))] h24) (afterK [0, 1, 2, 3, 4, 10, 11, 12, 13] k10)) (fun k10 =>
k10 .normal [(0, (get tT_3 0)), (1, (get tT_3 1)), (2, (get tT_3 2)), (3, (get tT_3 3)), (4, (get tT_3 4)), (10, (get tT_3 10)), (11, (get tT_3 11)), (12, (get tT_3 12)), (13, (get tT_3 13))] h23) (seqK (fun tT_4 h25 =>
bareK (xbin P .gtr T.int (.tmp 81) (.const (.int .i64 0)) (get tT_4 1) (.int .i64 0)) h25 fun t82 h26 =>
mg t82 true (fun o12 => o12 (get tT_4 4) h26) h26 fun t84 h27 =>
mg t82 true (fun o13 => o13 (get tT_4 0) h27) h27 fun t85 h28 =>
mg t82 true (fun o14 => o14 (get tT_4 1) h28) h28 fun t86 h29 =>
mg t82 true (fun o15 => bareK (xbin P .sub T.int (.tmp 86) (.const (.int .i64 1)) t86 (.int .i64 1)) h29 o15) h29 fun t87 h30 =>
mg t82 true (fun o16 => bareK (ixS 1 t85 t87) h30 o16) h30 fun t88 h31 =>
mg t82 true (fun o17 => bareK (ld1 h31 t88) h31 o17) h31 fun t89 h32 =>
mg t82 true (fun o18 => o18 (get tT_4 0) h32) h32 fun t90 h33 =>
mg t82 true (fun o19 => o19 (get tT_4 13) h33) h33 fun t91 h34 =>
mg t82 true (fun o20 => bareK (ixS 1 t90 t91) h34 o20) h34 fun t92 h35 =>
mg t82 true (fun o21 => bareK (ld1 h35 t92) h35 o21) h35 fun t93 h36 =>
mg t82 true (fun o22 => callK P C t84 [t89, t93] h36 o22) h36 fun t94 h37 =>
mg t82 true (fun o23 => bareK (xbin P .lss T.int (.tmp 94) (.const (.int .i64 0)) t94 (.int .i64 0)) h37 o23) h37 fun t95 h38 =>
mg t82 true (fun o24 => bareK (xun P .not t95) h38 o24) h38 fun t96 h39 =>
pickK t82 t96 (.bool false) fun t97 =>
checkK true <|
mc t97 (fun k25 => enterK C F.slices_partitionEqualCmpFunc_string [(get tT_4 0), (get tT_4 1), (get tT_4 2), (get tT_4 13), (get tT_4 4)] h39 fun t103 h40 =>
k25 (.exit 1) ((1, t103) :: (104, t103) :: (15, t103) :: (103, t103) :: (102, (get tT_4 4)) :: (101, (get tT_4 13)) :: (100, (get tT_4 2)) :: (99, (get tT_4 1)) :: (98, (get tT_4 0)) :: (97, t97) :: (96, t96) :: (95, t95) :: (94, t94) :: (93, t93) :: (92, t92) :: (91, t91) :: (90, t90) :: (89, t89) :: (88, t88) :: (87, t87) :: (86, t86) :: (85, t85) :: (84, t84) :: (83, t82) :: (82, t82) :: (81, (get tT_4 1)) :: tT_4) h40) (fun k25 =>
k25 .normal [(0, (get tT_4 0)), (1, (get tT_4 1)), (2, (get tT_4 2)), (3, (get tT_4 3)), (4, (get tT_4 4)), (12, (get tT_4 12)), (13, (get tT_4 13))] h39) (seqK (fun tT_5 h41 =>
enterK C F.slices_partitionCmpFunc_string [(get tT_5 0), (get tT_5 1), (get tT_5 2), (get tT_5 13), (get tT_5 4)] h41 fun t111 h42 =>
bareK (xextract t111 0) h42 fun t112 h43 =>
bareK (xextract t111 1) h43 fun t113 h44 =>
bareK (xbin P .sub T.int (.tmp 115) (.tmp 116) t112 (get tT_5 1)) h44 fun t117 h45 =>
bareK (xbin P .sub T.int (.tmp 118) (.tmp 119) (get tT_5 2) t112) h45 fun t120 h46 =>
bareK (xbin P .quo T.int (.tmp 121) (.const (.int .i64 8)) (get tT_5 12) (.int .i64 8)) h46 fun t122 h47 =>
bareK (xbin P .lss T.int (.tmp 123) (.tmp 124) t117 t120) h47 fun t125 h48 =>
mc t125 (fun k26 => bareK (xbin P .geq T.int (.tmp 126) (.tmp 127) t117 t122) h48 fun t128 h49 =>
enterK C F.slices_pdqsortCmpFunc_string [(get tT_5 0), (get tT_5 1), t112, (get tT_5 3), (get tT_5 4)] h49 fun t134 h50 =>
bareK (xbin P .add T.int (.tmp 135) (.const (.int .i64 1)) t112 (.int .i64 1)) h50 fun t136 h51 =>
k26 .normal [(0, (get tT_5 0)), (1, t136), (2, (get tT_5 2)), (3, (get tT_5 3)), (4, (get tT_5 4)), (10, t128), (11, t113)] h51) (fun k26 =>
bareK (xbin P .geq T.int (.tmp 137) (.tmp 138) t120 t122) h48 fun t139 h52 =>
bareK (xbin P .add T.int (.tmp 141) (.const (.int .i64 1)) t112 (.int .i64 1)) h52 fun t142 h53 =>
enterK C F.slices_pdqsortCmpFunc_string [(get tT_5 0), t142, (get tT_5 2), (get tT_5 3), (get tT_5 4)] h53 fun t146 h54 =>
k26 .normal [(0, (get tT_5 0)), (1, (get tT_5 1)), (2, t112), (3, (get tT_5 3)), (4, (get tT_5 4)), (10, t139), (11, t113)] h54) (blkK [0, 1, 2, 3, 4, 10, 11] 1 k2)) (blkK [0, 1, 2, 3, 4, 10, 11] 1 k2))) (blkK [0, 1, 2, 3, 4, 10, 11] 1 k2))) (blkK [0, 1, 2, 3, 4, 10, 11] 1 k2))) (blkK [0, 1, 2, 3, 4, 10, 11] 1 k2))) (blkK [0, 1, 2, 3, 4, 10, 11] 1 k2))) (blkK [0, 1, 2, 3, 4, 10, 11] 1 k2))) (afterK [0, 1, 2, 3, 4, 10, 11] k)

theorem s_slices_pdqsortCmpFunc_string_eq (M : CombL) (C : CallF) (LP : LoopH) (a0 : Value) (a1 : Value) (a2 : Value) (a3 : Value) (a4 : Value) (H : AHeap) : dBodyL M Try.prog hints C LP F.slices_pdqsortCmpFunc_string [a0, a1, a2, a3, a4] H = s_slices_pdqsortCmpFunc_string M.b.g M.c M.s Try.prog C (fun v0 v1 v2 v3 v4 v10 v11 H k => loopL M Try.prog hints C LP F.slices_pdqsortCmpFunc_string 0 [(0, v0), (1, v1), (2, v2), (3, v3), (4, v4), (10, v10), (11, v11)] H k) a0 a1 a2 a3 a4 H (endK Try.prog []) := by kernel_rfl

theorem s_slices_pdqsortCmpFunc_string_b0_eq (M : CombL) (C : CallF) (LP : LoopH) (v0 : Value) (v1 : Value) (v2 : Value) (v3 : Value) (v4 : Value) (v10 : Value) (v11 : Value) (H : AHeap) (k : K) : bodyL M Try.prog hints C LP F.slices_pdqsortCmpFunc_string 0 [(0, v0), (1, v1), (2, v2), (3, v3), (4, v4), (10, v10), (11, v11)] H (afterK [0, 1, 2, 3, 4, 10, 11] k) = s_slices_pdqsortCmpFunc_string_b0 M.b.g M.c M.s Try.prog C (fun v0 v1 v2 v3 v4 v10 v11 H k => loopL M Try.prog hints C LP F.slices_pdqsortCmpFunc_string 0 [(0, v0), (1, v1), (2, v2), (3, v3), (4, v4), (10, v10), (11, v11)] H k) v0 v1 v2 v3 v4 v10 v11 H k := by kernel_rfl

/-! math.bits.Len -/

noncomputable def s_math_bits_Len (mg : GT) (mc : CT) (ms : ST) (P : Program) (C : CallF) (a0 : Value) (H : AHeap) (K0 : K) : Res :=
mc (.bool false) (fun k1 => bothK (xconv P T.uint T.uint32 a0 H) fun t4 h1 =>
enterK C F.math_bits_Len32 [t4] h1 fun t5 h2 =>
k1 .ret [(2, t5)] h2) (fun k1 =>
k1 .normal [(0, a0)] H) (seqK (fun tT h3 =>
enterK C F.math_bits_Len64 [(get tT 0)] h3 fun t7 h4 =>
K0 .ret [(2, t7)] h4) K0)

theorem s_math_bits_Len_eq (M : CombL) (C : CallF) (LP : LoopH) (a0 : Value) (H : AHeap) : dBodyL M Try.prog hints C LP F.math_bits_Len [a0] H = s_math_bits_Len M.b.g M.c M.s Try.prog C a0 H (endK Try.prog [.tmp 2]) := by kernel_rfl

/-! cmp.isNaN[int] -/

noncomputable def s_cmp_isNaN_int (mg : GT) (mc : CT) (ms : ST) (P : Program) (C : CallF) (a0 : Value) (H : AHeap) (K0 : K) : Res :=
bareK (xbin P .neq T.int (.tmp 3) (.tmp 4) a0 a0) H fun t5 h1 =>
K0 .ret [(2, t5)] h1

theorem s_cmp_isNaN_int_eq (M : CombL) (C : CallF) (LP : LoopH) (a0 : Value) (H : AHeap) : dBodyL M Try.prog hints C LP F.cmp_isNaN_int [a0] H = s_cmp_isNaN_int M.b.g M.c M.s Try.prog C a0 H (endK Try.prog [.tmp 2]) := by kernel_rfl

/-! cmp.isNaN[string] -/

noncomputable def s_cmp_isNaN_string (mg : GT) (mc : CT) (ms : ST) (P : Program) (C : CallF) (a0 : Value) (H : AHeap) (K0 : K) : Res :=
bareK (xbin P .neq T.string (.tmp 3) (.tmp 4) a0 a0) H fun t5 h1 =>
K0 .ret [(2, t5)] h1

theorem s_cmp_isNaN_string_eq (M : CombL) (C : CallF) (LP : LoopH) (a0 : Value) (H : AHeap) : dBodyL M Try.prog hints C LP F.cmp_isNaN_string [a0] H = s_cmp_isNaN_string M.b.g M.c M.s Try.prog C a0 H (endK Try.prog [.tmp 2]) := by kernel_rfl

/-! slices.BinarySearchFunc[[]ticketline.api.Pair,ticketline.api.Pair,string] -/

noncomputable def s_slices_BinarySearchFunc_string (mg : GT) (mc : CT) (ms : ST) (P : Program) (C : CallF) (L0 : Value → Value → Value → Value → Value → Value → AHeap → K → Res) (a0 : Value) (a1 : Value) (a2 : Value) (H : AHeap) (K0 : K) : Res :=
bareK (lenS a0) H fun t13 h1 =>
ms (fun k1 =>
L0 a0 a1 a2 t13 (.int .i64 0) t13 h1 (blkK [0, 1, 2, 8, 9] 0 k1)) (seqK (fun tT h2 =>
bareK (xbin P .lss T.int (.tmp 36) (.tmp 37) (get tT 9) (get tT 8)) h2 fun t38 h3 =>
mg t38 true (fun o2 => o2 (get tT 2) h3) h3 fun t40 h4 =>
mg t38 true (fun o3 => o3 (get tT 0) h4) h4 fun t41 h5 =>
mg t38 true (fun o4 => o4 (get tT 9) h5) h5 fun t42 h6 =>
mg t38 true (fun o5 => bareK (ixS 2 t41 t42) h6 o5) h6 fun t43 h7 =>
mg t38 true (fun o6 => bareK (ldN 2 h7 t43) h7 o6) h7 fun t44 h8 =>
mg t38 true (fun o7 => o7 (get tT 1) h8) h8 fun t45 h9 =>
mg t38 true (fun o8 => callK P C t40 [t44, t45] h9 o8) h9 fun t46 h10 =>
mg t38 true (fun o9 => bareK (xbin P .eql T.int (.tmp 46) (.const (.int .i64 0)) t46 (.int .i64 0)) h10 o9) h10 fun t47 h11 =>
pickK t38 t47 (.bool false) fun t48 =>
K0 .ret [(6, (get tT 9)), (7, t48)] h11) K0)

noncomputable def s_slices_BinarySearchFunc_string_b0 (mg : GT) (mc : CT) (ms : ST) (P : Program) (C : CallF) (L0 : Value → Value → Value → Value → Value → Value → AHeap → K → Res) (v0 : Value) (v1 : Value) (v2 : Value) (v8 : Value) (v9 : Value) (v10 : Value) (H : AHeap) (k : K) : Res :=
bareK (xbin P .lss T.int (.tmp 15) (.tmp 16) v9 v10) H fun t17 h2 =>
mc t17 (fun k2 => k2 .normal [(0, v0), (1, v1), (2, v2), (8, v8), (9, v9), (10, v10)] h2) (fun k2 =>
k2 (.exit 0) [(17, t17), (16, v10), (15, v9), (0, v0), (1, v1), (2, v2), (8, v8), (9, v9), (10, v10)] h2) (seqK (fun tT h3 =>
ms (fun k3 =>
bareK (xbin P .add T.int (.tmp 18) (.tmp 19) (get tT 9) (get tT 10)) h3 fun t20 h4 =>
bothK (xconv P T.int T.uint t20 h4) fun t21 h5 =>
bareK (xbin P .shr T.uint (.tmp 21) (.const (.int .u64 1)) t21 (.int .u64 1)) h5 fun t22 h6 =>
bothK (xconv P T.uint T.int t22 h6) fun t23 h7 =>
bareK (ixS 2 (get tT 0) t23) h7 fun t27 h8 =>
bareK (ldN 2 h8 t27) h8 fun t28 h9 =>
callK P C (get tT 2) [t28, (get tT 1)] h9 fun t30 h10 =>
bareK (xbin P .lss T.int (.tmp 30) (.const (.int .i64 0)) t30 (.int .i64 0)) h10 fun t31 h11 =>
mc t31 (fun k4 => bareK (xbin P .add T.int (.tmp 32) (.const (.int .i64 1)) t23 (.int .i64 1)) h11 fun t33 h12 =>
k4 .normal [(0, (get tT 0)), (1, (get tT 1)), (2, (get tT 2)), (8, (get tT 8)), (9, t33), (10, (get tT 10))] h12) (fun k4 =>
k4 .normal [(0, (get tT 0)), (1, (get tT 1)), (2, (get tT 2)), (8, (get tT 8)), (9, (get tT 9)), (10, t23)] h11) (blkK [0, 1, 2, 8, 9, 10] 1 k3)) (afterK [0, 1, 2, 8, 9, 10] k)) (afterK [0, 1, 2, 8, 9, 10] k))

theorem s_slices_BinarySearchFunc_string_eq (M : CombL) (C : CallF) (LP : LoopH) (a0 : Value) (a1 : Value) (a2 : Value) (H : AHeap) : dBodyL M Try.prog hints C LP F.slices_BinarySearchFunc_string [a0, a1, a2] H = s_slices_BinarySearchFunc_string M.b.g M.c M.s Try.prog C (fun v0 v1 v2 v8 v9 v10 H k => loopL M Try.prog hints C LP F.slices_BinarySearchFunc_string 0 [(0, v0), (1, v1), (2, v2), (8, v8), (9, v9), (10, v10)] H k) a0 a1 a2 H (endK Try.prog [.tmp 6, .tmp 7]) := by kernel_rfl

theorem s_slices_BinarySearchFunc_string_b0_eq (M : CombL) (C : CallF) (LP : LoopH) (v0 : Value) (v1 : Value) (v2 : Value) (v8 : Value) (v9 : Value) (v10 : Value) (H : AHeap) (k : K) : bodyL M Try.prog hints C LP F.slices_BinarySearchFunc_string 0 [(0, v0), (1, v1), (2, v2), (8, v8), (9, v9), (10, v10)] H (afterK [0, 1, 2, 8, 9, 10] k) = s_slices_BinarySearchFunc_string_b0 M.b.g M.c M.s Try.prog C (fun v0 v1 v2 v8 v9 v10 H k => loopL M Try.prog hints C LP F.slices_BinarySearchFunc_string 0 [(0, v0), (1, v1), (2, v2), (8, v8), (9, v9), (10, v10)] H k) v0 v1 v2 v8 v9 v10 H k := by kernel_rfl

/-! (*ticketline.model.Model).place$1 -/

noncomputable def s_model_Model_place_1 (mg : GT) (mc : CT) (ms : ST) (P : Program) (C : CallF) (a0 : Value) (a1 : Value) (H : AHeap) (K0 : K) : Res :=
bothK (newv T.api_Pair a0 H) fun t2 h1 =>
bareK (fad 0 t2) h1 fun t5 h2 =>
bareK (ld1 h2 t5) h2 fun t6 h3 =>
enterK C F.keys_Compare [t6, a1] h3 fun t8 h4 =>
K0 .ret [(4, t8)] h4

theorem s_model_Model_place_1_eq (M : CombL) (C : CallF) (LP : LoopH) (a0 : Value) (a1 : Value) (H : AHeap) : dBodyL M Try.prog hints C LP F.model_Model_place_1 [a0, a1] H = s_model_Model_place_1 M.b.g M.c M.s Try.prog C a0 a1 H (endK Try.prog [.tmp 4]) := by kernel_rfl

/-! ticketline.keys.Compare -/

noncomputable def s_keys_Compare (mg : GT) (mc : CT) (ms : ST) (P : Program) (C : CallF) (a0 : Value) (a1 : Value) (H : AHeap) (K0 : K) : Res :=
enterK C F.strings_Compare [a0, a1] H fun t7 h1 =>
K0 .ret [(4, t7)] h1

theorem s_keys_Compare_eq (M : CombL) (C : CallF) (LP : LoopH) (a0 : Value) (a1 : Value) (H : AHeap) : dBodyL M Try.prog hints C LP F.keys_Compare [a0, a1] H = s_keys_Compare M.b.g M.c M.s Try.prog C a0 a1 H (endK Try.prog [.tmp 4]) := by kernel_rfl

/-! slices.ContainsFunc[[]string,string] -/

noncomputable def s_slices_ContainsFunc_string (mg : GT) (mc : CT) (ms : ST) (P : Program) (C : CallF) (a0 : Value) (a1 : Value) (H : AHeap) (K0 : K) : Res :=
enterK C F.slices_IndexFunc_string [a0, a1] H fun t7 h1 =>
bareK (xbin P .geq T.int (.tmp 7) (.const (.int .i64 0)) t7 (.int .i64 0)) h1 fun t8 h2 =>
K0 .ret [(4, t8)] h2

theorem s_slices_ContainsFunc_string_eq (M : CombL) (C : CallF) (LP : LoopH) (a0 : Value) (a1 : Value) (H : AHeap) : dBodyL M Try.prog hints C LP F.slices_ContainsFunc_string [a0, a1] H = s_slices_ContainsFunc_string M.b.g M.c M.s Try.prog C a0 a1 H (endK Try.prog [.tmp 4]) := by kernel_rfl

/-! ticketline.model.check$1 -/

noncomputable def s_model_check_1 (mg : GT) (mc : CT) (ms : ST) (P : Program) (C : CallF) (a0 : Value) (H : AHeap) (K0 : K) : Res :=
bareK (lenT a0) H fun t4 h1 =>
bareK (xbin P .gtr T.int (.tmp 4) (.const (.int .i64 40)) t4 (.int .i64 40)) h1 fun t5 h2 =>
K0 .ret [(2, t5)] h2

theorem s_model_check_1_eq (M : CombL) (C : CallF) (LP : LoopH) (a0 : Value) (H : AHeap) : dBodyL M Try.prog hints C LP F.model_check_1 [a0] H = s_model_check_1 M.b.g M.c M.s Try.prog C a0 H (endK Try.prog [.tmp 2]) := by kernel_rfl

/-! slices.rotateRight[ticketline.api.Pair] -/

noncomputable def s_slices_rotateRight_Pair (mg : GT) (mc : CT) (ms : ST) (P : Program) (C : CallF) (a0 : Value) (a1 : Value) (H : AHeap) (K0 : K) : Res :=
bareK (lenS a0) H fun t6 h1 =>
bareK (xbin P .sub T.int (.tmp 6) (.tmp 7) t6 a1) h1 fun t8 h2 =>
enterK C F.slices_rotateLeft_Pair [a0, t8] h2 fun t9 h3 =>
K0 .normal [(9, t9), (8, t8), (7, a1), (6, t6), (5, a0), (4, a0), (0, a0), (1, a1)] h3

theorem s_slices_rotateRight_Pair_eq (M : CombL) (C : CallF) (LP : LoopH) (a0 : Value) (a1 : Value) (H : AHeap) : dBodyL M Try.prog hints C LP F.slices_rotateRight_Pair [a0, a1] H = s_slices_rotateRight_Pair M.b.g M.c M.s Try.prog C a0 a1 H (endK Try.prog []) := by kernel_rfl

/-! slices.insertionSortCmpFunc[string] -/

noncomputable def s_slices_insertionSortCmpFunc_string (mg : GT) (mc : CT) (ms : ST) (P : Program) (C : CallF) (L0 : Value → Value → Value → Value → Value → AHeap → K → Res) (L1 : Value → Value → Value → Value → Value → Value → AHeap → K → Res) (a0 : Value) (a1 : Value) (a2 : Value) (a3 : Value) (H : AHeap) (K0 : K) : Res :=
bareK (xbin P .add T.int (.tmp 10) (.const (.int .i64 1)) a1 (.int .i64 1)) H fun t11 h1 =>
ms (fun k1 =>
L0 a0 a1 a2 a3 t11 h1 (blkK [] 0 k1)) K0

noncomputable def s_slices_insertionSortCmpFunc_string_b0 (mg : GT) (mc : CT) (ms : ST) (P : Program) (C : CallF) (L0 : Value → Value → Value → Value → Value → AHeap → K → Res) (L1 : Value → Value → Value → Value → Value → Value → AHeap → K → Res) (v0 : Value) (v1 : Value) (v2 : Value) (v3 : Value) (v8 : Value) (H : AHeap) (k : K) : Res :=
bareK (xbin P .lss T.int (.tmp 12) (.tmp 13) v8 v2) H fun t14 h2 =>
mc t14 (fun k2 => k2 .normal [(0, v0), (1, v1), (2, v2), (3, v3), (8, v8)] h2) (fun k2 =>
k2 (.exit 0) [(14, t14), (13, v2), (12, v8), (0, v0), (1, v1), (2, v2), (3, v3), (8, v8)] h2) (seqK (fun tT h3 =>
ms (fun k3 =>
ms (fun k4 =>
L1 (get tT 0) (get tT 1) (get tT 2) (get tT 3) (get tT 8) (get tT 8) h3 (blkK [0, 1, 2, 3, 8] 2 k4)) (blkK [0, 1, 2, 3, 8] 1 k3)) (seqK (fun tT_1 h4 =>
bareK (xbin P .add T.int (.tmp 15) (.const (.int .i64 1)) (get tT_1 8) (.int .i64 1)) h4 fun t16 h5 =>
k .normal [(0, (get tT_1 0)), (1, (get tT_1 1)), (2, (get tT_1 2)), (3, (get tT_1 3)), (8, t16)] h5) (afterK [0, 1, 2, 3, 8] k))) (afterK [0, 1, 2, 3, 8] k))

noncomputable def s_slices_insertionSortCmpFunc_string_b1 (mg : GT) (mc : CT) (ms : ST) (P : Program) (C : CallF) (L0 : Value → Value → Value → Value → Value → AHeap → K → Res) (L1 : Value → Value → Value → Value → Value → Value → AHeap → K → Res) (v0 : Value) (v1 : Value) (v2 : Value) (v3 : Value) (v8 : Value) (v9 : Value) (H : AHeap) (k : K) : Res :=
bareK (xbin P .gtr T.int (.tmp 18) (.tmp 19) v9 v1) H fun t20 h4 =>
mg t20 true (fun o5 => o5 v3 h4) h4 fun t22 h5 =>
mg t20 true (fun o6 => o6 v0 h5) h5 fun t23 h6 =>
mg t20 true (fun o7 => o7 v9 h6) h6 fun t24 h7 =>
mg t20 true (fun o8 => bareK (ixS 1 t23 t24) h7 o8) h7 fun t25 h8 =>
mg t20 true (fun o9 => bareK (ld1 h8 t25) h8 o9) h8 fun t26 h9 =>
mg t20 true (fun o10 => o10 v0 h9) h9 fun t27 h10 =>
mg t20 true (fun o11 => o11 v9 h10) h10 fun t28 h11 =>
mg t20 true (fun o12 => bareK (xbin P .sub T.int (.tmp 28) (.const (.int .i64 1)) t28 (.int .i64 1)) h11 o12) h11 fun t29 h12 =>
mg t20 true (fun o13 => bareK (ixS 1 t27 t29) h12 o13) h12 fun t30 h13 =>
mg t20 true (fun o14 => bareK (ld1 h13 t30) h13 o14) h13 fun t31 h14 =>
mg t20 true (fun o15 => callK P C t22 [t26, t31] h14 o15) h14 fun t32 h15 =>
mg t20 true (fun o16 => bareK (xbin P .lss T.int (.tmp 32) (.const (.int .i64 0)) t32 (.int .i64 0)) h15 o16) h15 fun t33 h16 =>
pickK t20 t33 (.bool false) fun t34 =>
checkK true <|
mc t34 (fun k17 => k17 .normal [(0, v0), (1, v1), (2, v2), (3, v3), (8, v8), (9, v9)] h16) (fun k17 =>
k17 (.exit 2) [(34, t34), (33, t33), (32, t32), (31, t31), (30, t30), (29, t29), (28, t28), (27, t27), (26, t26), (25, t25), (24, t24), (23, t23), (22, t22), (21, t20), (20, t20), (19, v1), (18, v9), (0, v0), (1, v1), (2, v2), (3, v3), (8, v8), (9, v9)] h16) (seqK (fun tT h17 =>
ms (fun k18 =>
bareK (xbin P .sub T.int (.tmp 40) (.const (.int .i64 1)) (get tT 9) (.int .i64 1)) h17 fun t41 h18 =>
bareK (xbin P .sub T.int (.tmp 43) (.const (.int .i64 1)) (get tT 9) (.int .i64 1)) h18 fun t44 h19 =>
bareK (ixS 1 (get tT 0) t44) h19 fun t45 h20 =>
bareK (ld1 h20 t45) h20 fun t46 h21 =>
bareK (ixS 1 (get tT 0) (get tT 9)) h21 fun t49 h22 =>
bareK (ld1 h22 t49) h22 fun t50 h23 =>
bareK (ixS 1 (get tT 0) (get tT 9)) h23 fun t51 h24 =>
quietK (st1 h24 t51 t46) fun _ h25 =>
bareK (ixS 1 (get tT 0) t41) h25 fun t52 h26 =>
quietK (st1 h26 t52 t50) fun _ h27 =>
checkK (okV (some true) none h24 h25 h17 h17 && (okV (some true) none h24 h25 h17 h17 && (okV (some true) none h24 h25 h17 h18 && true))) <|
k18 .normal [(0, (get tT 0)), (1, (get tT 1)), (2, (get tT 2)), (3, (get tT 3)), (8, (get tT 8)), (9, (get tT 9))] h27) (seqK (fun tT_1 h28 =>
bareK (xbin P .sub T.int (.tmp 35) (.const (.int .i64 1)) (get tT_1 9) (.int .i64 1)) h28 fun t36 h29 =>
k .normal [(0, (get tT_1 0)), (1, (get tT_1 1)), (2, (get tT_1 2)), (3, (get tT_1 3)), (8, (get tT_1 8)), (9, t36)] h29) (afterK [0, 1, 2, 3, 8, 9] k))) (afterK [0, 1, 2, 3, 8, 9] k))

theorem s_slices_insertionSortCmpFunc_string_eq (M : CombL) (C : CallF) (LP : LoopH) (a0 : Value) (a1 : Value) (a2 : Value) (a3 : Value) (H : AHeap) : dBodyL M Try.prog hints C LP F.slices_insertionSortCmpFunc_string [a0, a1, a2, a3] H = s_slices_insertionSortCmpFunc_string M.b.g M.c M.s Try.prog C (fun v0 v1 v2 v3 v8 H k => loopL M Try.prog hints C LP F.slices_insertionSortCmpFunc_string 0 [(0, v0), (1, v1), (2, v2), (3, v3), (8, v8)] H k) (fun v0 v1 v2 v3 v8 v9 H k => loopL M Try.prog hints C LP F.slices_insertionSortCmpFunc_string 1 [(0, v0), (1, v1), (2, v2), (3, v3), (8, v8), (9, v9)] H k) a0 a1 a2 a3 H (endK Try.prog []) := by kernel_rfl

theorem s_slices_insertionSortCmpFunc_string_b0_eq (M : CombL) (C : CallF) (LP : LoopH) (v0 : Value) (v1 : Value) (v2 : Value) (v3 : Value) (v8 : Value) (H : AHeap) (k : K) : bodyL M Try.prog hints C LP F.slices_insertionSortCmpFunc_string 0 [(0, v0), (1, v1), (2, v2), (3, v3), (8, v8)] H (afterK [0, 1, 2, 3, 8] k) = s_slices_insertionSortCmpFunc_string_b0 M.b.g M.c M.s Try.prog C (fun v0 v1 v2 v3 v8 H k => loopL M Try.prog hints C LP F.slices_insertionSortCmpFunc_string 0 [(0, v0), (1, v1), (2, v2), (3, v3), (8, v8)] H k) (fun v0 v1 v2 v3 v8 v9 H k => loopL M Try.prog hints C LP F.slices_insertionSortCmpFunc_string 1 [(0, v0), (1, v1), (2, v2), (3, v3), (8, v8), (9, v9)] H k) v0 v1 v2 v3 v8 H k := by kernel_rfl

theorem s_slices_insertionSortCmpFunc_string_b1_eq (M : CombL) (C : CallF) (LP : LoopH) (v0 : Value) (v1 : Value) (v2 : Value) (v3 : Value) (v8 : Value) (v9 : Value) (H : AHeap) (k : K) : bodyL M Try.prog hints C LP F.slices_insertionSortCmpFunc_string 1 [(0, v0), (1, v1), (2, v2), (3, v3), (8, v8), (9, v9)] H (afterK [0, 1, 2, 3, 8, 9] k) = s_slices_insertionSortCmpFunc_string_b1 M.b.g M.c M.s Try.prog C (fun v0 v1 v2 v3 v8 H k => loopL M Try.prog hints C LP F.slices_insertionSortCmpFunc_string 0 [(0, v0), (1, v1), (2, v2), (3, v3), (8, v8)] H k) (fun v0 v1 v2 v3 v8 v9 H k => loopL M Try.prog hints C LP F.slices_insertionSortCmpFunc_string 1 [(0, v0), (1, v1), (2, v2), (3, v3), (8, v8), (9, v9)] H k) v0 v1 v2 v3 v8 v9 H k := by kernel_rfl

/-! slices.heapSortCmpFunc[string] -/

noncomputable def s_slices_heapSortCmpFunc_string (mg : GT) (mc : CT) (ms : ST) (P : Program) (C : CallF) (L0 : Value → Value → Value → Value → Value → Value → AHeap → K → Res) (L1 : Value → Value → Value → Value → Value → AHeap → K → Res) (a0 : Value) (a1 : Value) (a2 : Value) (a3 : Value) (H : AHeap) (K0 : K) : Res :=
bareK (xbin P .sub T.int (.tmp 14) (.tmp 15) a2 a1) H fun t16 h1 =>
bareK (xbin P .sub T.int (.tmp 17) (.const (.int .i64 1)) t16 (.int .i64 1)) h1 fun t18 h2 =>
bareK (xbin P .quo T.int (.tmp 18) (.const (.int .i64 2)) t18 (.int .i64 2)) h2 fun t19 h3 =>
ms (fun k1 =>
L0 a0 a3 a1 (.int .i64 0) t16 t19 h3 (blkK [0, 3, 8, 9, 10] 0 k1)) (seqK (fun tT h4 =>
bareK (xbin P .sub T.int (.tmp 30) (.const (.int .i64 1)) (get tT 10) (.int .i64 1)) h4 fun t31 h5 =>
ms (fun k2 =>
L1 (get tT 0) (get tT 3) (get tT 8) (get tT 9) t31 h5 (blkK [] 2 k2)) K0) K0)

noncomputable def s_slices_heapSortCmpFunc_string_b0 (mg : GT) (mc : CT) (ms : ST) (P : Program) (C : CallF) (L0 : Value → Value → Value → Value → Value → Value → AHeap → K → Res) (L1 : Value → Value → Value → Value → Value → AHeap → K → Res) (v0 : Value) (v3 : Value) (v8 : Value) (v9 : Value) (v10 : Value) (v11 : Value) (H : AHeap) (k : K) : Res :=
bareK (xbin P .geq T.int (.tmp 20) (.const (.int .i64 0)) v11 (.int .i64 0)) H fun t21 h4 =>
mc t21 (fun k2 => k2 .normal [(0, v0), (3, v3), (8, v8), (9, v9), (10, v10), (11, v11)] h4) (fun k2 =>
k2 (.exit 0) [(21, t21), (20, v11), (0, v0), (3, v3), (8, v8), (9, v9), (10, v10), (11, v11)] h4) (seqK (fun tT h5 =>
ms (fun k3 =>
enterK C F.slices_siftDownCmpFunc_string [(get tT 0), (get tT 11), (get tT 10), (get tT 8), (get tT 3)] h5 fun t29 h6 =>
k3 .normal [(0, (get tT 0)), (3, (get tT 3)), (8, (get tT 8)), (9, (get tT 9)), (10, (get tT 10)), (11, (get tT 11))] h6) (seqK (fun tT_1 h7 =>
bareK (xbin P .sub T.int (.tmp 22) (.const (.int .i64 1)) (get tT_1 11) (.int .i64 1)) h7 fun t23 h8 =>
k .normal [(0, (get tT_1 0)), (3, (get tT_1 3)), (8, (get tT_1 8)), (9, (get tT_1 9)), (10, (get tT_1 10)), (11, t23)] h8) (afterK [0, 3, 8, 9, 10, 11] k))) (afterK [0, 3, 8, 9, 10, 11] k))

noncomputable def s_slices_heapSortCmpFunc_string_b1 (mg : GT) (mc : CT) (ms : ST) (P : Program) (C : CallF) (L0 : Value → Value → Value → Value → Value → Value → AHeap → K → Res) (L1 : Value → Value → Value → Value → Value → AHeap → K → Res) (v0 : Value) (v3 : Value) (v8 : Value) (v9 : Value) (v12 : Value) (H : AHeap) (k : K) : Res :=
bareK (xbin P .geq T.int (.tmp 32) (.const (.int .i64 0)) v12 (.int .i64 0)) H fun t33 h6 =>
mc t33 (fun k3 => k3 .normal [(0, v0), (3, v3), (8, v8), (9, v9), (12, v12)] h6) (fun k3 =>
k3 (.exit 2) [(33, t33), (32, v12), (0, v0), (3, v3), (8, v8), (9, v9), (12, v12)] h6) (seqK (fun tT h7 =>
ms (fun k4 =>
bareK (xbin P .add T.int (.tmp 39) (.tmp 40) (get tT 8) (get tT 12)) h7 fun t41 h8 =>
bareK (xbin P .add T.int (.tmp 43) (.tmp 44) (get tT 8) (get tT 12)) h8 fun t45 h9 =>
bareK (ixS 1 (get tT 0) t45) h9 fun t46 h10 =>
bareK (ld1 h10 t46) h10 fun t47 h11 =>
bareK (ixS 1 (get tT 0) (get tT 8)) h11 fun t50 h12 =>
bareK (ld1 h12 t50) h12 fun t51 h13 =>
bareK (ixS 1 (get tT 0) (get tT 8)) h13 fun t52 h14 =>
quietK (st1 h14 t52 t47) fun _ h15 =>
bareK (ixS 1 (get tT 0) t41) h15 fun t53 h16 =>
quietK (st1 h16 t53 t51) fun _ h17 =>
checkK (okV (some true) none h14 h15 h7 h7 && (okV (some true) none h14 h15 h7 h7 && (okV (some true) none h14 h15 h7 h7 && (okV (some true) none h14 h15 h7 h8 && true)))) <|
enterK C F.slices_siftDownCmpFunc_string [(get tT 0), (get tT 9), (get tT 12), (get tT 8), (get tT 3)] h17 fun t59 h18 =>
k4 .normal [(0, (get tT 0)), (3, (get tT 3)), (8, (get tT 8)), (9, (get tT 9)), (12, (get tT 12))] h18) (seqK (fun tT_1 h19 =>
bareK (xbin P .sub T.int (.tmp 34) (.const (.int .i64 1)) (get tT_1 12) (.int .i64 1)) h19 fun t35 h20 =>
k .normal [(0, (get tT_1 0)), (3, (get tT_1 3)), (8, (get tT_1 8)), (9, (get tT_1 9)), (12, t35)] h20) (afterK [0, 3, 8, 9, 12] k))) (afterK [0, 3, 8, 9, 12] k))

theorem s_slices_heapSortCmpFunc_string_eq (M : CombL) (C : CallF) (LP : LoopH) (a0 : Value) (a1 : Value) (a2 : Value) (a3 : Value) (H : AHeap) : dBodyL M Try.prog hints C LP F.slices_heapSortCmpFunc_string [a0, a1, a2, a3] H = s_slices_heapSortCmpFunc_string M.b.g M.c M.s Try.prog C (fun v0 v3 v8 v9 v10 v11 H k => loopL M Try.prog hints C LP F.slices_heapSortCmpFunc_string 0 [(0, v0), (3, v3), (8, v8), (9, v9), (10, v10), (11, v11)] H k) (fun v0 v3 v8 v9 v12 H k => loopL M Try.prog hints C LP F.slices_heapSortCmpFunc_string 1 [(0, v0), (3, v3), (8, v8), (9, v9), (12, v12)] H k) a0 a1 a2 a3 H (endK Try.prog []) := by kernel_rfl

theorem s_slices_heapSortCmpFunc_string_b0_eq (M : CombL) (C : CallF) (LP : LoopH) (v0 : Value) (v3 : Value) (v8 : Value) (v9 : Value) (v10 : Value) (v11 : Value) (H : AHeap) (k : K) : bodyL M Try.prog hints C LP F.slices_heapSortCmpFunc_string 0 [(0, v0), (3, v3), (8, v8), (9, v9), (10, v10), (11, v11)] H (afterK [0, 3, 8, 9, 10, 11] k) = s_slices_heapSortCmpFunc_string_b0 M.b.g M.c M.s Try.prog C (fun v0 v3 v8 v9 v10 v11 H k => loopL M Try.prog hints C LP F.slices_heapSortCmpFunc_string 0 [(0, v0), (3, v3), (8, v8), (9, v9), (10, v10), (11, v11)] H k) (fun v0 v3 v8 v9 v12 H k => loopL M Try.prog hints C LP F.slices_heapSortCmpFunc_string 1 [(0, v0), (3, v3), (8, v8), (9, v9), (12, v12)] H k) v0 v3 v8 v9 v10 v11 H k := by kernel_rfl

theorem s_slices_heapSortCmpFunc_string_b1_eq (M : CombL) (C : CallF) (LP : LoopH) (v0 : Value) (v3 : Value) (v8 : Value) (v9 : Value) (v12 : Value) (H : AHeap) (k : K) : bodyL M Try.prog hints C LP F.slices_heapSortCmpFunc_string 1 [(0, v0), (3, v3), (8, v8), (9, v9), (12, v12)] H (afterK [0, 3, 8, 9, 12] k) = s_slices_heapSortCmpFunc_string_b1 M.b.g M.c M.s Try.prog C (fun v0 v3 v8 v9 v10 v11 H k => loopL M Try.prog hints C LP F.slices_heapSortCmpFunc_string 0 [(0, v0), (3, v3), (8, v8), (9, v9), (10, v10), (11, v11)] H k) (fun v0 v3 v8 v9 v12 H k => loopL M Try.prog hints C LP F.slices_heapSortCmpFunc_string 1 [(0, v0), (3, v3), (8, v8), (9, v9), (12, v12)] H k) v0 v3 v8 v9 v12 H k := by kernel_rfl

/-! slices.breakPatternsCmpFunc[string] -/

noncomputable def s_slices_breakPatternsCmpFunc_string (mg : GT) (mc : CT) (ms : ST) (P : Program) (C : CallF) (L0 : Value → Value → Value → Value → Value → Value → AHeap → K → Res) (a0 : Value) (a1 : Value) (a2 : Value) (a3 : Value) (H : AHeap) (K0 : K) : Res :=
bareK (xbin P .sub T.int (.tmp 13) (.tmp 14) a2 a1) H fun t15 h1 =>
bareK (xbin P .geq T.int (.tmp 16) (.const (.int .i64 8)) t15 (.int .i64 8)) h1 fun t17 h2 =>
mc t17 (fun k1 => bothK (xconv P T.int T.slices_xorshift t15 h2) fun t19 h3 =>
bothK (newv T.slices_xorshift (.int .u64 0) h3) fun t9 h4 =>
quietK (st1 h4 t9 t19) fun _ h5 =>
enterK C F.slices_nextPowerOfTwo [t15] h5 fun t21 h6 =>
bareK (xbin P .quo T.int (.tmp 23) (.const (.int .i64 4)) t15 (.int .i64 4)) h6 fun t24 h7 =>
bareK (xbin P .mul T.int (.tmp 24) (.const (.int .i64 2)) t24 (.int .i64 2)) h7 fun t25 h8 =>
bareK (xbin P .add T.int (.tmp 22) (.tmp 25) a1 t25) h8 fun t26 h9 =>
bareK (xbin P .sub T.int (.tmp 26) (.const (.int .i64 1)) t26 (.int .i64 1)) h9 fun t27 h10 =>
ms (fun k2 =>
L0 a0 a1 t15 t9 t21 t27 h10 (blkK [] 0 k2)) (afterK [] k1)) (fun k1 =>
k1 .normal [] h2) K0

noncomputable def s_slices_breakPatternsCmpFunc_string_b0 (mg : GT) (mc : CT) (ms : ST) (P : Program) (C : CallF) (L0 : Value → Value → Value → Value → Value → Value → AHeap → K → Res) (v0 : Value) (v1 : Value) (v8 : Value) (v9 : Value) (v10 : Value) (v11 : Value) (H : AHeap) (k : K) : Res :=
bareK (xbin P .quo T.int (.tmp 30) (.const (.int .i64 4)) v8 (.int .i64 4)) H fun t31 h11 =>
bareK (xbin P .mul T.int (.tmp 31) (.const (.int .i64 2)) t31 (.int .i64 2)) h11 fun t32 h12 =>
bareK (xbin P .add T.int (.tmp 29) (.tmp 32) v1 t32) h12 fun t33 h13 =>
bareK (xbin P .add T.int (.tmp 33) (.const (.int .i64 1)) t33 (.int .i64 1)) h13 fun t34 h14 =>
bareK (xbin P .leq T.int (.tmp 28) (.tmp 34) v11 t34) h14 fun t35 h15 =>
mc t35 (fun k3 => k3 .normal [(0, v0), (1, v1), (8, v8), (9, v9), (10, v10), (11, v11)] h15) (fun k3 =>
k3 (.exit 0) [(35, t35), (34, t34), (33, t33), (32, t32), (31, t31), (30, v8), (29, v1), (28, v11), (0, v0), (1, v1), (8, v8), (9, v9), (10, v10), (11, v11)] h15) (seqK (fun tT h16 =>
ms (fun k4 =>
enterK C F.slices_xorshift_Next [(get tT 9)] h16 fun t38 h17 =>
bareK (xbin P .sub T.uint (.tmp 39) (.const (.int .u64 1)) (get tT 10) (.int .u64 1)) h17 fun t40 h18 =>
bareK (xbin P .and T.uint (.tmp 38) (.tmp 40) t38 t40) h18 fun t41 h19 =>
bothK (xconv P T.uint T.int t41 h19) fun t42 h20 =>
bareK (xbin P .geq T.int (.tmp 43) (.tmp 44) t42 (get tT 8)) h20 fun t45 h21 =>
mc t45 (fun k5 => bareK (xbin P .sub T.int (.tmp 46) (.tmp 47) t42 (get tT 8)) h21 fun t48 h22 =>
k5 .normal [(0, (get tT 0)), (1, (get tT 1)), (8, (get tT 8)), (9, (get tT 9)), (10, (get tT 10)), (11, (get tT 11)), (12, t48)] h22) (fun k5 =>
k5 .normal [(0, (get tT 0)), (1, (get tT 1)), (8, (get tT 8)), (9, (get tT 9)), (10, (get tT 10)), (11, (get tT 11)), (12, t42)] h21) (seqK (fun tT_1 h23 =>
bareK (xbin P .add T.int (.tmp 52) (.tmp 53) (get tT_1 1) (get tT_1 12)) h23 fun t54 h24 =>
bareK (xbin P .add T.int (.tmp 56) (.tmp 57) (get tT_1 1) (get tT_1 12)) h24 fun t58 h25 =>
bareK (ixS 1 (get tT_1 0) t58) h25 fun t59 h26 =>
bareK (ld1 h26 t59) h26 fun t60 h27 =>
bareK (ixS 1 (get tT_1 0) (get tT_1 11)) h27 fun t63 h28 =>
bareK (ld1 h28 t63) h28 fun t64 h29 =>
bareK (ixS 1 (get tT_1 0) (get tT_1 11)) h29 fun t65 h30 =>
quietK (st1 h30 t65 t60) fun _ h31 =>
bareK (ixS 1 (get tT_1 0) t54) h31 fun t66 h32 =>
quietK (st1 h32 t66 t64) fun _ h33 =>
checkK (okV (some true) none h30 h31 h23 h23 && (okV (some true) none h30 h31 h23 h23 && (okV (some true) none h30 h31 h23 h23 && (okV (some true) none h30 h31 h23 h24 && true)))) <|
k4 .normal [(0, (get tT_1 0)), (1, (get tT_1 1)), (8, (get tT_1 8)), (9, (get tT_1 9)), (10, (get tT_1 10)), (11, (get tT_1 11))] h33) (blkK [0, 1, 8, 9, 10, 11] 1 k4))) (seqK (fun tT_2 h34 =>
bareK (xbin P .add T.int (.tmp 36) (.const (.int .i64 1)) (get tT_2 11) (.int .i64 1)) h34 fun t37 h35 =>
k .normal [(0, (get tT_2 0)), (1, (get tT_2 1)), (8, (get tT_2 8)), (9, (get tT_2 9)), (10, (get tT_2 10)), (11, t37)] h35) (afterK [0, 1, 8, 9, 10, 11] k))) (afterK [0, 1, 8, 9, 10, 11] k))

theorem s_slices_breakPatternsCmpFunc_string_eq (M : CombL) (C : CallF) (LP : LoopH) (a0 : Value) (a1 : Value) (a2 : Value) (a3 : Value) (H : AHeap) : dBodyL M Try.prog hints C LP F.slices_breakPatternsCmpFunc_string [a0, a1, a2, a3] H = s_slices_breakPatternsCmpFunc_string M.b.g M.c M.s Try.prog C (fun v0 v1 v8 v9 v10 v11 H k => loopL M Try.prog hints C LP F.slices_breakPatternsCmpFunc_string 0 [(0, v0), (1, v1), (8, v8), (9, v9), (10, v10), (11, v11)] H k) a0 a1 a2 a3 H (endK Try.prog []) := by kernel_rfl

theorem s_slices_breakPatternsCmpFunc_string_b0_eq (M : CombL) (C : CallF) (LP : LoopH) (v0 : Value) (v1 : Value) (v8 : Value) (v9 : Value) (v10 : Value) (v11 : Value) (H : AHeap) (k : K) : bodyL M Try.prog hints C LP F.slices_breakPatternsCmpFunc_string 0 [(0, v0), (1, v1), (8, v8), (9, v9), (10, v10), (11, v11)] H (afterK [0, 1, 8, 9, 10, 11] k) = s_slices_breakPatternsCmpFunc_string_b0 M.b.g M.c M.s Try.prog C (fun v0 v1 v8 v9 v10 v11 H k => loopL M Try.prog hints C LP F.slices_breakPatternsCmpFunc_string 0 [(0, v0), (1, v1), (8, v8), (9, v9), (10, v10), (11, v11)] H k) v0 v1 v8 v9 v10 v11 H k := by kernel_rfl

/-! slices.choosePivotCmpFunc[string] -/

noncomputable def s_slices_choosePivotCmpFunc_string (mg : GT) (mc : CT) (ms : ST) (P : Program) (C : CallF) (a0 : Value) (a1 : Value) (a2 : Value) (a3 : Value) (H : AHeap) (K0 : K) : Res :=
bareK (xbin P .sub T.int (.tmp 15) (.tmp 16) a2 a1) H fun t17 h1 =>
bothK (newv T.int (.int .i64 0) h1) fun t11 h2 =>
bareK (xbin P .quo T.int (.tmp 19) (.const (.int .i64 4)) t17 (.int .i64 4)) h2 fun t20 h3 =>
bareK (xbin P .mul T.int (.tmp 20) (.const (.int .i64 1)) t20 (.int .i64 1)) h3 fun t21 h4 =>
bareK (xbin P .add T.int (.tmp 18) (.tmp 21) a1 t21) h4 fun t22 h5 =>
bareK (xbin P .quo T.int (.tmp 24) (.const (.int .i64 4)) t17 (.int .i64 4)) h5 fun t25 h6 =>
bareK (xbin P .mul T.int (.tmp 25) (.const (.int .i64 2)) t25 (.int .i64 2)) h6 fun t26 h7 =>
bareK (xbin P .add T.int (.tmp 23) (.tmp 26) a1 t26) h7 fun t27 h8 =>
bareK (xbin P .quo T.int (.tmp 29) (.const (.int .i64 4)) t17 (.int .i64 4)) h8 fun t30 h9 =>
bareK (xbin P .mul T.int (.tmp 30) (.const (.int .i64 3)) t30 (.int .i64 3)) h9 fun t31 h10 =>
bareK (xbin P .add T.int (.tmp 28) (.tmp 31) a1 t31) h10 fun t32 h11 =>
bareK (xbin P .geq T.int (.tmp 33) (.const (.int .i64 8)) t17 (.int .i64 8)) h11 fun t34 h12 =>
mc t34 (fun k1 => bareK (xbin P .geq T.int (.tmp 35) (.const (.int .i64 50)) t17 (.int .i64 50)) h12 fun t36 h13 =>
mc t36 (fun k2 => enterK C F.slices_medianAdjacentCmpFunc_string [a0, t22, t11, a3] h13 fun t40 h14 =>
enterK C F.slices_medianAdjacentCmpFunc_string [a0, t27, t11, a3] h14 fun t44 h15 =>
enterK C F.slices_medianAdjacentCmpFunc_string [a0, t32, t11, a3] h15 fun t48 h16 =>
k2 .normal [(0, a0), (3, a3), (11, t11), (12, t40), (13, t44), (14, t48)] h16) (fun k2 =>
k2 .normal [(0, a0), (3, a3), (11, t11), (12, t22), (13, t27), (14, t32)] h13) (seqK (fun tT h17 =>
enterK C F.slices_medianCmpFunc_string [(get tT 0), (get tT 12), (get tT 13), (get tT 14), (get tT 11), (get tT 3)] h17 fun t54 h18 =>
k1 .normal [(11, (get tT 11)), (13, t54)] h18) (afterK [11, 13] k1))) (fun k1 =>
k1 .normal [(11, t11), (13, t27)] h12) (seqK (fun tT_1 h19 =>
bareK (ld1 h19 (get tT_1 11)) h19 fun t55 h20 =>
ms (fun k3 =>
bareK (xbin P .eql T.int (.tmp 55) (.const (.int .i64 0)) t55 (.int .i64 0)) h20 fun t58 h21 =>
mc t58 (fun k4 => k4 .ret [(8, (get tT_1 13)), (9, (.int .i64 1))] h21) (fun k4 =>
bareK (xbin P .eql T.int (.tmp 55) (.const (.int .i64 12)) t55 (.int .i64 12)) h21 fun t61 h22 =>
mc t61 (fun k5 => k5 .ret [(8, (get tT_1 13)), (9, (.int .i64 2))] h22) (fun k5 =>
k5 .ret [(8, (get tT_1 13)), (9, (.int .i64 0))] h22) (afterK [8, 9] k4)) (blkK [8, 9] 0 k3)) K0) K0)

theorem s_slices_choosePivotCmpFunc_string_eq (M : CombL) (C : CallF) (LP : LoopH) (a0 : Value) (a1 : Value) (a2 : Value) (a3 : Value) (H : AHeap) : dBodyL M Try.prog hints C LP F.slices_choosePivotCmpFunc_string [a0, a1, a2, a3] H = s_slices_choosePivotCmpFunc_string M.b.g M.c M.s Try.prog C a0 a1 a2 a3 H (endK Try.prog [.tmp 8, .tmp 9]) := by kernel_rfl

/-! slices.reverseRangeCmpFunc[string] -/

noncomputable def s_slices_reverseRangeCmpFunc_string (mg : GT) (mc : CT) (ms : ST) (P : Program) (C : CallF) (L0 : Value → Value → Value → AHeap → K → Res) (a0 : Value) (a1 : Value) (a2 : Value) (a3 : Value) (H : AHeap) (K0 : K) : Res :=
bareK (xbin P .sub T.int (.tmp 11) (.const (.int .i64 1)) a2 (.int .i64 1)) H fun t12 h1 =>
ms (fun k1 =>
L0 a0 a1 t12 h1 (blkK [] 0 k1)) K0

noncomputable def s_slices_reverseRangeCmpFunc_string_b0 (mg : GT) (mc : CT) (ms : ST) (P : Program) (C : CallF) (L0 : Value → Value → Value → AHeap → K → Res) (v0 : Value) (v8 : Value) (v9 : Value) (H : AHeap) (k : K) : Res :=
bareK (xbin P .lss T.int (.tmp 13) (.tmp 14) v8 v9) H fun t15 h2 =>
mc t15 (fun k2 => k2 .normal [(0, v0), (8, v8), (9, v9)] h2) (fun k2 =>
k2 (.exit 0) [(15, t15), (14, v9), (13, v8), (0, v0), (8, v8), (9, v9)] h2) (seqK (fun tT h3 =>
ms (fun k3 =>
bareK (ixS 1 (get tT 0) (get tT 9)) h3 fun t22 h4 =>
bareK (ld1 h4 t22) h4 fun t23 h5 =>
bareK (ixS 1 (get tT 0) (get tT 8)) h5 fun t26 h6 =>
bareK (ld1 h6 t26) h6 fun t27 h7 =>
bareK (ixS 1 (get tT 0) (get tT 8)) h7 fun t28 h8 =>
quietK (st1 h8 t28 t23) fun _ h9 =>
bareK (ixS 1 (get tT 0) (get tT 9)) h9 fun t29 h10 =>
quietK (st1 h10 t29 t27) fun _ h11 =>
checkK (okV (some true) none h8 h9 h3 h3 && (okV (some true) none h8 h9 h3 h3 && true)) <|
bareK (xbin P .add T.int (.tmp 30) (.const (.int .i64 1)) (get tT 8) (.int .i64 1)) h11 fun t31 h12 =>
bareK (xbin P .sub T.int (.tmp 32) (.const (.int .i64 1)) (get tT 9) (.int .i64 1)) h12 fun t33 h13 =>
k3 .normal [(0, (get tT 0)), (8, t31), (9, t33)] h13) (afterK [0, 8, 9] k)) (afterK [0, 8, 9] k))

theorem s_slices_reverseRangeCmpFunc_string_eq (M : CombL) (C : CallF) (LP : LoopH) (a0 : Value) (a1 : Value) (a2 : Value) (a3 : Value) (H : AHeap) : dBodyL M Try.prog hints C LP F.slices_reverseRangeCmpFunc_string [a0, a1, a2, a3] H = s_slices_reverseRangeCmpFunc_string M.b.g M.c M.s Try.prog C (fun v0 v8 v9 H k => loopL M Try.prog hints C LP F.slices_reverseRangeCmpFunc_string 0 [(0, v0), (8, v8), (9, v9)] H k) a0 a1 a2 a3 H (endK Try.prog []) := by kernel_rfl

theorem s_slices_reverseRangeCmpFunc_string_b0_eq (M : CombL) (C : CallF) (LP : LoopH) (v0 : Value) (v8 : Value) (v9 : Value) (H : AHeap) (k : K) : bodyL M Try.prog hints C LP F.slices_reverseRangeCmpFunc_string 0 [(0, v0), (8, v8), (9, v9)] H (afterK [0, 8, 9] k) = s_slices_reverseRangeCmpFunc_string_b0 M.b.g M.c M.s Try.prog C (fun v0 v8 v9 H k => loopL M Try.prog hints C LP F.slices_reverseRangeCmpFunc_string 0 [(0, v0), (8, v8), (9, v9)] H k) v0 v8 v9 H k := by kernel_rfl

/-! slices.partialInsertionSortCmpFunc[string] -/

noncomputable def s_slices_partialInsertionSortCmpFunc_string (mg : GT) (mc : CT) (ms : ST) (P : Program) (C : CallF) (L0 : Value → Value → Value → Value → Value → Value → AHeap → K → Res) (L1 : Value → Value → Value → Value → Value → Value → AHeap → K → Res) (L2 : Value → Value → Value → Value → Value → Value → Value → AHeap → K → Res) (L3 : Value → Value → Value → Value → Value → Value → Value → AHeap → K → Res) (a0 : Value) (a1 : Value) (a2 : Value) (a3 : Value) (H : AHeap) (K0 : K) : Res :=
bareK (xbin P .add T.int (.tmp 13) (.const (.int .i64 1)) a1 (.int .i64 1)) H fun t14 h1 =>
ms (fun k1 =>
L0 a0 a1 a2 a3 t14 (.int .i64 0) h1 (blkK [] 0 k1)) (seqK (fun tT h2 =>
K0 .ret [(8, (.bool false))] h2) K0)

noncomputable def s_slices_partialInsertionSortCmpFunc_string_b0 (mg : GT) (mc : CT) (ms : ST) (P : Program) (C : CallF) (L0 : Value → Value → Value → Value → Value → Value → AHeap → K → Res) (L1 : Value → Value → Value → Value → Value → Value → AHeap → K → Res) (L2 : Value → Value → Value → Value → Value → Value → Value → AHeap → K → Res) (L3 : Value → Value → Value → Value → Value → Value → Value → AHeap → K → Res) (v0 : Value) (v1 : Value) (v2 : Value) (v3 : Value) (v9 : Value) (v10 : Value) (H : AHeap) (k : K) : Res :=
bareK (xbin P .lss T.int (.tmp 15) (.const (.int .i64 5)) v10 (.int .i64 5)) H fun t16 h2 =>
mc t16 (fun k2 => k2 .normal [(0, v0), (1, v1), (2, v2), (3, v3), (9, v9), (10, v10)] h2) (fun k2 =>
k2 (.exit 0) [(16, t16), (15, v10), (0, v0), (1, v1), (2, v2), (3, v3), (9, v9), (10, v10)] h2) (seqK (fun tT h3 =>
ms (fun k3 =>
ms (fun k4 =>
L1 (get tT 0) (get tT 1) (get tT 2) (get tT 3) (get tT 9) (get tT 10) h3 (blkK [0, 1, 2, 3, 9, 10] 2 k4)) (seqK (fun tT_1 h4 =>
bareK (xbin P .eql T.int (.tmp 39) (.tmp 40) (get tT_1 9) (get tT_1 2)) h4 fun t41 h5 =>
mc t41 (fun k5 => k5 .ret [(8, (.bool true))] h5) (fun k5 =>
k5 .normal [(0, (get tT_1 0)), (1, (get tT_1 1)), (2, (get tT_1 2)), (3, (get tT_1 3)), (9, (get tT_1 9)), (10, (get tT_1 10))] h5) (seqK (fun tT_2 h6 =>
bareK (xbin P .sub T.int (.tmp 42) (.tmp 43) (get tT_2 2) (get tT_2 1)) h6 fun t44 h7 =>
bareK (xbin P .lss T.int (.tmp 44) (.const (.int .i64 50)) t44 (.int .i64 50)) h7 fun t45 h8 =>
mc t45 (fun k6 => k6 .ret [(8, (.bool false))] h8) (fun k6 =>
k6 .normal [(0, (get tT_2 0)), (1, (get tT_2 1)), (2, (get tT_2 2)), (3, (get tT_2 3)), (9, (get tT_2 9)), (10, (get tT_2 10))] h8) (seqK (fun tT_3 h9 =>
bareK (xbin P .sub T.int (.tmp 49) (.const (.int .i64 1)) (get tT_3 9) (.int .i64 1)) h9 fun t50 h10 =>
bareK (xbin P .sub T.int (.tmp 52) (.const (.int .i64 1)) (get tT_3 9) (.int .i64 1)) h10 fun t53 h11 =>
bareK (ixS 1 (get tT_3 0) t53) h11 fun t54 h12 =>
bareK (ld1 h12 t54) h12 fun t55 h13 =>
bareK (ixS 1 (get tT_3 0) (get tT_3 9)) h13 fun t58 h14 =>
bareK (ld1 h14 t58) h14 fun t59 h15 =>
bareK (ixS 1 (get tT_3 0) (get tT_3 9)) h15 fun t60 h16 =>
quietK (st1 h16 t60 t55) fun _ h17 =>
bareK (ixS 1 (get tT_3 0) t50) h17 fun t61 h18 =>
quietK (st1 h18 t61 t59) fun _ h19 =>
checkK (okV (some true) none h16 h17 h9 h9 && (okV (some true) none h16 h17 h9 h9 && (okV (some true) none h16 h17 h9 h10 && true))) <|
bareK (xbin P .sub T.int (.tmp 62) (.tmp 63) (get tT_3 9) (get tT_3 1)) h19 fun t64 h20 =>
bareK (xbin P .geq T.int (.tmp 64) (.const (.int .i64 2)) t64 (.int .i64 2)) h20 fun t65 h21 =>
mc t65 (fun k7 => bareK (xbin P .sub T.int (.tmp 66) (.const (.int .i64 1)) (get tT_3 9) (.int .i64 1)) h21 fun t67 h22 =>
ms (fun k8 =>
L2 (get tT_3 0) (get tT_3 1) (get tT_3 2) (get tT_3 3) (get tT_3 9) (get tT_3 10) t67 h22 (blkK [0, 1, 2, 3, 9, 10] 4 k8)) (afterK [0, 1, 2, 3, 9, 10] k7)) (fun k7 =>
k7 .normal [(0, (get tT_3 0)), (1, (get tT_3 1)), (2, (get tT_3 2)), (3, (get tT_3 3)), (9, (get tT_3 9)), (10, (get tT_3 10))] h21) (seqK (fun tT_4 h23 =>
bareK (xbin P .sub T.int (.tmp 101) (.tmp 102) (get tT_4 2) (get tT_4 9)) h23 fun t103 h24 =>
bareK (xbin P .geq T.int (.tmp 103) (.const (.int .i64 2)) t103 (.int .i64 2)) h24 fun t104 h25 =>
mc t104 (fun k9 => bareK (xbin P .add T.int (.tmp 105) (.const (.int .i64 1)) (get tT_4 9) (.int .i64 1)) h25 fun t106 h26 =>
ms (fun k10 =>
L3 (get tT_4 0) (get tT_4 1) (get tT_4 2) (get tT_4 3) (get tT_4 9) (get tT_4 10) t106 h26 (blkK [0, 1, 2, 3, 9, 10] 6 k10)) (afterK [0, 1, 2, 3, 9, 10] k9)) (fun k9 =>
k9 .normal [(0, (get tT_4 0)), (1, (get tT_4 1)), (2, (get tT_4 2)), (3, (get tT_4 3)), (9, (get tT_4 9)), (10, (get tT_4 10))] h25) (blkK [0, 1, 2, 3, 9, 10] 1 k3)) (blkK [0, 1, 2, 3, 9, 10] 1 k3))) (blkK [0, 1, 2, 3, 9, 10] 1 k3))) (blkK [0, 1, 2, 3, 9, 10] 1 k3))) (blkK [0, 1, 2, 3, 9, 10] 1 k3))) (seqK (fun tT_5 h27 =>
bareK (xbin P .add T.int (.tmp 17) (.const (.int .i64 1)) (get tT_5 10) (.int .i64 1)) h27 fun t18 h28 =>
k .normal [(0, (get tT_5 0)), (1, (get tT_5 1)), (2, (get tT_5 2)), (3, (get tT_5 3)), (9, (get tT_5 9)), (10, t18)] h28) (afterK [0, 1, 2, 3, 9, 10] k))) (afterK [0, 1, 2, 3, 9, 10] k))

noncomputable def s_slices_partialInsertionSortCmpFunc_string_b1 (mg : GT) (mc : CT) (ms : ST) (P : Program) (C : CallF) (L0 : Value → Value → Value → Value → Value → Value → AHeap → K → Res) (L1 : Value → Value → Value → Value → Value → Value → AHeap → K → Res) (L2 : Value → Value → Value → Value → Value → Value → Value → AHeap → K → Res) (L3 : Value → Value → Value → Value → Value → Value → Value → AHeap → K → Res) (v0 : Value) (v1 : Value) (v2 : Value) (v3 : Value) (v9 : Value) (v10 : Value) (H : AHeap) (k : K) : Res :=
bareK (xbin P .lss T.int (.tmp 19) (.tmp 20) v9 v2) H fun t21 h4 =>
mg t21 true (fun o5 => o5 v3 h4) h4 fun t23 h5 =>
mg t21 true (fun o6 => o6 v0 h5) h5 fun t24 h6 =>
mg t21 true (fun o7 => o7 v9 h6) h6 fun t25 h7 =>
mg t21 true (fun o8 => bareK (ixS 1 t24 t25) h7 o8) h7 fun t26 h8 =>
mg t21 true (fun o9 => bareK (ld1 h8 t26) h8 o9) h8 fun t27 h9 =>
mg t21 true (fun o10 => o10 v0 h9) h9 fun t28 h10 =>
mg t21 true (fun o11 => o11 v9 h10) h10 fun t29 h11 =>
mg t21 true (fun o12 => bareK (xbin P .sub T.int (.tmp 29) (.const (.int .i64 1)) t29 (.int .i64 1)) h11 o12) h11 fun t30 h12 =>
mg t21 true (fun o13 => bareK (ixS 1 t28 t30) h12 o13) h12 fun t31 h13 =>
mg t21 true (fun o14 => bareK (ld1 h13 t31) h13 o14) h13 fun t32 h14 =>
mg t21 true (fun o15 => callK P C t23 [t27, t32] h14 o15) h14 fun t33 h15 =>
mg t21 true (fun o16 => bareK (xbin P .lss T.int (.tmp 33) (.const (.int .i64 0)) t33 (.int .i64 0)) h15 o16) h15 fun t34 h16 =>
mg t21 true (fun o17 => bareK (xun P .not t34) h16 o17) h16 fun t35 h17 =>
pickK t21 t35 (.bool false) fun t36 =>
checkK true <|
mc t36 (fun k18 => k18 .normal [(0, v0), (1, v1), (2, v2), (3, v3), (9, v9), (10, v10)] h17) (fun k18 =>
k18 (.exit 2) [(36, t36), (35, t35), (34, t34), (33, t33), (32, t32), (31, t31), (30, t30), (29, t29), (28, t28), (27, t27), (26, t26), (25, t25), (24, t24), (23, t23), (22, t21), (21, t21), (20, v2), (19, v9), (0, v0), (1, v1), (2, v2), (3, v3), (9, v9), (10, v10)] h17) (seqK (fun tT h18 =>
ms (fun k19 =>
bareK (xbin P .add T.int (.tmp 37) (.const (.int .i64 1)) (get tT 9) (.int .i64 1)) h18 fun t38 h19 =>
k19 .normal [(0, (get tT 0)), (1, (get tT 1)), (2, (get tT 2)), (3, (get tT 3)), (9, t38), (10, (get tT 10))] h19) (afterK [0, 1, 2, 3, 9, 10] k)) (afterK [0, 1, 2, 3, 9, 10] k))

noncomputable def s_slices_partialInsertionSortCmpFunc_string_b2 (mg : GT) (mc : CT) (ms : ST) (P : Program) (C : CallF) (L0 : Value → Value → Value → Value → Value → Value → AHeap → K → Res) (L1 : Value → Value → Value → Value → Value → Value → AHeap → K → Res) (L2 : Value → Value → Value → Value → Value → Value → Value → AHeap → K → Res) (L3 : Value → Value → Value → Value → Value → Value → Value → AHeap → K → Res) (v0 : Value) (v1 : Value) (v2 : Value) (v3 : Value) (v9 : Value) (v10 : Value) (v11 : Value) (H : AHeap) (k : K) : Res :=
bareK (xbin P .geq T.int (.tmp 68) (.const (.int .i64 1)) v11 (.int .i64 1)) H fun t69 h23 =>
mc t69 (fun k9 => k9 .normal [(0, v0), (1, v1), (2, v2), (3, v3), (9, v9), (10, v10), (11, v11)] h23) (fun k9 =>
k9 (.exit 4) [(69, t69), (68, v11), (0, v0), (1, v1), (2, v2), (3, v3), (9, v9), (10, v10), (11, v11)] h23) (seqK (fun tT h24 =>
ms (fun k10 =>
bareK (ixS 1 (get tT 0) (get tT 11)) h24 fun t75 h25 =>
bareK (ld1 h25 t75) h25 fun t76 h26 =>
bareK (xbin P .sub T.int (.tmp 78) (.const (.int .i64 1)) (get tT 11) (.int .i64 1)) h26 fun t79 h27 =>
bareK (ixS 1 (get tT 0) t79) h27 fun t80 h28 =>
bareK (ld1 h28 t80) h28 fun t81 h29 =>
callK P C (get tT 3) [t76, t81] h29 fun t82 h30 =>
bareK (xbin P .lss T.int (.tmp 82) (.const (.int .i64 0)) t82 (.int .i64 0)) h30 fun t83 h31 =>
bareK (xun P .not t83) h31 fun t84 h32 =>
checkK true <|
mc t84 (fun k11 => k11 (.exit 4) ((84, t84) :: (83, t83) :: (82, t82) :: (81, t81) :: (80, t80) :: (79, t79) :: (78, (get tT 11)) :: (77, (get tT 0)) :: (76, t76) :: (75, t75) :: (74, (get tT 11)) :: (73, (get tT 0)) :: (72, (get tT 3)) :: tT) h32) (fun k11 =>
k11 .normal [(0, (get tT 0)), (1, (get tT 1)), (2, (get tT 2)), (3, (get tT 3)), (9, (get tT 9)), (10, (get tT 10)), (11, (get tT 11))] h32) (seqK (fun tT_1 h33 =>
bareK (xbin P .sub T.int (.tmp 88) (.const (.int .i64 1)) (get tT_1 11) (.int .i64 1)) h33 fun t89 h34 =>
bareK (xbin P .sub T.int (.tmp 91) (.const (.int .i64 1)) (get tT_1 11) (.int .i64 1)) h34 fun t92 h35 =>
bareK (ixS 1 (get tT_1 0) t92) h35 fun t93 h36 =>
bareK (ld1 h36 t93) h36 fun t94 h37 =>
bareK (ixS 1 (get tT_1 0) (get tT_1 11)) h37 fun t97 h38 =>
bareK (ld1 h38 t97) h38 fun t98 h39 =>
bareK (ixS 1 (get tT_1 0) (get tT_1 11)) h39 fun t99 h40 =>
quietK (st1 h40 t99 t94) fun _ h41 =>
bareK (ixS 1 (get tT_1 0) t89) h41 fun t100 h42 =>
quietK (st1 h42 t100 t98) fun _ h43 =>
checkK (okV (some true) none h40 h41 h33 h33 && (okV (some true) none h40 h41 h33 h33 && (okV (some true) none h40 h41 h33 h34 && true))) <|
k10 .normal [(0, (get tT_1 0)), (1, (get tT_1 1)), (2, (get tT_1 2)), (3, (get tT_1 3)), (9, (get tT_1 9)), (10, (get tT_1 10)), (11, (get tT_1 11))] h43) (blkK [0, 1, 2, 3, 9, 10, 11] 5 k10))) (seqK (fun tT_2 h44 =>
bareK (xbin P .sub T.int (.tmp 70) (.const (.int .i64 1)) (get tT_2 11) (.int .i64 1)) h44 fun t71 h45 =>
k .normal [(0, (get tT_2 0)), (1, (get tT_2 1)), (2, (get tT_2 2)), (3, (get tT_2 3)), (9, (get tT_2 9)), (10, (get tT_2 10)), (11, t71)] h45) (afterK [0, 1, 2, 3, 9, 10, 11] k))) (afterK [0, 1, 2, 3, 9, 10, 11] k))

noncomputable def s_slices_partialInsertionSortCmpFunc_string_b3 (mg : GT) (mc : CT) (ms : ST) (P : Program) (C : CallF) (L0 : Value → Value → Value → Value → Value → Value → AHeap → K → Res) (L1 : Value → Value → Value → Value → Value → Value → AHeap → K → Res) (L2 : Value → Value → Value → Value → Value → Value → Value → AHeap → K → Res) (L3 : Value → Value → Value → Value → Value → Value → Value → AHeap → K → Res) (v0 : Value) (v1 : Value) (v2 : Value) (v3 : Value) (v9 : Value) (v10 : Value) (v12 : Value) (H : AHeap) (k : K) : Res :=
bareK (xbin P .lss T.int (.tmp 107) (.tmp 108) v12 v2) H fun t109 h27 =>
mc t109 (fun k11 => k11 .normal [(0, v0), (1, v1), (2, v2), (3, v3), (9, v9), (10, v10), (12, v12)] h27) (fun k11 =>
k11 (.exit 6) [(109, t109), (108, v2), (107, v12), (0, v0), (1, v1), (2, v2), (3, v3), (9, v9), (10, v10), (12, v12)] h27) (seqK (fun tT h28 =>
ms (fun k12 =>
bareK (ixS 1 (get tT 0) (get tT 12)) h28 fun t115 h29 =>
bareK (ld1 h29 t115) h29 fun t116 h30 =>
bareK (xbin P .sub T.int (.tmp 118) (.const (.int .i64 1)) (get tT 12) (.int .i64 1)) h30 fun t119 h31 =>
bareK (ixS 1 (get tT 0) t119) h31 fun t120 h32 =>
bareK (ld1 h32 t120) h32 fun t121 h33 =>
callK P C (get tT 3) [t116, t121] h33 fun t122 h34 =>
bareK (xbin P .lss T.int (.tmp 122) (.const (.int .i64 0)) t122 (.int .i64 0)) h34 fun t123 h35 =>
bareK (xun P .not t123) h35 fun t124 h36 =>
checkK true <|
mc t124 (fun k13 => k13 (.exit 6) ((124, t124) :: (123, t123) :: (122, t122) :: (121, t121) :: (120, t120) :: (119, t119) :: (118, (get tT 12)) :: (117, (get tT 0)) :: (116, t116) :: (115, t115) :: (114, (get tT 12)) :: (113, (get tT 0)) :: (112, (get tT 3)) :: tT) h36) (fun k13 =>
k13 .normal [(0, (get tT 0)), (1, (get tT 1)), (2, (get tT 2)), (3, (get tT 3)), (9, (get tT 9)), (10, (get tT 10)), (12, (get tT 12))] h36) (seqK (fun tT_1 h37 =>
bareK (xbin P .sub T.int (.tmp 128) (.const (.int .i64 1)) (get tT_1 12) (.int .i64 1)) h37 fun t129 h38 =>
bareK (xbin P .sub T.int (.tmp 131) (.const (.int .i64 1)) (get tT_1 12) (.int .i64 1)) h38 fun t132 h39 =>
bareK (ixS 1 (get tT_1 0) t132) h39 fun t133 h40 =>
bareK (ld1 h40 t133) h40 fun t134 h41 =>
bareK (ixS 1 (get tT_1 0) (get tT_1 12)) h41 fun t137 h42 =>
bareK (ld1 h42 t137) h42 fun t138 h43 =>
bareK (ixS 1 (get tT_1 0) (get tT_1 12)) h43 fun t139 h44 =>
quietK (st1 h44 t139 t134) fun _ h45 =>
bareK (ixS 1 (get tT_1 0) t129) h45 fun t140 h46 =>
quietK (st1 h46 t140 t138) fun _ h47 =>
checkK (okV (some true) none h44 h45 h37 h37 && (okV (some true) none h44 h45 h37 h37 && (okV (some true) none h44 h45 h37 h38 && true))) <|
k12 .normal [(0, (get tT_1 0)), (1, (get tT_1 1)), (2, (get tT_1 2)), (3, (get tT_1 3)), (9, (get tT_1 9)), (10, (get tT_1 10)), (12, (get tT_1 12))] h47) (blkK [0, 1, 2, 3, 9, 10, 12] 7 k12))) (seqK (fun tT_2 h48 =>
bareK (xbin P .add T.int (.tmp 110) (.const (.int .i64 1)) (get tT_2 12) (.int .i64 1)) h48 fun t111 h49 =>
k .normal [(0, (get tT_2 0)), (1, (get tT_2 1)), (2, (get tT_2 2)), (3, (get tT_2 3)), (9, (get tT_2 9)), (10, (get tT_2 10)), (12, t111)] h49) (afterK [0, 1, 2, 3, 9, 10, 12] k))) (afterK [0, 1, 2, 3, 9, 10, 12] k))

theorem s_slices_partialInsertionSortCmpFunc_string_eq (M : CombL) (C : CallF) (LP : LoopH) (a0 : Value) (a1 : Value) (a2 : Value) (a3 : Value) (H : AHeap) : dBodyL M Try.prog hints C LP F.slices_partialInsertionSortCmpFunc_string [a0, a1, a2, a3] H = s_slices_partialInsertionSortCmpFunc_string M.b.g M.c M.s Try.prog C (fun v0 v1 v2 v3 v9 v10 H k => loopL M Try.prog hints C LP F.slices_partialInsertionSortCmpFunc_string 0 [(0, v0), (1, v1), (2, v2), (3, v3), (9, v9), (10, v10)] H k) (fun v0 v1 v2 v3 v9 v10 H k => loopL M Try.prog hints C LP F.slices_partialInsertionSortCmpFunc_string 1 [(0, v0), (1, v1), (2, v2), (3, v3), (9, v9), (10, v10)] H k) (fun v0 v1 v2 v3 v9 v10 v11 H k => loopL M Try.prog hints C LP F.slices_partialInsertionSortCmpFunc_string 2 [(0, v0), (1, v1), (2, v2), (3, v3), (9, v9), (10, v10), (11, v11)] H k) (fun v0 v1 v2 v3 v9 v10 v12 H k => loopL M Try.prog hints C LP F.slices_partialInsertionSortCmpFunc_string 3 [(0, v0), (1, v1), (2, v2), (3, v3), (9, v9), (10, v10), (12, v12)] H k) a0 a1 a2 a3 H (endK Try.prog [.tmp 8]) := by kernel_rfl

theorem s_slices_partialInsertionSortCmpFunc_string_b0_eq (M : CombL) (C : CallF) (LP : LoopH) (v0 : Value) (v1 : Value) (v2 : Value) (v3 : Value) (v9 : Value) (v10 : Value) (H : AHeap) (k : K) : bodyL M Try.prog hints C LP F.slices_partialInsertionSortCmpFunc_string 0 [(0, v0), (1, v1), (2, v2), (3, v3), (9, v9), (10, v10)] H (afterK [0, 1, 2, 3, 9, 10] k) = s_slices_partialInsertionSortCmpFunc_string_b0 M.b.g M.c M.s Try.prog C (fun v0 v1 v2 v3 v9 v10 H k => loopL M Try.prog hints C LP F.slices_partialInsertionSortCmpFunc_string 0 [(0, v0), (1, v1), (2, v2), (3, v3), (9, v9), (10, v10)] H k) (fun v0 v1 v2 v3 v9 v10 H k => loopL M Try.prog hints C LP F.slices_partialInsertionSortCmpFunc_string 1 [(0, v0), (1, v1), (2, v2), (3, v3), (9, v9), (10, v10)] H k) (fun v0 v1 v2 v3 v9 v10 v11 H k => loopL M Try.prog hints C LP F.slices_partialInsertionSortCmpFunc_string 2 [(0, v0), (1, v1), (2, v2), (3, v3), (9, v9), (10, v10), (11, v11)] H k) (fun v0 v1 v2 v3 v9 v10 v12 H k => loopL M Try.prog hints C LP F.slices_partialInsertionSortCmpFunc_string 3 [(0, v0), (1, v1), (2, v2), (3, v3), (9, v9), (10, v10), (12, v12)] H k) v0 v1 v2 v3 v9 v10 H k := by kernel_rfl

theorem s_slices_partialInsertionSortCmpFunc_string_b1_eq (M : CombL) (C : CallF) (LP : LoopH) (v0 : Value) (v1 : Value) (v2 : Value) (v3 : Value) (v9 : Value) (v10 : Value) (H : AHeap) (k : K) : bodyL M Try.prog hints C LP F.slices_partialInsertionSortCmpFunc_string 1 [(0, v0), (1, v1), (2, v2), (3, v3), (9, v9), (10, v10)] H (afterK [0, 1, 2, 3, 9, 10] k) = s_slices_partialInsertionSortCmpFunc_string_b1 M.b.g M.c M.s Try.prog C (fun v0 v1 v2 v3 v9 v10 H k => loopL M Try.prog hints C LP F.slices_partialInsertionSortCmpFunc_string 0 [(0, v0), (1, v1), (2, v2), (3, v3), (9, v9), (10, v10)] H k) (fun v0 v1 v2 v3 v9 v10 H k => loopL M Try.prog hints C LP F.slices_partialInsertionSortCmpFunc_string 1 [(0, v0), (1, v1), (2, v2), (3, v3), (9, v9), (10, v10)] H k) (fun v0 v1 v2 v3 v9 v10 v11 H k => loopL M Try.prog hints C LP F.slices_partialInsertionSortCmpFunc_string 2 [(0, v0), (1, v1), (2, v2), (3, v3), (9, v9), (10, v10), (11, v11)] H k) (fun v0 v1 v2 v3 v9 v10 v12 H k => loopL M Try.prog hints C LP F.slices_partialInsertionSortCmpFunc_string 3 [(0, v0), (1, v1), (2, v2), (3, v3), (9, v9), (10, v10), (12, v12)] H k) v0 v1 v2 v3 v9 v10 H k := by kernel_rfl

theorem s_slices_partialInsertionSortCmpFunc_string_b2_eq (M : CombL) (C : CallF) (LP : LoopH) (v0 : Value) (v1 : Value) (v2 : Value) (v3 : Value) (v9 : Value) (v10 : Value) (v11 : Value) (H : AHeap) (k : K) : bodyL M Try.prog hints C LP F.slices_partialInsertionSortCmpFunc_string 2 [(0, v0), (1, v1), (2, v2), (3, v3), (9, v9), (10, v10), (11, v11)] H (afterK [0, 1, 2, 3, 9, 10, 11] k) = s_slices_partialInsertionSortCmpFunc_string_b2 M.b.g M.c M.s Try.prog C (fun v0 v1 v2 v3 v9 v10 H k => loopL M Try.prog hints C LP F.slices_partialInsertionSortCmpFunc_string 0 [(0, v0), (1, v1), (2, v2), (3, v3), (9, v9), (10, v10)] H k) (fun v0 v1 v2 v3 v9 v10 H k => loopL M Try.prog hints C LP F.slices_partialInsertionSortCmpFunc_string 1 [(0, v0), (1, v1), (2, v2), (3, v3), (9, v9), (10, v10)] H k) (fun v0 v1 v2 v3 v9 v10 v11 H k => loopL M Try.prog hints C LP F.slices_partialInsertionSortCmpFunc_string 2 [(0, v0), (1, v1), (2, v2), (3, v3), (9, v9), (10, v10), (11, v11)] H k) (fun v0 v1 v2 v3 v9 v10 v12 H k => loopL M Try.prog hints C LP F.slices_partialInsertionSortCmpFunc_string 3 [(0, v0), (1, v1), (2, v2), (3, v3), (9, v9), (10, v10), (12, v12)] H k) v0 v1 v2 v3 v9 v10 v11 H k := by kernel_rfl

theorem s_slices_partialInsertionSortCmpFunc_string_b3_eq (M : CombL) (C : CallF) (LP : LoopH) (v0 : Value) (v1 : Value) (v2 : Value) (v3 : Value) (v9 : Value) (v10 : Value) (v12 : Value) (H : AHeap) (k : K) : bodyL M Try.prog hints C LP F.slices_partialInsertionSortCmpFunc_string 3 [(0, v0), (1, v1), (2, v2), (3, v3), (9, v9), (10, v10), (12, v12)] H (afterK [0, 1, 2, 3, 9, 10, 12] k) = s_slices_partialInsertionSortCmpFunc_string_b3 M.b.g M.c M.s Try.prog C (fun v0 v1 v2 v3 v9 v10 H k => loopL M Try.prog hints C LP F.slices_partialInsertionSortCmpFunc_string 0 [(0, v0), (1, v1), (2, v2), (3, v3), (9, v9), (10, v10)] H k) (fun v0 v1 v2 v3 v9 v10 H k => loopL M Try.prog hints C LP F.slices_partialInsertionSortCmpFunc_string 1 [(0, v0), (1, v1), (2, v2), (3, v3), (9, v9), (10, v10)] H k) (fun v0 v1 v2 v3 v9 v10 v11 H k => loopL M Try.prog hints C LP F.slices_partialInsertionSortCmpFunc_string 2 [(0, v0), (1, v1), (2, v2), (3, v3), (9, v9), (10, v10), (11, v11)] H k) (fun v0 v1 v2 v3 v9 v10 v12 H k => loopL M Try.prog hints C LP F.slices_partialInsertionSortCmpFunc_string 3 [(0, v0), (1, v1), (2, v2), (3, v3), (9, v9), (10, v10), (12, v12)] H k) v0 v1 v2 v3 v9 v10 v12 H k := by kernel_rfl

/-! slices.partitionEqualCmpFunc[string] -/

noncomputable def s_slices_partitionEqualCmpFunc_string (mg : GT) (mc : CT) (ms : ST) (P : Program) (C : CallF) (L0 : Value → Value → Value → Value → Value → AHeap → K → Res) (L1 : Value → Value → Value → Value → Value → AHeap → K → Res) (L2 : Value → Value → Value → Value → Value → AHeap → K → Res) (a0 : Value) (a1 : Value) (a2 : Value) (a3 : Value) (a4 : Value) (H : AHeap) (K0 : K) : Res :=
bareK (ixS 1 a0 a3) H fun t19 h1 =>
bareK (ld1 h1 t19) h1 fun t20 h2 =>
bareK (ixS 1 a0 a1) h2 fun t23 h3 =>
bareK (ld1 h3 t23) h3 fun t24 h4 =>
bareK (ixS 1 a0 a1) h4 fun t25 h5 =>
quietK (st1 h5 t25 t20) fun _ h6 =>
bareK (ixS 1 a0 a3) h6 fun t26 h7 =>
quietK (st1 h7 t26 t24) fun _ h8 =>
checkK (okV (some true) none h5 h6 H H && (okV (some true) none h5 h6 H H && true)) <|
bareK (xbin P .add T.int (.tmp 27) (.const (.int .i64 1)) a1 (.int .i64 1)) h8 fun t28 h9 =>
bareK (xbin P .sub T.int (.tmp 29) (.const (.int .i64 1)) a2 (.int .i64 1)) h9 fun t30 h10 =>
ms (fun k1 =>
L0 a0 a1 a4 t28 t30 h10 (blkK [11] 0 k1)) (seqK (fun tT h11 =>
K0 .ret [(10, (get tT 11))] h11) K0)

noncomputable def s_slices_partitionEqualCmpFunc_string_b0 (mg : GT) (mc : CT) (ms : ST) (P : Program) (C : CallF) (L0 : Value → Value → Value → Value → Value → AHeap → K → Res) (L1 : Value → Value → Value → Value → Value → AHeap → K → Res) (L2 : Value → Value → Value → Value → Value → AHeap → K → Res) (v0 : Value) (v1 : Value) (v4 : Value) (v11 : Value) (v12 : Value) (H : AHeap) (k : K) : Res :=
ms (fun k2 =>
ms (fun k3 =>
L1 v0 v1 v4 v11 v12 H (blkK [0, 1, 4, 11, 12] 2 k3)) (seqK (fun tT h11 =>
ms (fun k4 =>
L2 (get tT 0) (get tT 1) (get tT 4) (get tT 11) (get tT 12) h11 (blkK [0, 1, 4, 11, 12] 4 k4)) (seqK (fun tT_1 h12 =>
bareK (xbin P .gtr T.int (.tmp 68) (.tmp 69) (get tT_1 11) (get tT_1 12)) h12 fun t70 h13 =>
mc t70 (fun k5 => k5 (.exit 0) ((70, t70) :: (69, (get tT_1 12)) :: (68, (get tT_1 11)) :: tT_1) h13) (fun k5 =>
k5 .normal [(0, (get tT_1 0)), (1, (get tT_1 1)), (4, (get tT_1 4)), (11, (get tT_1 11)), (12, (get tT_1 12))] h13) (seqK (fun tT_2 h14 =>
bareK (ixS 1 (get tT_2 0) (get tT_2 12)) h14 fun t77 h15 =>
bareK (ld1 h15 t77) h15 fun t78 h16 =>
bareK (ixS 1 (get tT_2 0) (get tT_2 11)) h16 fun t81 h17 =>
bareK (ld1 h17 t81) h17 fun t82 h18 =>
bareK (ixS 1 (get tT_2 0) (get tT_2 11)) h18 fun t83 h19 =>
quietK (st1 h19 t83 t78) fun _ h20 =>
bareK (ixS 1 (get tT_2 0) (get tT_2 12)) h20 fun t84 h21 =>
quietK (st1 h21 t84 t82) fun _ h22 =>
checkK (okV (some true) none h19 h20 h14 h14 && (okV (some true) none h19 h20 h14 h14 && true)) <|
bareK (xbin P .add T.int (.tmp 85) (.const (.int .i64 1)) (get tT_2 11) (.int .i64 1)) h22 fun t86 h23 =>
bareK (xbin P .sub T.int (.tmp 87) (.const (.int .i64 1)) (get tT_2 12) (.int .i64 1)) h23 fun t88 h24 =>
k2 .normal [(0, (get tT_2 0)), (1, (get tT_2 1)), (4, (get tT_2 4)), (11, t86), (12, t88)] h24) (blkK [0, 1, 4, 11, 12] 1 k2))) (blkK [0, 1, 4, 11, 12] 1 k2))) (blkK [0, 1, 4, 11, 12] 1 k2))) (afterK [0, 1, 4, 11, 12] k)

noncomputable def s_slices_partitionEqualCmpFunc_string_b1 (mg : GT) (mc : CT) (ms : ST) (P : Program) (C : CallF) (L0 : Value → Value → Value → Value → Value → AHeap → K → Res) (L1 : Value → Value → Value → Value → Value → AHeap → K → Res) (L2 : Value → Value → Value → Value → Value → AHeap → K → Res) (v0 : Value) (v1 : Value) (v4 : Value) (v11 : Value) (v12 : Value) (H : AHeap) (k : K) : Res :=
bareK (xbin P .leq T.int (.tmp 31) (.tmp 32) v11 v12) H fun t33 h11 =>
mg t33 true (fun o4 => o4 v4 h11) h11 fun t35 h12 =>
mg t33 true (fun o5 => o5 v0 h12) h12 fun t36 h13 =>
mg t33 true (fun o6 => o6 v1 h13) h13 fun t37 h14 =>
mg t33 true (fun o7 => bareK (ixS 1 t36 t37) h14 o7) h14 fun t38 h15 =>
mg t33 true (fun o8 => bareK (ld1 h15 t38) h15 o8) h15 fun t39 h16 =>
mg t33 true (fun o9 => o9 v0 h16) h16 fun t40 h17 =>
mg t33 true (fun o10 => o10 v11 h17) h17 fun t41 h18 =>
mg t33 true (fun o11 => bareK (ixS 1 t40 t41) h18 o11) h18 fun t42 h19 =>
mg t33 true (fun o12 => bareK (ld1 h19 t42) h19 o12) h19 fun t43 h20 =>
mg t33 true (fun o13 => callK P C t35 [t39, t43] h20 o13) h20 fun t44 h21 =>
mg t33 true (fun o14 => bareK (xbin P .lss T.int (.tmp 44) (.const (.int .i64 0)) t44 (.int .i64 0)) h21 o14) h21 fun t45 h22 =>
mg t33 true (fun o15 => bareK (xun P .not t45) h22 o15) h22 fun t46 h23 =>
pickK t33 t46 (.bool false) fun t47 =>
checkK true <|
mc t47 (fun k16 => k16 .normal [(0, v0), (1, v1), (4, v4), (11, v11), (12, v12)] h23) (fun k16 =>
k16 (.exit 2) [(47, t47), (46, t46), (45, t45), (44, t44), (43, t43), (42, t42), (41, t41), (40, t40), (39, t39), (38, t38), (37, t37), (36, t36), (35, t35), (34, t33), (33, t33), (32, v12), (31, v11), (0, v0), (1, v1), (4, v4), (11, v11), (12, v12)] h23) (seqK (fun tT h24 =>
ms (fun k17 =>
bareK (xbin P .add T.int (.tmp 48) (.const (.int .i64 1)) (get tT 11) (.int .i64 1)) h24 fun t49 h25 =>
k17 .normal [(0, (get tT 0)), (1, (get tT 1)), (4, (get tT 4)), (11, t49), (12, (get tT 12))] h25) (afterK [0, 1, 4, 11, 12] k)) (afterK [0, 1, 4, 11, 12] k))

noncomputable def s_slices_partitionEqualCmpFunc_string_b2 (mg : GT) (mc : CT) (ms : ST) (P : Program) (C : CallF) (L0 : Value → Value → Value → Value → Value → AHeap → K → Res) (L1 : Value → Value → Value → Value → Value → AHeap → K → Res) (L2 : Value → Value → Value → Value → Value → AHeap → K → Res) (v0 : Value) (v1 : Value) (v4 : Value) (v11 : Value) (v12 : Value) (H : AHeap) (k : K) : Res :=
bareK (xbin P .leq T.int (.tmp 50) (.tmp 51) v11 v12) H fun t52 h12 =>
mg t52 true (fun o5 => o5 v4 h12) h12 fun t54 h13 =>
mg t52 true (fun o6 => o6 v0 h13) h13 fun t55 h14 =>
mg t52 true (fun o7 => o7 v1 h14) h14 fun t56 h15 =>
mg t52 true (fun o8 => bareK (ixS 1 t55 t56) h15 o8) h15 fun t57 h16 =>
mg t52 true (fun o9 => bareK (ld1 h16 t57) h16 o9) h16 fun t58 h17 =>
mg t52 true (fun o10 => o10 v0 h17) h17 fun t59 h18 =>
mg t52 true (fun o11 => o11 v12 h18) h18 fun t60 h19 =>
mg t52 true (fun o12 => bareK (ixS 1 t59 t60) h19 o12) h19 fun t61 h20 =>
mg t52 true (fun o13 => bareK (ld1 h20 t61) h20 o13) h20 fun t62 h21 =>
mg t52 true (fun o14 => callK P C t54 [t58, t62] h21 o14) h21 fun t63 h22 =>
mg t52 true (fun o15 => bareK (xbin P .lss T.int (.tmp 63) (.const (.int .i64 0)) t63 (.int .i64 0)) h22 o15) h22 fun t64 h23 =>
pickK t52 t64 (.bool false) fun t65 =>
checkK true <|
mc t65 (fun k16 => k16 .normal [(0, v0), (1, v1), (4, v4), (11, v11), (12, v12)] h23) (fun k16 =>
k16 (.exit 4) [(65, t65), (64, t64), (63, t63), (62, t62), (61, t61), (60, t60), (59, t59), (58, t58), (57, t57), (56, t56), (55, t55), (54, t54), (53, t52), (52, t52), (51, v12), (50, v11), (0, v0), (1, v1), (4, v4), (11, v11), (12, v12)] h23) (seqK (fun tT h24 =>
ms (fun k17 =>
bareK (xbin P .sub T.int (.tmp 66) (.const (.int .i64 1)) (get tT 12) (.int .i64 1)) h24 fun t67 h25 =>
k17 .normal [(0, (get tT 0)), (1, (get tT 1)), (4, (get tT 4)), (11, (get tT 11)), (12, t67)] h25) (afterK [0, 1, 4, 11, 12] k)) (afterK [0, 1, 4, 11, 12] k))

theorem s_slices_partitionEqualCmpFunc_string_eq (M : CombL) (C : CallF) (LP : LoopH) (a0 : Value) (a1 : Value) (a2 : Value) (a3 : Value) (a4 : Value) (H : AHeap) : dBodyL M Try.prog hints C LP F.slices_partitionEqualCmpFunc_string [a0, a1, a2, a3, a4] H = s_slices_partitionEqualCmpFunc_string M.b.g M.c M.s Try.prog C (fun v0 v1 v4 v11 v12 H k => loopL M Try.prog hints C LP F.slices_partitionEqualCmpFunc_string 0 [(0, v0), (1, v1), (4, v4), (11, v11), (12, v12)] H k) (fun v0 v1 v4 v11 v12 H k => loopL M Try.prog hints C LP F.slices_partitionEqualCmpFunc_string 1 [(0, v0), (1, v1), (4, v4), (11, v11), (12, v12)] H k) (fun v0 v1 v4 v11 v12 H k => loopL M Try.prog hints C LP F.slices_partitionEqualCmpFunc_string 2 [(0, v0), (1, v1), (4, v4), (11, v11), (12, v12)] H k) a0 a1 a2 a3 a4 H (endK Try.prog [.tmp 10]) := by kernel_rfl

theorem s_slices_partitionEqualCmpFunc_string_b0_eq (M : CombL) (C : CallF) (LP : LoopH) (v0 : Value) (v1 : Value) (v4 : Value) (v11 : Value) (v12 : Value) (H : AHeap) (k : K) : bodyL M Try.prog hints C LP F.slices_partitionEqualCmpFunc_string 0 [(0, v0), (1, v1), (4, v4), (11, v11), (12, v12)] H (afterK [0, 1, 4, 11, 12] k) = s_slices_partitionEqualCmpFunc_string_b0 M.b.g M.c M.s Try.prog C (fun v0 v1 v4 v11 v12 H k => loopL M Try.prog hints C LP F.slices_partitionEqualCmpFunc_string 0 [(0, v0), (1, v1), (4, v4), (11, v11), (12, v12)] H k) (fun v0 v1 v4 v11 v12 H k => loopL M Try.prog hints C LP F.slices_partitionEqualCmpFunc_string 1 [(0, v0), (1, v1), (4, v4), (11, v11), (12, v12)] H k) (fun v0 v1 v4 v11 v12 H k => loopL M Try.prog hints C LP F.slices_partitionEqualCmpFunc_string 2 [(0, v0), (1, v1), (4, v4), (11, v11), (12, v12)] H k) v0 v1 v4 v11 v12 H k := by kernel_rfl

theorem s_slices_partitionEqualCmpFunc_string_b1_eq (M : CombL) (C : CallF) (LP : LoopH) (v0 : Value) (v1 : Value) (v4 : Value) (v11 : Value) (v12 : Value) (H : AHeap) (k : K) : bodyL M Try.prog hints C LP F.slices_partitionEqualCmpFunc_string 1 [(0, v0), (1, v1), (4, v4), (11, v11), (12, v12)] H (afterK [0, 1, 4, 11, 12] k) = s_slices_partitionEqualCmpFunc_string_b1 M.b.g M.c M.s Try.prog C (fun v0 v1 v4 v11 v12 H k => loopL M Try.prog hints C LP F.slices_partitionEqualCmpFunc_string 0 [(0, v0), (1, v1), (4, v4), (11, v11), (12, v12)] H k) (fun v0 v1 v4 v11 v12 H k => loopL M Try.prog hints C LP F.slices_partitionEqualCmpFunc_string 1 [(0, v0), (1, v1), (4, v4), (11, v11), (12, v12)] H k) (fun v0 v1 v4 v11 v12 H k => loopL M Try.prog hints C LP F.slices_partitionEqualCmpFunc_string 2 [(0, v0), (1, v1), (4, v4), (11, v11), (12, v12)] H k) v0 v1 v4 v11 v12 H k := by kernel_rfl

theorem s_slices_partitionEqualCmpFunc_string_b2_eq (M : CombL) (C : CallF) (LP : LoopH) (v0 : Value) (v1 : Value) (v4 : Value) (v11 : Value) (v12 : Value) (H : AHeap) (k : K) : bodyL M Try.prog hints C LP F.slices_partitionEqualCmpFunc_string 2 [(0, v0), (1, v1), (4, v4), (11, v11), (12, v12)] H (afterK [0, 1, 4, 11, 12] k) = s_slices_partitionEqualCmpFunc_string_b2 M.b.g M.c M.s Try.prog C (fun v0 v1 v4 v11 v12 H k => loopL M Try.prog hints C LP F.slices_partitionEqualCmpFunc_string 0 [(0, v0), (1, v1), (4, v4), (11, v11), (12, v12)] H k) (fun v0 v1 v4 v11 v12 H k => loopL M Try.prog hints C LP F.slices_partitionEqualCmpFunc_string 1 [(0, v0), (1, v1), (4, v4), (11, v11), (12, v12)] H k) (fun v0 v1 v4 v11 v12 H k => loopL M Try.prog hints C LP F.slices_partitionEqualCmpFunc_string 2 [(0, v0), (1, v1), (4, v4), (11, v11), (12, v12)] H k) v0 v1 v4 v11 v12 H k := by kernel_rfl

/-! slices.partitionCmpFunc[string] -/

noncomputable def s_slices_partitionCmpFunc_string (mg : GT) (mc : CT) (ms : ST) (P : Program) (C : CallF) (L0 : Value → Value → Value → Value → Value → AHeap → K → Res) (L1 : Value → Value → Value → Value → Value → AHeap → K → Res) (L2 : Value → Value → Value → Value → Value → AHeap → K → Res) (L3 : Value → Value → Value → Value → Value → AHeap → K → Res) (L4 : Value → Value → Value → Value → Value → AHeap → K → Res) (a0 : Value) (a1 : Value) (a2 : Value) (a3 : Value) (a4 : Value) (H : AHeap) (K0 : K) : Res :=
bareK (ixS 1 a0 a3) H fun t20 h1 =>
bareK (ld1 h1 t20) h1 fun t21 h2 =>
bareK (ixS 1 a0 a1) h2 fun t24 h3 =>
bareK (ld1 h3 t24) h3 fun t25 h4 =>
bareK (ixS 1 a0 a1) h4 fun t26 h5 =>
quietK (st1 h5 t26 t21) fun _ h6 =>
bareK (ixS 1 a0 a3) h6 fun t27 h7 =>
quietK (st1 h7 t27 t25) fun _ h8 =>
checkK (okV (some true) none h5 h6 H H && (okV (some true) none h5 h6 H H && true)) <|
bareK (xbin P .add T.int (.tmp 28) (.const (.int .i64 1)) a1 (.int .i64 1)) h8 fun t29 h9 =>
bareK (xbin P .sub T.int (.tmp 30) (.const (.int .i64 1)) a2 (.int .i64 1)) h9 fun t31 h10 =>
ms (fun k1 =>
L0 a0 a1 a4 t29 t31 h10 (blkK [0, 1, 4, 12, 13] 0 k1)) (seqK (fun tT h11 =>
ms (fun k2 =>
L1 (get tT 0) (get tT 1) (get tT 4) (get tT 12) (get tT 13) h11 (blkK [0, 1, 4, 12, 13] 2 k2)) (seqK (fun tT_1 h12 =>
bareK (xbin P .gtr T.int (.tmp 69) (.tmp 70) (get tT_1 12) (get tT_1 13)) h12 fun t71 h13 =>
mc t71 (fun k3 => bareK (ixS 1 (get tT_1 0) (get tT_1 1)) h13 fun t78 h14 =>
bareK (ld1 h14 t78) h14 fun t79 h15 =>
bareK (ixS 1 (get tT_1 0) (get tT_1 13)) h15 fun t82 h16 =>
bareK (ld1 h16 t82) h16 fun t83 h17 =>
bareK (ixS 1 (get tT_1 0) (get tT_1 13)) h17 fun t84 h18 =>
quietK (st1 h18 t84 t79) fun _ h19 =>
bareK (ixS 1 (get tT_1 0) (get tT_1 1)) h19 fun t85 h20 =>
quietK (st1 h20 t85 t83) fun _ h21 =>
checkK (okV (some true) none h18 h19 h13 h13 && (okV (some true) none h18 h19 h13 h13 && true)) <|
k3 .ret [(10, (get tT_1 13)), (11, (.bool true))] h21) (fun k3 =>
k3 .normal [(0, (get tT_1 0)), (1, (get tT_1 1)), (4, (get tT_1 4)), (12, (get tT_1 12)), (13, (get tT_1 13))] h13) (seqK (fun tT_2 h22 =>
bareK (ixS 1 (get tT_2 0) (get tT_2 13)) h22 fun t93 h23 =>
bareK (ld1 h23 t93) h23 fun t94 h24 =>
bareK (ixS 1 (get tT_2 0) (get tT_2 12)) h24 fun t97 h25 =>
bareK (ld1 h25 t97) h25 fun t98 h26 =>
bareK (ixS 1 (get tT_2 0) (get tT_2 12)) h26 fun t99 h27 =>
quietK (st1 h27 t99 t94) fun _ h28 =>
bareK (ixS 1 (get tT_2 0) (get tT_2 13)) h28 fun t100 h29 =>
quietK (st1 h29 t100 t98) fun _ h30 =>
checkK (okV (some true) none h27 h28 h22 h22 && (okV (some true) none h27 h28 h22 h22 && true)) <|
bareK (xbin P .add T.int (.tmp 101) (.const (.int .i64 1)) (get tT_2 12) (.int .i64 1)) h30 fun t102 h31 =>
bareK (xbin P .sub T.int (.tmp 103) (.const (.int .i64 1)) (get tT_2 13) (.int .i64 1)) h31 fun t104 h32 =>
ms (fun k4 =>
L2 (get tT_2 0) (get tT_2 1) (get tT_2 4) t102 t104 h32 (blkK [0, 1, 13] 4 k4)) (seqK (fun tT_3 h33 =>
bareK (ixS 1 (get tT_3 0) (get tT_3 1)) h33 fun t169 h34 =>
bareK (ld1 h34 t169) h34 fun t170 h35 =>
bareK (ixS 1 (get tT_3 0) (get tT_3 13)) h35 fun t173 h36 =>
bareK (ld1 h36 t173) h36 fun t174 h37 =>
bareK (ixS 1 (get tT_3 0) (get tT_3 13)) h37 fun t175 h38 =>
quietK (st1 h38 t175 t170) fun _ h39 =>
bareK (ixS 1 (get tT_3 0) (get tT_3 1)) h39 fun t176 h40 =>
quietK (st1 h40 t176 t174) fun _ h41 =>
checkK (okV (some true) none h38 h39 h33 h33 && (okV (some true) none h38 h39 h33 h33 && true)) <|
K0 .ret [(10, (get tT_3 13)), (11, (.bool false))] h41) K0)) K0)) K0)) K0)

noncomputable def s_slices_partitionCmpFunc_string_b0 (mg : GT) (mc : CT) (ms : ST) (P : Program) (C : CallF) (L0 : Value → Value → Value → Value → Value → AHeap → K → Res) (L1 : Value → Value → Value → Value → Value → AHeap → K → Res) (L2 : Value → Value → Value → Value → Value → AHeap → K → Res) (L3 : Value → Value → Value → Value → Value → AHeap → K → Res) (L4 : Value → Value → Value → Value → Value → AHeap → K → Res) (v0 : Value) (v1 : Value) (v4 : Value) (v12 : Value) (v13 : Value) (H : AHeap) (k : K) : Res :=
bareK (xbin P .leq T.int (.tmp 32) (.tmp 33) v12 v13) H fun t34 h11 =>
mg t34 true (fun o2 => o2 v4 h11) h11 fun t36 h12 =>
mg t34 true (fun o3 => o3 v0 h12) h12 fun t37 h13 =>
mg t34 true (fun o4 => o4 v12 h13) h13 fun t38 h14 =>
mg t34 true (fun o5 => bareK (ixS 1 t37 t38) h14 o5) h14 fun t39 h15 =>
mg t34 true (fun o6 => bareK (ld1 h15 t39) h15 o6) h15 fun t40 h16 =>
mg t34 true (fun o7 => o7 v0 h16) h16 fun t41 h17 =>
mg t34 true (fun o8 => o8 v1 h17) h17 fun t42 h18 =>
mg t34 true (fun o9 => bareK (ixS 1 t41 t42) h18 o9) h18 fun t43 h19 =>
mg t34 true (fun o10 => bareK (ld1 h19 t43) h19 o10) h19 fun t44 h20 =>
mg t34 true (fun o11 => callK P C t36 [t40, t44] h20 o11) h20 fun t45 h21 =>
mg t34 true (fun o12 => bareK (xbin P .lss T.int (.tmp 45) (.const (.int .i64 0)) t45 (.int .i64 0)) h21 o12) h21 fun t46 h22 =>
pickK t34 t46 (.bool false) fun t47 =>
checkK true <|
mc t47 (fun k13 => k13 .normal [(0, v0), (1, v1), (4, v4), (12, v12), (13, v13)] h22) (fun k13 =>
k13 (.exit 0) [(47, t47), (46, t46), (45, t45), (44, t44), (43, t43), (42, t42), (41, t41), (40, t40), (39, t39), (38, t38), (37, t37), (36, t36), (35, t34), (34, t34), (33, v13), (32, v12), (0, v0), (1, v1), (4, v4), (12, v12), (13, v13)] h22) (seqK (fun tT h23 =>
ms (fun k14 =>
bareK (xbin P .add T.int (.tmp 48) (.const (.int .i64 1)) (get tT 12) (.int .i64 1)) h23 fun t49 h24 =>
k14 .normal [(0, (get tT 0)), (1, (get tT 1)), (4, (get tT 4)), (12, t49), (13, (get tT 13))] h24) (afterK [0, 1, 4, 12, 13] k)) (afterK [0, 1, 4, 12, 13] k))

noncomputable def s_slices_partitionCmpFunc_string_b1 (mg : GT) (mc : CT) (ms : ST) (P : Program) (C : CallF) (L0 : Value → Value → Value → Value → Value → AHeap → K → Res) (L1 : Value → Value → Value → Value → Value → AHeap → K → Res) (L2 : Value → Value → Value → Value → Value → AHeap → K → Res) (L3 : Value → Value → Value → Value → Value → AHeap → K → Res) (L4 : Value → Value → Value → Value → Value → AHeap → K → Res) (v0 : Value) (v1 : Value) (v4 : Value) (v12 : Value) (v13 : Value) (H : AHeap) (k : K) : Res :=
bareK (xbin P .leq T.int (.tmp 50) (.tmp 51) v12 v13) H fun t52 h12 =>
mg t52 true (fun o3 => o3 v4 h12) h12 fun t54 h13 =>
mg t52 true (fun o4 => o4 v0 h13) h13 fun t55 h14 =>
mg t52 true (fun o5 => o5 v13 h14) h14 fun t56 h15 =>
mg t52 true (fun o6 => bareK (ixS 1 t55 t56) h15 o6) h15 fun t57 h16 =>
mg t52 true (fun o7 => bareK (ld1 h16 t57) h16 o7) h16 fun t58 h17 =>
mg t52 true (fun o8 => o8 v0 h17) h17 fun t59 h18 =>
mg t52 true (fun o9 => o9 v1 h18) h18 fun t60 h19 =>
mg t52 true (fun o10 => bareK (ixS 1 t59 t60) h19 o10) h19 fun t61 h20 =>
mg t52 true (fun o11 => bareK (ld1 h20 t61) h20 o11) h20 fun t62 h21 =>
mg t52 true (fun o12 => callK P C t54 [t58, t62] h21 o12) h21 fun t63 h22 =>
mg t52 true (fun o13 => bareK (xbin P .lss T.int (.tmp 63) (.const (.int .i64 0)) t63 (.int .i64 0)) h22 o13) h22 fun t64 h23 =>
mg t52 true (fun o14 => bareK (xun P .not t64) h23 o14) h23 fun t65 h24 =>
pickK t52 t65 (.bool false) fun t66 =>
checkK true <|
mc t66 (fun k15 => k15 .normal [(0, v0), (1, v1), (4, v4), (12, v12), (13, v13)] h24) (fun k15 =>
k15 (.exit 2) [(66, t66), (65, t65), (64, t64), (63, t63), (62, t62), (61, t61), (60, t60), (59, t59), (58, t58), (57, t57), (56, t56), (55, t55), (54, t54), (53, t52), (52, t52), (51, v13), (50, v12), (0, v0), (1, v1), (4, v4), (12, v12), (13, v13)] h24) (seqK (fun tT h25 =>
ms (fun k16 =>
bareK (xbin P .sub T.int (.tmp 67) (.const (.int .i64 1)) (get tT 13) (.int .i64 1)) h25 fun t68 h26 =>
k16 .normal [(0, (get tT 0)), (1, (get tT 1)), (4, (get tT 4)), (12, (get tT 12)), (13, t68)] h26) (afterK [0, 1, 4, 12, 13] k)) (afterK [0, 1, 4, 12, 13] k))

noncomputable def s_slices_partitionCmpFunc_string_b2 (mg : GT) (mc : CT) (ms : ST) (P : Program) (C : CallF) (L0 : Value → Value → Value → Value → Value → AHeap → K → Res) (L1 : Value → Value → Value → Value → Value → AHeap → K → Res) (L2 : Value → Value → Value → Value → Value → AHeap → K → Res) (L3 : Value → Value → Value → Value → Value → AHeap → K → Res) (L4 : Value → Value → Value → Value → Value → AHeap → K → Res) (v0 : Value) (v1 : Value) (v4 : Value) (v12 : Value) (v13 : Value) (H : AHeap) (k : K) : Res :=
ms (fun k5 =>
ms (fun k6 =>
L3 v0 v1 v4 v12 v13 H (blkK [0, 1, 4, 12, 13] 6 k6)) (seqK (fun tT h33 =>
ms (fun k7 =>
L4 (get tT 0) (get tT 1) (get tT 4) (get tT 12) (get tT 13) h33 (blkK [0, 1, 4, 12, 13] 8 k7)) (seqK (fun tT_1 h34 =>
bareK (xbin P .gtr T.int (.tmp 142) (.tmp 143) (get tT_1 12) (get tT_1 13)) h34 fun t144 h35 =>
mc t144 (fun k8 => k8 (.exit 4) ((144, t144) :: (143, (get tT_1 13)) :: (142, (get tT_1 12)) :: tT_1) h35) (fun k8 =>
k8 .normal [(0, (get tT_1 0)), (1, (get tT_1 1)), (4, (get tT_1 4)), (12, (get tT_1 12)), (13, (get tT_1 13))] h35) (seqK (fun tT_2 h36 =>
bareK (ixS 1 (get tT_2 0) (get tT_2 13)) h36 fun t151 h37 =>
bareK (ld1 h37 t151) h37 fun t152 h38 =>
bareK (ixS 1 (get tT_2 0) (get tT_2 12)) h38 fun t155 h39 =>
bareK (ld1 h39 t155) h39 fun t156 h40 =>
bareK (ixS 1 (get tT_2 0) (get tT_2 12)) h40 fun t157 h41 =>
quietK (st1 h41 t157 t152) fun _ h42 =>
bareK (ixS 1 (get tT_2 0) (get tT_2 13)) h42 fun t158 h43 =>
quietK (st1 h43 t158 t156) fun _ h44 =>
checkK (okV (some true) none h41 h42 h36 h36 && (okV (some true) none h41 h42 h36 h36 && true)) <|
bareK (xbin P .add T.int (.tmp 159) (.const (.int .i64 1)) (get tT_2 12) (.int .i64 1)) h44 fun t160 h45 =>
bareK (xbin P .sub T.int (.tmp 161) (.const (.int .i64 1)) (get tT_2 13) (.int .i64 1)) h45 fun t162 h46 =>
k5 .normal [(0, (get tT_2 0)), (1, (get tT_2 1)), (4, (get tT_2 4)), (12, t160), (13, t162)] h46) (blkK [0, 1, 4, 12, 13] 5 k5))) (blkK [0, 1, 4, 12, 13] 5 k5))) (blkK [0, 1, 4, 12, 13] 5 k5))) (afterK [0, 1, 4, 12, 13] k)

noncomputable def s_slices_partitionCmpFunc_string_b3 (mg : GT) (mc : CT) (ms : ST) (P : Program) (C : CallF) (L0 : Value → Value → Value → Value → Value → AHeap → K → Res) (L1 : Value → Value → Value → Value → Value → AHeap → K → Res) (L2 : Value → Value → Value → Value → Value → AHeap → K → Res) (L3 : Value → Value → Value → Value → Value → AHeap → K → Res) (L4 : Value → Value → Value → Value → Value → AHeap → K → Res) (v0 : Value) (v1 : Value) (v4 : Value) (v12 : Value) (v13 : Value) (H : AHeap) (k : K) : Res :=
bareK (xbin P .leq T.int (.tmp 105) (.tmp 106) v12 v13) H fun t107 h33 =>
mg t107 true (fun o7 => o7 v4 h33) h33 fun t109 h34 =>
mg t107 true (fun o8 => o8 v0 h34) h34 fun t110 h35 =>
mg t107 true (fun o9 => o9 v12 h35) h35 fun t111 h36 =>
mg t107 true (fun o10 => bareK (ixS 1 t110 t111) h36 o10) h36 fun t112 h37 =>
mg t107 true (fun o11 => bareK (ld1 h37 t112) h37 o11) h37 fun t113 h38 =>
mg t107 true (fun o12 => o12 v0 h38) h38 fun t114 h39 =>
mg t107 true (fun o13 => o13 v1 h39) h39 fun t115 h40 =>
mg t107 true (fun o14 => bareK (ixS 1 t114 t115) h40 o14) h40 fun t116 h41 =>
mg t107 true (fun o15 => bareK (ld1 h41 t116) h41 o15) h41 fun t117 h42 =>
mg t107 true (fun o16 => callK P C t109 [t113, t117] h42 o16) h42 fun t118 h43 =>
mg t107 true (fun o17 => bareK (xbin P .lss T.int (.tmp 118) (.const (.int .i64 0)) t118 (.int .i64 0)) h43 o17) h43 fun t119 h44 =>
pickK t107 t119 (.bool false) fun t120 =>
checkK true <|
mc t120 (fun k18 => k18 .normal [(0, v0), (1, v1), (4, v4), (12, v12), (13, v13)] h44) (fun k18 =>
k18 (.exit 6) [(120, t120), (119, t119), (118, t118), (117, t117), (116, t116), (115, t115), (114, t114), (113, t113), (112, t112), (111, t111), (110, t110), (109, t109), (108, t107), (107, t107), (106, v13), (105, v12), (0, v0), (1, v1), (4, v4), (12, v12), (13, v13)] h44) (seqK (fun tT h45 =>
ms (fun k19 =>
bareK (xbin P .add T.int (.tmp 121) (.const (.int .i64 1)) (get tT 12) (.int .i64 1)) h45 fun t122 h46 =>
k19 .normal [(0, (get tT 0)), (1, (get tT 1)), (4, (get tT 4)), (12, t122), (13, (get tT 13))] h46) (afterK [0, 1, 4, 12, 13] k)) (afterK [0, 1, 4, 12, 13] k))

noncomputable def s_slices_partitionCmpFunc_string_b4 (mg : GT) (mc : CT) (ms : ST) (P : Program) (C : CallF) (L0 : Value → Value → Value → Value → Value → AHeap → K → Res) (L1 : Value → Value → Value → Value → Value → AHeap → K → Res) (L2 : Value → Value → Value → Value → Value → AHeap → K → Res) (L3 : Value → Value → Value → Value → Value → AHeap → K → Res) (L4 : Value → Value → Value → Value → Value → AHeap → K → Res) (v0 : Value) (v1 : Value) (v4 : Value) (v12 : Value) (v13 : Value) (H : AHeap) (k : K) : Res :=
bareK (xbin P .leq T.int (.tmp 123) (.tmp 124) v12 v13) H fun t125 h34 =>
mg t125 true (fun o8 => o8 v4 h34) h34 fun t127 h35 =>
mg t125 true (fun o9 => o9 v0 h35) h35 fun t128 h36 =>
mg t125 true (fun o10 => o10 v13 h36) h36 fun t129 h37 =>
mg t125 true (fun o11 => bareK (ixS 1 t128 t129) h37 o11) h37 fun t130 h38 =>
mg t125 true (fun o12 => bareK (ld1 h38 t130) h38 o12) h38 fun t131 h39 =>
mg t125 true (fun o13 => o13 v0 h39) h39 fun t132 h40 =>
mg t125 true (fun o14 => o14 v1 h40) h40 fun t133 h41 =>
mg t125 true (fun o15 => bareK (ixS 1 t132 t133) h41 o15) h41 fun t134 h42 =>
mg t125 true (fun o16 => bareK (ld1 h42 t134) h42 o16) h42 fun t135 h43 =>
mg t125 true (fun o17 => callK P C t127 [t131, t135] h43 o17) h43 fun t136 h44 =>
mg t125 true (fun o18 => bareK (xbin P .lss T.int (.tmp 136) (.const (.int .i64 0)) t136 (.int .i64 0)) h44 o18) h44 fun t137 h45 =>
mg t125 true (fun o19 => bareK (xun P .not t137) h45 o19) h45 fun t138 h46 =>
pickK t125 t138 (.bool false) fun t139 =>
checkK true <|
mc t139 (fun k20 => k20 .normal [(0, v0), (1, v1), (4, v4), (12, v12), (13, v13)] h46) (fun k20 =>
k20 (.exit 8) [(139, t139), (138, t138), (137, t137), (136, t136), (135, t135), (134, t134), (133, t133), (132, t132), (131, t131), (130, t130), (129, t129), (128, t128), (127, t127), (126, t125), (125, t125), (124, v13), (123, v12), (0, v0), (1, v1), (4, v4), (12, v12), (13, v13)] h46) (seqK (fun tT h47 =>
ms (fun k21 =>
bareK (xbin P .sub T.int (.tmp 140) (.const (.int .i64 1)) (get tT 13) (.int .i64 1)) h47 fun t141 h48 =>
k21 .normal [(0, (get tT 0)), (1, (get tT 1)), (4, (get tT 4)), (12, (get tT 12)), (13, t141)] h48) (afterK [0, 1, 4, 12, 13] k)) (afterK [0, 1, 4, 12, 13] k))

theorem s_slices_partitionCmpFunc_string_eq (M : CombL) (C : CallF) (LP : LoopH) (a0 : Value) (a1 : Value) (a2 : Value) (a3 : Value) (a4 : Value) (H : AHeap) : dBodyL M Try.prog hints C LP F.slices_partitionCmpFunc_string [a0, a1, a2, a3, a4] H = s_slices_partitionCmpFunc_string M.b.g M.c M.s Try.prog C (fun v0 v1 v4 v12 v13 H k => loopL M Try.prog hints C LP F.slices_partitionCmpFunc_string 0 [(0, v0), (1, v1), (4, v4), (12, v12), (13, v13)] H k) (fun v0 v1 v4 v12 v13 H k => loopL M Try.prog hints C LP F.slices_partitionCmpFunc_string 1 [(0, v0), (1, v1), (4, v4), (12, v12), (13, v13)] H k) (fun v0 v1 v4 v12 v13 H k => loopL M Try.prog hints C LP F.slices_partitionCmpFunc_string 2 [(0, v0), (1, v1), (4, v4), (12, v12), (13, v13)] H k) (fun v0 v1 v4 v12 v13 H k => loopL M Try.prog hints C LP F.slices_partitionCmpFunc_string 3 [(0, v0), (1, v1), (4, v4), (12, v12), (13, v13)] H k) (fun v0 v1 v4 v12 v13 H k => loopL M Try.prog hints C LP F.slices_partitionCmpFunc_string 4 [(0, v0), (1, v1), (4, v4), (12, v12), (13, v13)] H k) a0 a1 a2 a3 a4 H (endK Try.prog [.tmp 10, .tmp 11]) := by kernel_rfl

theorem s_slices_partitionCmpFunc_string_b0_eq (M : CombL) (C : CallF) (LP : LoopH) (v0 : Value) (v1 : Value) (v4 : Value) (v12 : Value) (v13 : Value) (H : AHeap) (k : K) : bodyL M Try.prog hints C LP F.slices_partitionCmpFunc_string 0 [(0, v0), (1, v1), (4, v4), (12, v12), (13, v13)] H (afterK [0, 1, 4, 12, 13] k) = s_slices_partitionCmpFunc_string_b0 M.b.g M.c M.s Try.prog C (fun v0 v1 v4 v12 v13 H k => loopL M Try.prog hints C LP F.slices_partitionCmpFunc_string 0 [(0, v0), (1, v1), (4, v4), (12, v12), (13, v13)] H k) (fun v0 v1 v4 v12 v13 H k => loopL M Try.prog hints C LP F.slices_partitionCmpFunc_string 1 [(0, v0), (1, v1), (4, v4), (12, v12), (13, v13)] H k) (fun v0 v1 v4 v12 v13 H k => loopL M Try.prog hints C LP F.slices_partitionCmpFunc_string 2 [(0, v0), (1, v1), (4, v4), (12, v12), (13, v13)] H k) (fun v0 v1 v4 v12 v13 H k => loopL M Try.prog hints C LP F.slices_partitionCmpFunc_string 3 [(0, v0), (1, v1), (4, v4), (12, v12), (13, v13)] H k) (fun v0 v1 v4 v12 v13 H k => loopL M Try.prog hints C LP F.slices_partitionCmpFunc_string 4 [(0, v0), (1, v1), (4, v4), (12, v12), (13, v13)] H k) v0 v1 v4 v12 v13 H k := by kernel_rfl

theorem s_slices_partitionCmpFunc_string_b1_eq (M : CombL) (C : CallF) (LP : LoopH) (v0 : Value) (v1 : Value) (v4 : Value) (v12 : Value) (v13 : Value) (H : AHeap) (k : K) : bodyL M Try.prog hints C LP F.slices_partitionCmpFunc_string 1 [(0, v0), (1, v1), (4, v4), (12, v12), (13, v13)] H (afterK [0, 1, 4, 12, 13] k) = s_slices_partitionCmpFunc_string_b1 M.b.g M.c M.s Try.prog C (fun v0 v1 v4 v12 v13 H k => loopL M Try.prog hints C LP F.slices_partitionCmpFunc_string 0 [(0, v0), (1, v1), (4, v4), (12, v12), (13, v13)] H k) (fun v0 v1 v4 v12 v13 H k => loopL M Try.prog hints C LP F.slices_partitionCmpFunc_string 1 [(0, v0), (1, v1), (4, v4), (12, v12), (13, v13)] H k) (fun v0 v1 v4 v12 v13 H k => loopL M Try.prog hints C LP F.slices_partitionCmpFunc_string 2 [(0, v0), (1, v1), (4, v4), (12, v12), (13, v13)] H k) (fun v0 v1 v4 v12 v13 H k => loopL M Try.prog hints C LP F.slices_partitionCmpFunc_string 3 [(0, v0), (1, v1), (4, v4), (12, v12), (13, v13)] H k) (fun v0 v1 v4 v12 v13 H k => loopL M Try.prog hints C LP F.slices_partitionCmpFunc_string 4 [(0, v0), (1, v1), (4, v4), (12, v12), (13, v13)] H k) v0 v1 v4 v12 v13 H k := by kernel_rfl

theorem s_slices_partitionCmpFunc_string_b2_eq (M : CombL) (C : CallF) (LP : LoopH) (v0 : Value) (v1 : Value) (v4 : Value) (v12 : Value) (v13 : Value) (H : AHeap) (k : K) : bodyL M Try.prog hints C LP F.slices_partitionCmpFunc_string 2 [(0, v0), (1, v1), (4, v4), (12, v12), (13, v13)] H (afterK [0, 1, 4, 12, 13] k) = s_slices_partitionCmpFunc_string_b2 M.b.g M.c M.s Try.prog C (fun v0 v1 v4 v12 v13 H k => loopL M Try.prog hints C LP F.slices_partitionCmpFunc_string 0 [(0, v0), (1, v1), (4, v4), (12, v12), (13, v13)] H k) (fun v0 v1 v4 v12 v13 H k => loopL M Try.prog hints C LP F.slices_partitionCmpFunc_string 1 [(0, v0), (1, v1), (4, v4), (12, v12), (13, v13)] H k) (fun v0 v1 v4 v12 v13 H k => loopL M Try.prog hints C LP F.slices_partitionCmpFunc_string 2 [(0, v0), (1, v1), (4, v4), (12, v12), (13, v13)] H k) (fun v0 v1 v4 v12 v13 H k => loopL M Try.prog hints C LP F.slices_partitionCmpFunc_string 3 [(0, v0), (1, v1), (4, v4), (12, v12), (13, v13)] H k) (fun v0 v1 v4 v12 v13 H k => loopL M Try.prog hints C LP F.slices_partitionCmpFunc_string 4 [(0, v0), (1, v1), (4, v4), (12, v12), (13, v13)] H k) v0 v1 v4 v12 v13 H k := by kernel_rfl

theorem s_slices_partitionCmpFunc_string_b3_eq (M : CombL) (C : CallF) (LP : LoopH) (v0 : Value) (v1 : Value) (v4 : Value) (v12 : Value) (v13 : Value) (H : AHeap) (k : K) : bodyL M Try.prog hints C LP F.slices_partitionCmpFunc_string 3 [(0, v0), (1, v1), (4, v4), (12, v12), (13, v13)] H (afterK [0, 1, 4, 12, 13] k) = s_slices_partitionCmpFunc_string_b3 M.b.g M.c M.s Try.prog C (fun v0 v1 v4 v12 v13 H k => loopL M Try.prog hints C LP F.slices_partitionCmpFunc_string 0 [(0, v0), (1, v1), (4, v4), (12, v12), (13, v13)] H k) (fun v0 v1 v4 v12 v13 H k => loopL M Try.prog hints C LP F.slices_partitionCmpFunc_string 1 [(0, v0), (1, v1), (4, v4), (12, v12), (13, v13)] H k) (fun v0 v1 v4 v12 v13 H k => loopL M Try.prog hints C LP F.slices_partitionCmpFunc_string 2 [(0, v0), (1, v1), (4, v4), (12, v12), (13, v13)] H k) (fun v0 v1 v4 v12 v13 H k => loopL M Try.prog hints C LP F.slices_partitionCmpFunc_string 3 [(0, v0), (1, v1), (4, v4), (12, v12), (13, v13)] H k) (fun v0 v1 v4 v12 v13 H k => loopL M Try.prog hints C LP F.slices_partitionCmpFunc_string 4 [(0, v0), (1, v1), (4, v4), (12, v12), (13, v13)] H k) v0 v1 v4 v12 v13 H k := by kernel_rfl

theorem s_slices_partitionCmpFunc_string_b4_eq (M : CombL) (C : CallF) (LP : LoopH) (v0 : Value) (v1 : Value) (v4 : Value) (v12 : Value) (v13 : Value) (H : AHeap) (k : K) : bodyL M Try.prog hints C LP F.slices_partitionCmpFunc_string 4 [(0, v0), (1, v1), (4, v4), (12, v12), (13, v13)] H (afterK [0, 1, 4, 12, 13] k) = s_slices_partitionCmpFunc_string_b4 M.b.g M.c M.s Try.prog C (fun v0 v1 v4 v12 v13 H k => loopL M Try.prog hints C LP F.slices_partitionCmpFunc_string 0 [(0, v0), (1, v1), (4, v4), (12, v12), (13, v13)] H k) (fun v0 v1 v4 v12 v13 H k => loopL M Try.prog hints C LP F.slices_partitionCmpFunc_string 1 [(0, v0), (1, v1), (4, v4), (12, v12), (13, v13)] H k) (fun v0 v1 v4 v12 v13 H k => loopL M Try.prog hints C LP F.slices_partitionCmpFunc_string 2 [(0, v0), (1, v1), (4, v4), (12, v12), (13, v13)] H k) (fun v0 v1 v4 v12 v13 H k => loopL M Try.prog hints C LP F.slices_partitionCmpFunc_string 3 [(0, v0), (1, v1), (4, v4), (12, v12), (13, v13)] H k) (fun v0 v1 v4 v12 v13 H k => loopL M Try.prog hints C LP F.slices_partitionCmpFunc_string 4 [(0, v0), (1, v1), (4, v4), (12, v12), (13, v13)] H k) v0 v1 v4 v12 v13 H k := by kernel_rfl

/-! math.bits.Len32 -/

noncomputable def s_math_bits_Len32 (mg : GT) (mc : CT) (ms : ST) (P : Program) (C : CallF) (a0 : Value) (H : AHeap) (K0 : K) : Res :=
bareK (xbin P .geq T.uint32 (.tmp 3) (.const (.int .u32 65536)) a0 (.int .u32 65536)) H fun t4 h1 =>
mc t4 (fun k1 => bareK (xbin P .shr T.uint32 (.tmp 5) (.const (.int .u64 16)) a0 (.int .u64 16)) h1 fun t6 h2 =>
k1 .normal [(0, t6), (2, (.int .i64 16))] h2) (fun k1 =>
k1 .normal [(0, a0), (2, (.int .i64 0))] h1) (seqK (fun tT h3 =>
bareK (xbin P .geq T.uint32 (.tmp 7) (.const (.int .u32 256)) (get tT 0) (.int .u32 256)) h3 fun t8 h4 =>
mc t8 (fun k2 => bareK (xbin P .shr T.uint32 (.tmp 9) (.const (.int .u64 8)) (get tT 0) (.int .u64 8)) h4 fun t10 h5 =>
bareK (xbin P .add T.int (.tmp 11) (.const (.int .i64 8)) (get tT 2) (.int .i64 8)) h5 fun t12 h6 =>
k2 .normal [(0, t10), (2, t12)] h6) (fun k2 =>
k2 .normal [(0, (get tT 0)), (2, (get tT 2))] h4) (seqK (fun tT_1 h7 =>
bothK (xconv P T.uint32 T.uint8 (get tT_1 0) h7) fun t15 h8 =>
bareK (xindex P T.string (.string (mk [0, 1, 2, 2, 3, 3, 3, 3, 4, 4, 4, 4, 4, 4, 4, 4, 5, 5, 5, 5, 5, 5, 5, 5, 5, 5, 5, 5, 5, 5, 5, 5, 6, 6, 6, 6, 6, 6, 6, 6, 6, 6, 6, 6, 6, 6, 6, 6, 6, 6, 6, 6, 6, 6, 6, 6, 6, 6, 6, 6, 6, 6, 6, 6, 7, 7, 7, 7, 7, 7, 7, 7, 7, 7, 7, 7, 7, 7, 7, 7, 7, 7, 7, 7, 7, 7, 7, 7, 7, 7, 7, 7, 7, 7, 7, 7, 7, 7, 7, 7, 7, 7, 7, 7, 7, 7, 7, 7, 7, 7, 7, 7, 7, 7, 7, 7, 7, 7, 7, 7, 7, 7, 7, 7, 7, 7, 7, 7, 8, 8, 8, 8, 8, 8, 8, 8, 8, 8, 8, 8, 8, 8, 8, 8, 8, 8, 8, 8, 8, 8, 8, 8, 8, 8, 8, 8, 8, 8, 8, 8, 8, 8, 8, 8, 8, 8, 8, 8, 8, 8, 8, 8, 8, 8, 8, 8, 8, 8, 8, 8, 8, 8, 8, 8, 8, 8, 8, 8, 8, 8, 8, 8, 8, 8, 8, 8, 8, 8, 8, 8, 8, 8, 8, 8, 8, 8, 8, 8, 8, 8, 8, 8, 8, 8, 8, 8, 8, 8, 8, 8, 8, 8, 8, 8, 8, 8, 8, 8, 8, 8, 8, 8, 8, 8, 8, 8, 8, 8, 8, 8, 8, 8, 8, 8, 8, 8, 8, 8, 8, 8, 8, 8, 8, 8, 8, 8])) t15) h8 fun t16 h9 =>
bothK (xconv P T.uint8 T.int t16 h9) fun t17 h10 =>
bareK (xbin P .add T.int (.tmp 13) (.tmp 17) (get tT_1 2) t17) h10 fun t18 h11 =>
K0 .ret [(2, t18)] h11) K0)) K0)

theorem s_math_bits_Len32_eq (M : CombL) (C : CallF) (LP : LoopH) (a0 : Value) (H : AHeap) : dBodyL M Try.prog hints C LP F.math_bits_Len32 [a0] H = s_math_bits_Len32 M.b.g M.c M.s Try.prog C a0 H (endK Try.prog [.tmp 2]) := by kernel_rfl

/-! math.bits.Len64 -/

noncomputable def s_math_bits_Len64 (mg : GT) (mc : CT) (ms : ST) (P : Program) (C : CallF) (a0 : Value) (H : AHeap) (K0 : K) : Res :=
bareK (xbin P .geq T.uint64 (.tmp 3) (.const (.int .u64 4294967296)) a0 (.int .u64 4294967296)) H fun t4 h1 =>
mc t4 (fun k1 => bareK (xbin P .shr T.uint64 (.tmp 5) (.const (.int .u64 32)) a0 (.int .u64 32)) h1 fun t6 h2 =>
k1 .normal [(0, t6), (2, (.int .i64 32))] h2) (fun k1 =>
k1 .normal [(0, a0), (2, (.int .i64 0))] h1) (seqK (fun tT h3 =>
bareK (xbin P .geq T.uint64 (.tmp 7) (.const (.int .u64 65536)) (get tT 0) (.int .u64 65536)) h3 fun t8 h4 =>
mc t8 (fun k2 => bareK (xbin P .shr T.uint64 (.tmp 9) (.const (.int .u64 16)) (get tT 0) (.int .u64 16)) h4 fun t10 h5 =>
bareK (xbin P .add T.int (.tmp 11) (.const (.int .i64 16)) (get tT 2) (.int .i64 16)) h5 fun t12 h6 =>
k2 .normal [(0, t10), (2, t12)] h6) (fun k2 =>
k2 .normal [(0, (get tT 0)), (2, (get tT 2))] h4) (seqK (fun tT_1 h7 =>
bareK (xbin P .geq T.uint64 (.tmp 13) (.const (.int .u64 256)) (get tT_1 0) (.int .u64 256)) h7 fun t14 h8 =>
mc t14 (fun k3 => bareK (xbin P .shr T.uint64 (.tmp 15) (.const (.int .u64 8)) (get tT_1 0) (.int .u64 8)) h8 fun t16 h9 =>
bareK (xbin P .add T.int (.tmp 17) (.const (.int .i64 8)) (get tT_1 2) (.int .i64 8)) h9 fun t18 h10 =>
k3 .normal [(0, t16), (2, t18)] h10) (fun k3 =>
k3 .normal [(0, (get tT_1 0)), (2, (get tT_1 2))] h8) (seqK (fun tT_2 h11 =>
bothK (xconv P T.uint64 T.uint8 (get tT_2 0) h11) fun t21 h12 =>
bareK (xindex P T.string (.string (mk [0, 1, 2, 2, 3, 3, 3, 3, 4, 4, 4, 4, 4, 4, 4, 4, 5, 5, 5, 5, 5, 5, 5, 5, 5, 5, 5, 5, 5, 5, 5, 5, 6, 6, 6, 6, 6, 6, 6, 6, 6, 6, 6, 6, 6, 6, 6, 6, 6, 6, 6, 6, 6, 6, 6, 6, 6, 6, 6, 6, 6, 6, 6, 6, 7, 7, 7, 7, 7, 7, 7, 7, 7, 7, 7, 7, 7, 7, 7, 7, 7, 7, 7, 7, 7, 7, 7, 7, 7, 7, 7, 7, 7, 7, 7, 7, 7, 7, 7, 7, 7, 7, 7, 7, 7, 7, 7, 7, 7, 7, 7, 7, 7, 7, 7, 7, 7, 7, 7, 7, 7, 7, 7, 7, 7, 7, 7, 7, 8, 8, 8, 8, 8, 8, 8, 8, 8, 8, 8, 8, 8, 8, 8, 8, 8, 8, 8, 8, 8, 8, 8, 8, 8, 8, 8, 8, 8, 8, 8, 8, 8, 8, 8, 8, 8, 8, 8, 8, 8, 8, 8, 8, 8, 8, 8, 8, 8, 8, 8, 8, 8, 8, 8, 8, 8, 8, 8, 8, 8, 8, 8, 8, 8, 8, 8, 8, 8, 8, 8, 8, 8, 8, 8, 8, 8, 8, 8, 8, 8, 8, 8, 8, 8, 8, 8, 8, 8, 8, 8, 8, 8, 8, 8, 8, 8, 8, 8, 8, 8, 8, 8, 8, 8, 8, 8, 8, 8, 8, 8, 8, 8, 8, 8, 8, 8, 8, 8, 8, 8, 8, 8, 8, 8, 8, 8, 8])) t21) h12 fun t22 h13 =>
bothK (xconv P T.uint8 T.int t22 h13) fun t23 h14 =>
bareK (xbin P .add T.int (.tmp 19) (.tmp 23) (get tT_2 2) t23) h14 fun t24 h15 =>
K0 .ret [(2, t24)] h15) K0)) K0)) K0)

theorem s_math_bits_Len64_eq (M : CombL) (C : CallF) (LP : LoopH) (a0 : Value) (H : AHeap) : dBodyL M Try.prog hints C LP F.math_bits_Len64 [a0] H = s_math_bits_Len64 M.b.g M.c M.s Try.prog C a0 H (endK Try.prog [.tmp 2]) := by kernel_rfl

/-! strings.Compare -/

noncomputable def s_strings_Compare (mg : GT) (mc : CT) (ms : ST) (P : Program) (C : CallF) (a0 : Value) (a1 : Value) (H : AHeap) (K0 : K) : Res :=
enterK C F.internal_bytealg_CompareString [a0, a1] H fun t7 h1 =>
K0 .ret [(4, t7)] h1

theorem s_strings_Compare_eq (M : CombL) (C : CallF) (LP : LoopH) (a0 : Value) (a1 : Value) (H : AHeap) : dBodyL M Try.prog hints C LP F.strings_Compare [a0, a1] H = s_strings_Compare M.b.g M.c M.s Try.prog C a0 a1 H (endK Try.prog [.tmp 4]) := by kernel_rfl

/-! slices.IndexFunc[[]string,string] -/

noncomputable def s_slices_IndexFunc_string (mg : GT) (mc : CT) (ms : ST) (P : Program) (C : CallF) (L0 : Value → Value → Value → Value → AHeap → K → Res) (a0 : Value) (a1 : Value) (H : AHeap) (K0 : K) : Res :=
bareK (lenS a0) H fun t7 h1 =>
ms (fun k1 =>
L0 a0 a1 t7 (.int .i64 0) h1 (blkK [] 0 k1)) (seqK (fun tT h2 =>
K0 .ret [(4, (.int .i64 (-1)))] h2) K0)

noncomputable def s_slices_IndexFunc_string_b0 (mg : GT) (mc : CT) (ms : ST) (P : Program) (C : CallF) (L0 : Value → Value → Value → Value → AHeap → K → Res) (v0 : Value) (v1 : Value) (v7 : Value) (v8 : Value) (H : AHeap) (k : K) : Res :=
bareK (xbin P .lss T.int (.tmp 8) (.tmp 7) v8 v7) H fun t9 h2 =>
mc t9 (fun k2 => k2 .normal [(0, v0), (1, v1), (7, v7), (8, v8)] h2) (fun k2 =>
k2 (.exit 0) [(9, t9), (0, v0), (1, v1), (7, v7), (8, v8)] h2) (seqK (fun tT h3 =>
ms (fun k3 =>
bareK (ixS 1 (get tT 0) (get tT 8)) h3 fun t14 h4 =>
bareK (ld1 h4 t14) h4 fun t15 h5 =>
callK P C (get tT 1) [t15] h5 fun t16 h6 =>
mc t16 (fun k4 => k4 .ret [(4, (get tT 8))] h6) (fun k4 =>
k4 .normal [(0, (get tT 0)), (1, (get tT 1)), (7, (get tT 7)), (8, (get tT 8))] h6) (blkK [0, 1, 7, 8] 1 k3)) (seqK (fun tT_1 h7 =>
bareK (xbin P .add T.int (.tmp 8) (.const (.int .i64 1)) (get tT_1 8) (.int .i64 1)) h7 fun t18 h8 =>
k .normal [(0, (get tT_1 0)), (1, (get tT_1 1)), (7, (get tT_1 7)), (8, t18)] h8) (afterK [0, 1, 7, 8] k))) (afterK [0, 1, 7, 8] k))

theorem s_slices_IndexFunc_string_eq (M : CombL) (C : CallF) (LP : LoopH) (a0 : Value) (a1 : Value) (H : AHeap) : dBodyL M Try.prog hints C LP F.slices_IndexFunc_string [a0, a1] H = s_slices_IndexFunc_string M.b.g M.c M.s Try.prog C (fun v0 v1 v7 v8 H k => loopL M Try.prog hints C LP F.slices_IndexFunc_string 0 [(0, v0), (1, v1), (7, v7), (8, v8)] H k) a0 a1 H (endK Try.prog [.tmp 4]) := by kernel_rfl

theorem s_slices_IndexFunc_string_b0_eq (M : CombL) (C : CallF) (LP : LoopH) (v0 : Value) (v1 : Value) (v7 : Value) (v8 : Value) (H : AHeap) (k : K) : bodyL M Try.prog hints C LP F.slices_IndexFunc_string 0 [(0, v0), (1, v1), (7, v7), (8, v8)] H (afterK [0, 1, 7, 8] k) = s_slices_IndexFunc_string_b0 M.b.g M.c M.s Try.prog C (fun v0 v1 v7 v8 H k => loopL M Try.prog hints C LP F.slices_IndexFunc_string 0 [(0, v0), (1, v1), (7, v7), (8, v8)] H k) v0 v1 v7 v8 H k := by kernel_rfl

/-! slices.rotateLeft[ticketline.api.Pair] -/

noncomputable def s_slices_rotateLeft_Pair (mg : GT) (mc : CT) (ms : ST) (P : Program) (C : CallF) (a0 : Value) (a1 : Value) (H : AHeap) (K0 : K) : Res :=
bareK (slS T.api_Pair 2 a0 none (some a1) none H) H fun t6 h1 =>
enterK C F.slices_Reverse_Pair [t6] h1 fun t7 h2 =>
bareK (slS T.api_Pair 2 a0 (some a1) none none h2) h2 fun t10 h3 =>
enterK C F.slices_Reverse_Pair [t10] h3 fun t11 h4 =>
enterK C F.slices_Reverse_Pair [a0] h4 fun t13 h5 =>
K0 .normal [(13, t13), (12, a0), (11, t11), (10, t10), (9, a1), (8, a0), (7, t7), (6, t6), (5, a1), (4, a0), (0, a0), (1, a1)] h5

theorem s_slices_rotateLeft_Pair_eq (M : CombL) (C : CallF) (LP : LoopH) (a0 : Value) (a1 : Value) (H : AHeap) : dBodyL M Try.prog hints C LP F.slices_rotateLeft_Pair [a0, a1] H = s_slices_rotateLeft_Pair M.b.g M.c M.s Try.prog C a0 a1 H (endK Try.prog []) := by kernel_rfl

/-! slices.siftDownCmpFunc[string] -/

noncomputable def s_slices_siftDownCmpFunc_string (mg : GT) (mc : CT) (ms : ST) (P : Program) (C : CallF) (L0 : Value → Value → Value → Value → Value → AHeap → K → Res) (a0 : Value) (a1 : Value) (a2 : Value) (a3 : Value) (a4 : Value) (H : AHeap) (K0 : K) : Res :=
ms (fun k1 =>
L0 a0 a2 a3 a4 a1 H (blkK [] 0 k1)) K0

noncomputable def s_slices_siftDownCmpFunc_string_b0 (mg : GT) (mc : CT) (ms : ST) (P : Program) (C : CallF) (L0 : Value → Value → Value → Value → Value → AHeap → K → Res) (v0 : Value) (v2 : Value) (v3 : Value) (v4 : Value) (v10 : Value) (H : AHeap) (k : K) : Res :=
ms (fun k2 =>
bareK (xbin P .mul T.int (.const (.int .i64 2)) (.tmp 13) (.int .i64 2) v10) H fun t14 h1 =>
bareK (xbin P .add T.int (.tmp 14) (.const (.int .i64 1)) t14 (.int .i64 1)) h1 fun t15 h2 =>
bareK (xbin P .geq T.int (.tmp 16) (.tmp 17) t15 v2) h2 fun t18 h3 =>
mc t18 (fun k3 => k3 (.exit 0) [(18, t18), (17, v2), (16, t15), (11, t15), (15, t15), (14, t14), (13, v10), (0, v0), (2, v2), (3, v3), (4, v4), (10, v10)] h3) (fun k3 =>
k3 .normal [(0, v0), (2, v2), (3, v3), (4, v4), (10, v10), (11, t15)] h3) (seqK (fun tT h4 =>
bareK (xbin P .add T.int (.tmp 19) (.const (.int .i64 1)) (get tT 11) (.int .i64 1)) h4 fun t20 h5 =>
bareK (xbin P .lss T.int (.tmp 20) (.tmp 21) t20 (get tT 2)) h5 fun t22 h6 =>
mg t22 true (fun o4 => o4 (get tT 4) h6) h6 fun t24 h7 =>
mg t22 true (fun o5 => o5 (get tT 0) h7) h7 fun t25 h8 =>
mg t22 true (fun o6 => o6 (get tT 3) h8) h8 fun t26 h9 =>
mg t22 true (fun o7 => o7 (get tT 11) h9) h9 fun t27 h10 =>
mg t22 true (fun o8 => bareK (xbin P .add T.int (.tmp 26) (.tmp 27) t26 t27) h10 o8) h10 fun t28 h11 =>
mg t22 true (fun o9 => bareK (ixS 1 t25 t28) h11 o9) h11 fun t29 h12 =>
mg t22 true (fun o10 => bareK (ld1 h12 t29) h12 o10) h12 fun t30 h13 =>
mg t22 true (fun o11 => o11 (get tT 0) h13) h13 fun t31 h14 =>
mg t22 true (fun o12 => o12 (get tT 3) h14) h14 fun t32 h15 =>
mg t22 true (fun o13 => o13 (get tT 11) h15) h15 fun t33 h16 =>
mg t22 true (fun o14 => bareK (xbin P .add T.int (.tmp 32) (.tmp 33) t32 t33) h16 o14) h16 fun t34 h17 =>
mg t22 true (fun o15 => bareK (xbin P .add T.int (.tmp 34) (.const (.int .i64 1)) t34 (.int .i64 1)) h17 o15) h17 fun t35 h18 =>
mg t22 true (fun o16 => bareK (ixS 1 t31 t35) h18 o16) h18 fun t36 h19 =>
mg t22 true (fun o17 => bareK (ld1 h19 t36) h19 o17) h19 fun t37 h20 =>
mg t22 true (fun o18 => callK P C t24 [t30, t37] h20 o18) h20 fun t38 h21 =>
mg t22 true (fun o19 => bareK (xbin P .lss T.int (.tmp 38) (.const (.int .i64 0)) t38 (.int .i64 0)) h21 o19) h21 fun t39 h22 =>
pickK t22 t39 (.bool false) fun t40 =>
checkK true <|
mc t40 (fun k20 => bareK (xbin P .add T.int (.tmp 41) (.const (.int .i64 1)) (get tT 11) (.int .i64 1)) h22 fun t42 h23 =>
k20 .normal [(0, (get tT 0)), (2, (get tT 2)), (3, (get tT 3)), (4, (get tT 4)), (10, (get tT 10)), (11, t42)] h23) (fun k20 =>
k20 .normal [(0, (get tT 0)), (2, (get tT 2)), (3, (get tT 3)), (4, (get tT 4)), (10, (get tT 10)), (11, (get tT 11))] h22) (seqK (fun tT_1 h24 =>
bareK (xbin P .add T.int (.tmp 45) (.tmp 46) (get tT_1 3) (get tT_1 10)) h24 fun t47 h25 =>
bareK (ixS 1 (get tT_1 0) t47) h25 fun t48 h26 =>
bareK (ld1 h26 t48) h26 fun t49 h27 =>
bareK (xbin P .add T.int (.tmp 51) (.tmp 52) (get tT_1 3) (get tT_1 11)) h27 fun t53 h28 =>
bareK (ixS 1 (get tT_1 0) t53) h28 fun t54 h29 =>
bareK (ld1 h29 t54) h29 fun t55 h30 =>
callK P C (get tT_1 4) [t49, t55] h30 fun t56 h31 =>
bareK (xbin P .lss T.int (.tmp 56) (.const (.int .i64 0)) t56 (.int .i64 0)) h31 fun t57 h32 =>
bareK (xun P .not t57) h32 fun t58 h33 =>
checkK true <|
mc t58 (fun k21 => k21 .ret [] h33) (fun k21 =>
k21 .normal [(0, (get tT_1 0)), (2, (get tT_1 2)), (3, (get tT_1 3)), (4, (get tT_1 4)), (10, (get tT_1 10)), (11, (get tT_1 11))] h33) (seqK (fun tT_2 h34 =>
bareK (xbin P .add T.int (.tmp 60) (.tmp 61) (get tT_2 3) (get tT_2 10)) h34 fun t62 h35 =>
bareK (xbin P .add T.int (.tmp 64) (.tmp 65) (get tT_2 3) (get tT_2 11)) h35 fun t66 h36 =>
bareK (xbin P .add T.int (.tmp 68) (.tmp 69) (get tT_2 3) (get tT_2 11)) h36 fun t70 h37 =>
bareK (ixS 1 (get tT_2 0) t70) h37 fun t71 h38 =>
bareK (ld1 h38 t71) h38 fun t72 h39 =>
bareK (xbin P .add T.int (.tmp 74) (.tmp 75) (get tT_2 3) (get tT_2 10)) h39 fun t76 h40 =>
bareK (ixS 1 (get tT_2 0) t76) h40 fun t77 h41 =>
bareK (ld1 h41 t77) h41 fun t78 h42 =>
bareK (ixS 1 (get tT_2 0) t62) h42 fun t79 h43 =>
quietK (st1 h43 t79 t72) fun _ h44 =>
bareK (ixS 1 (get tT_2 0) t66) h44 fun t80 h45 =>
quietK (st1 h45 t80 t78) fun _ h46 =>
checkK (okV (some true) none h43 h44 h35 h35 && (okV (some true) none h43 h44 h35 h35 && (okV (some true) none h43 h44 h35 h35 && (okV (some true) none h43 h44 h35 h36 && true)))) <|
k2 .normal [(0, (get tT_2 0)), (2, (get tT_2 2)), (3, (get tT_2 3)), (4, (get tT_2 4)), (10, (get tT_2 11))] h46) (blkK [0, 2, 3, 4, 10] 1 k2))) (blkK [0, 2, 3, 4, 10] 1 k2))) (blkK [0, 2, 3, 4, 10] 1 k2))) (afterK [0, 2, 3, 4, 10] k)

theorem s_slices_siftDownCmpFunc_string_eq (M : CombL) (C : CallF) (LP : LoopH) (a0 : Value) (a1 : Value) (a2 : Value) (a3 : Value) (a4 : Value) (H : AHeap) : dBodyL M Try.prog hints C LP F.slices_siftDownCmpFunc_string [a0, a1, a2, a3, a4] H = s_slices_siftDownCmpFunc_string M.b.g M.c M.s Try.prog C (fun v0 v2 v3 v4 v10 H k => loopL M Try.prog hints C LP F.slices_siftDownCmpFunc_string 0 [(0, v0), (2, v2), (3, v3), (4, v4), (10, v10)] H k) a0 a1 a2 a3 a4 H (endK Try.prog []) := by kernel_rfl

theorem s_slices_siftDownCmpFunc_string_b0_eq (M : CombL) (C : CallF) (LP : LoopH) (v0 : Value) (v2 : Value) (v3 : Value) (v4 : Value) (v10 : Value) (H : AHeap) (k : K) : bodyL M Try.prog hints C LP F.slices_siftDownCmpFunc_string 0 [(0, v0), (2, v2), (3, v3), (4, v4), (10, v10)] H (afterK [0, 2, 3, 4, 10] k) = s_slices_siftDownCmpFunc_string_b0 M.b.g M.c M.s Try.prog C (fun v0 v2 v3 v4 v10 H k => loopL M Try.prog hints C LP F.slices_siftDownCmpFunc_string 0 [(0, v0), (2, v2), (3, v3), (4, v4), (10, v10)] H k) v0 v2 v3 v4 v10 H k := by kernel_rfl

/-! slices.nextPowerOfTwo -/

noncomputable def s_slices_nextPowerOfTwo (mg : GT) (mc : CT) (ms : ST) (P : Program) (C : CallF) (a0 : Value) (H : AHeap) (K0 : K) : Res :=
bothK (xconv P T.int T.uint a0 H) fun t4 h1 =>
enterK C F.math_bits_Len [t4] h1 fun t5 h2 =>
bareK (xbin P .shl T.uint (.const (.int .u64 1)) (.tmp 5) (.int .u64 1) t5) h2 fun t6 h3 =>
K0 .ret [(2, t6)] h3

theorem s_slices_nextPowerOfTwo_eq (M : CombL) (C : CallF) (LP : LoopH) (a0 : Value) (H : AHeap) : dBodyL M Try.prog hints C LP F.slices_nextPowerOfTwo [a0] H = s_slices_nextPowerOfTwo M.b.g M.c M.s Try.prog C a0 H (endK Try.prog [.tmp 2]) := by kernel_rfl

/-! (*slices.xorshift).Next -/

noncomputable def s_slices_xorshift_Next (mg : GT) (mc : CT) (ms : ST) (P : Program) (C : CallF) (a0 : Value) (H : AHeap) (K0 : K) : Res :=
bareK (xnilCheck a0) H fun t4 h1 =>
bareK (ld1 h1 t4) h1 fun t5 h2 =>
bareK (xnilCheck a0) h2 fun t7 h3 =>
bareK (ld1 h3 t7) h3 fun t8 h4 =>
bareK (xbin P .shl T.slices_xorshift (.tmp 8) (.const (.int .u64 13)) t8 (.int .u64 13)) h4 fun t9 h5 =>
bareK (xbin P .xor T.slices_xorshift (.tmp 5) (.tmp 9) t5 t9) h5 fun t10 h6 =>
bareK (xnilCheck a0) h6 fun t11 h7 =>
quietK (st1 h7 t11 t10) fun _ h8 =>
checkK true <|
bareK (xnilCheck a0) h8 fun t13 h9 =>
bareK (ld1 h9 t13) h9 fun t14 h10 =>
bareK (xnilCheck a0) h10 fun t16 h11 =>
bareK (ld1 h11 t16) h11 fun t17 h12 =>
bareK (xbin P .shr T.slices_xorshift (.tmp 17) (.const (.int .u64 7)) t17 (.int .u64 7)) h12 fun t18 h13 =>
bareK (xbin P .xor T.slices_xorshift (.tmp 14) (.tmp 18) t14 t18) h13 fun t19 h14 =>
bareK (xnilCheck a0) h14 fun t20 h15 =>
quietK (st1 h15 t20 t19) fun _ h16 =>
checkK true <|
bareK (xnilCheck a0) h16 fun t22 h17 =>
bareK (ld1 h17 t22) h17 fun t23 h18 =>
bareK (xnilCheck a0) h18 fun t25 h19 =>
bareK (ld1 h19 t25) h19 fun t26 h20 =>
bareK (xbin P .shl T.slices_xorshift (.tmp 26) (.const (.int .u64 17)) t26 (.int .u64 17)) h20 fun t27 h21 =>
bareK (xbin P .xor T.slices_xorshift (.tmp 23) (.tmp 27) t23 t27) h21 fun t28 h22 =>
bareK (xnilCheck a0) h22 fun t29 h23 =>
quietK (st1 h23 t29 t28) fun _ h24 =>
checkK true <|
bareK (xnilCheck a0) h24 fun t31 h25 =>
bareK (ld1 h25 t31) h25 fun t32 h26 =>
K0 .ret [(2, t32)] h26

theorem s_slices_xorshift_Next_eq (M : CombL) (C : CallF) (LP : LoopH) (a0 : Value) (H : AHeap) : dBodyL M Try.prog hints C LP F.slices_xorshift_Next [a0] H = s_slices_xorshift_Next M.b.g M.c M.s Try.prog C a0 H (endK Try.prog [.tmp 2]) := by kernel_rfl

/-! slices.medianAdjacentCmpFunc[string] -/

noncomputable def s_slices_medianAdjacentCmpFunc_string (mg : GT) (mc : CT) (ms : ST) (P : Program) (C : CallF) (a0 : Value) (a1 : Value) (a2 : Value) (a3 : Value) (H : AHeap) (K0 : K) : Res :=
bareK (xbin P .sub T.int (.tmp 10) (.const (.int .i64 1)) a1 (.int .i64 1)) H fun t11 h1 =>
bareK (xbin P .add T.int (.tmp 13) (.const (.int .i64 1)) a1 (.int .i64 1)) h1 fun t14 h2 =>
enterK C F.slices_medianCmpFunc_string [a0, t11, a1, t14, a2, a3] h2 fun t17 h3 =>
K0 .ret [(8, t17)] h3

theorem s_slices_medianAdjacentCmpFunc_string_eq (M : CombL) (C : CallF) (LP : LoopH) (a0 : Value) (a1 : Value) (a2 : Value) (a3 : Value) (H : AHeap) : dBodyL M Try.prog hints C LP F.slices_medianAdjacentCmpFunc_string [a0, a1, a2, a3] H = s_slices_medianAdjacentCmpFunc_string M.b.g M.c M.s Try.prog C a0 a1 a2 a3 H (endK Try.prog [.tmp 8]) := by kernel_rfl

/-! slices.medianCmpFunc[string] -/

noncomputable def s_slices_medianCmpFunc_string (mg : GT) (mc : CT) (ms : ST) (P : Program) (C : CallF) (a0 : Value) (a1 : Value) (a2 : Value) (a3 : Value) (a4 : Value) (a5 : Value) (H : AHeap) (K0 : K) : Res :=
enterK C F.slices_order2CmpFunc_string [a0, a1, a2, a4, a5] H fun t19 h1 =>
bareK (xextract t19 0) h1 fun t20 h2 =>
bareK (xextract t19 1) h2 fun t21 h3 =>
enterK C F.slices_order2CmpFunc_string [a0, t21, a3, a4, a5] h3 fun t28 h4 =>
bareK (xextract t28 0) h4 fun t29 h5 =>
bareK (xextract t28 1) h5 fun t30 h6 =>
enterK C F.slices_order2CmpFunc_string [a0, t20, t29, a4, a5] h6 fun t37 h7 =>
bareK (xextract t37 0) h7 fun t38 h8 =>
bareK (xextract t37 1) h8 fun t39 h9 =>
K0 .ret [(12, t39)] h9

theorem s_slices_medianCmpFunc_string_eq (M : CombL) (C : CallF) (LP : LoopH) (a0 : Value) (a1 : Value) (a2 : Value) (a3 : Value) (a4 : Value) (a5 : Value) (H : AHeap) : dBodyL M Try.prog hints C LP F.slices_medianCmpFunc_string [a0, a1, a2, a3, a4, a5] H = s_slices_medianCmpFunc_string M.b.g M.c M.s Try.prog C a0 a1 a2 a3 a4 a5 H (endK Try.prog [.tmp 12]) := by kernel_rfl

/-! internal.bytealg.CompareString -/

noncomputable def s_internal_bytealg_CompareString (mg : GT) (mc : CT) (ms : ST) (P : Program) (C : CallF) (a0 : Value) (a1 : Value) (H : AHeap) (K0 : K) : Res :=
bareK (xext P Try.f89 [a0, a1] H) H fun t7 h1 =>
K0 .ret [(4, t7)] h1

theorem s_internal_bytealg_CompareString_eq (M : CombL) (C : CallF) (LP : LoopH) (a0 : Value) (a1 : Value) (H : AHeap) : dBodyL M Try.prog hints C LP F.internal_bytealg_CompareString [a0, a1] H = s_internal_bytealg_CompareString M.b.g M.c M.s Try.prog C a0 a1 H (endK Try.prog [.tmp 4]) := by kernel_rfl

/-! slices.Reverse[[]ticketline.api.Pair,ticketline.api.Pair] -/

noncomputable def s_slices_Reverse_Pair (mg : GT) (mc : CT) (ms : ST) (P : Program) (C : CallF) (L0 : Value → Value → Value → AHeap → K → Res) (a0 : Value) (H : AHeap) (K0 : K) : Res :=
bareK (lenS a0) H fun t5 h1 =>
bareK (xbin P .sub T.int (.tmp 5) (.const (.int .i64 1)) t5 (.int .i64 1)) h1 fun t6 h2 =>
ms (fun k1 =>
L0 a0 (.int .i64 0) t6 h2 (blkK [] 0 k1)) K0

noncomputable def s_slices_Reverse_Pair_b0 (mg : GT) (mc : CT) (ms : ST) (P : Program) (C : CallF) (L0 : Value → Value → Value → AHeap → K → Res) (v0 : Value) (v2 : Value) (v3 : Value) (H : AHeap) (k : K) : Res :=
bareK (xbin P .lss T.int (.tmp 7) (.tmp 8) v2 v3) H fun t9 h3 =>
mc t9 (fun k2 => k2 .normal [(0, v0), (2, v2), (3, v3)] h3) (fun k2 =>
k2 (.exit 0) [(9, t9), (8, v3), (7, v2), (0, v0), (2, v2), (3, v3)] h3) (seqK (fun tT h4 =>
ms (fun k3 =>
bareK (ixS 2 (get tT 0) (get tT 3)) h4 fun t20 h5 =>
bareK (ldN 2 h5 t20) h5 fun t21 h6 =>
bareK (ixS 2 (get tT 0) (get tT 2)) h6 fun t24 h7 =>
bareK (ldN 2 h7 t24) h7 fun t25 h8 =>
bareK (ixS 2 (get tT 0) (get tT 2)) h8 fun t26 h9 =>
quietK (stN 2 h9 t26 t21) fun _ h10 =>
bareK (ixS 2 (get tT 0) (get tT 3)) h10 fun t27 h11 =>
quietK (stN 2 h11 t27 t25) fun _ h12 =>
checkK (okV (some true) none h9 h10 h4 h4 && (okV (some true) none h9 h10 h4 h4 && true)) <|
k3 .normal [(0, (get tT 0)), (2, (get tT 2)), (3, (get tT 3))] h12) (seqK (fun tT_1 h13 =>
bareK (xbin P .add T.int (.tmp 10) (.const (.int .i64 1)) (get tT_1 2) (.int .i64 1)) h13 fun t11 h14 =>
bareK (xbin P .sub T.int (.tmp 12) (.const (.int .i64 1)) (get tT_1 3) (.int .i64 1)) h14 fun t13 h15 =>
k .normal [(0, (get tT_1 0)), (2, t11), (3, t13)] h15) (afterK [0, 2, 3] k))) (afterK [0, 2, 3] k))

theorem s_slices_Reverse_Pair_eq (M : CombL) (C : CallF) (LP : LoopH) (a0 : Value) (H : AHeap) : dBodyL M Try.prog hints C LP F.slices_Reverse_Pair [a0] H = s_slices_Reverse_Pair M.b.g M.c M.s Try.prog C (fun v0 v2 v3 H k => loopL M Try.prog hints C LP F.slices_Reverse_Pair 0 [(0, v0), (2, v2), (3, v3)] H k) a0 H (endK Try.prog []) := by kernel_rfl

theorem s_slices_Reverse_Pair_b0_eq (M : CombL) (C : CallF) (LP : LoopH) (v0 : Value) (v2 : Value) (v3 : Value) (H : AHeap) (k : K) : bodyL M Try.prog hints C LP F.slices_Reverse_Pair 0 [(0, v0), (2, v2), (3, v3)] H (afterK [0, 2, 3] k) = s_slices_Reverse_Pair_b0 M.b.g M.c M.s Try.prog C (fun v0 v2 v3 H k => loopL M Try.prog hints C LP F.slices_Reverse_Pair 0 [(0, v0), (2, v2), (3, v3)] H k) v0 v2 v3 H k := by kernel_rfl

/-! slices.order2CmpFunc[string] -/

noncomputable def s_slices_order2CmpFunc_string (mg : GT) (mc : CT) (ms : ST) (P : Program) (C : CallF) (a0 : Value) (a1 : Value) (a2 : Value) (a3 : Value) (a4 : Value) (H : AHeap) (K0 : K) : Res :=
bareK (ixS 1 a0 a2) H fun t15 h1 =>
bareK (ld1 h1 t15) h1 fun t16 h2 =>
bareK (ixS 1 a0 a1) h2 fun t19 h3 =>
bareK (ld1 h3 t19) h3 fun t20 h4 =>
callK P C a4 [t16, t20] h4 fun t21 h5 =>
bareK (xbin P .lss T.int (.tmp 21) (.const (.int .i64 0)) t21 (.int .i64 0)) h5 fun t22 h6 =>
checkK true <|
mc t22 (fun k1 => bareK (xnilCheck a3) h6 fun t24 h7 =>
bareK (ld1 h7 t24) h7 fun t25 h8 =>
bareK (xbin P .add T.int (.tmp 25) (.const (.int .i64 1)) t25 (.int .i64 1)) h8 fun t26 h9 =>
bareK (xnilCheck a3) h9 fun t27 h10 =>
quietK (st1 h10 t27 t26) fun _ h11 =>
k1 .ret [(10, a2), (11, a1)] h11) (fun k1 =>
k1 .normal [(1, a1), (2, a2)] h6) (seqK (fun tT h12 =>
K0 .ret [(10, (get tT 1)), (11, (get tT 2))] h12) K0)

theorem s_slices_order2CmpFunc_string_eq (M : CombL) (C : CallF) (LP : LoopH) (a0 : Value) (a1 : Value) (a2 : Value) (a3 : Value) (a4 : Value) (H : AHeap) : dBodyL M Try.prog hints C LP F.slices_order2CmpFunc_string [a0, a1, a2, a3, a4] H = s_slices_order2CmpFunc_string M.b.g M.c M.s Try.prog C a0 a1 a2 a3 a4 H (endK Try.prog [.tmp 10, .tmp 11]) := by kernel_rfl

end Go.Proofs.Ythjjkinpbpealaa
