/-
  The seat's functions as terms over the engine's combinators (a program of ours printed it).
  Conditions: none. By an AI agent.
-/
import Derived.Test.YtldgonjihhndgaaNames
import Derived.Test.YtldgonjihhndgaaEng22
import Derived.Test.YtldgonjihhndgaaHints
import Derived.Test.YtldgonjihhndgaaChecked
import Derived.KernelRfl
set_option linter.unusedVariables false
namespace Go.Proofs.Ytldgonjihhndgaa
open Go Eng

/-! ticketline.clock.Passed -/

noncomputable def s_clock_Passed (mg : GT) (mc : CT) (ms : ST) (P : Program) (C : CallF) (a0 : Value) (a1 : Value) (H : AHeap) (K0 : K) : Res :=
bareK (xbin P .lss T.int (.tmp 5) (.const (.int .i64 4611686018427387904)) a0 (.int .i64 4611686018427387904)) H fun t6 h1 =>
mg t6 true (fun o1 => o1 a1 h1) h1 fun t8 h2 =>
mg t6 true (fun o2 => o2 a0 h2) h2 fun t9 h3 =>
mg t6 true (fun o3 => bareK (xbin P .gtr T.int (.tmp 8) (.tmp 9) t8 t9) h3 o3) h3 fun t10 h4 =>
pickK t6 t10 (.bool false) fun t11 =>
K0 .ret [(4, t11)] h4

theorem s_clock_Passed_eq (M : CombL) (C : CallF) (LP : LoopH) (a0 : Value) (a1 : Value) (H : AHeap) : dBodyL M Try.prog hints C LP F.clock_Passed [a0, a1] H = s_clock_Passed M.b.g M.c M.s Try.prog C a0 a1 H (endK Try.prog [.tmp 4]) := by kernel_rfl

/-! ticketline.ticketlineref02.Tick -/

noncomputable def s_ref02_Tick (mg : GT) (mc : CT) (ms : ST) (P : Program) (C : CallF) (a0 : Value) (H : AHeap) (K0 : K) : Res :=
bareK (xbin P .geq T.int (.tmp 3) (.const (.int .i64 0)) a0 (.int .i64 0)) H fun t4 h1 =>
mg t4 true (fun o1 => o1 a0 h1) h1 fun t6 h2 =>
mg t4 true (fun o2 => bareK (xbin P .leq T.int (.tmp 6) (.const (.int .i64 4611686018427387904)) t6 (.int .i64 4611686018427387904)) h2 o2) h2 fun t7 h3 =>
pickK t4 t7 (.bool false) fun t8 =>
K0 .ret [(2, t8)] h3

theorem s_ref02_Tick_eq (M : CombL) (C : CallF) (LP : LoopH) (a0 : Value) (H : AHeap) : dBodyL M Try.prog hints C LP F.ref02_Tick [a0] H = s_ref02_Tick M.b.g M.c M.s Try.prog C a0 H (endK Try.prog [.tmp 2]) := by kernel_rfl

/-! ticketline.ticketlinelaw02.due -/

noncomputable def s_law_due (mg : GT) (mc : CT) (ms : ST) (P : Program) (C : CallF) (a0 : Value) (a1 : Value) (a2 : Value) (a3 : Value) (H : AHeap) (K0 : K) : Res :=
enterK C F.clock_Due [a0, a1] H fun t14 h1 =>
bareK (xextract t14 0) h1 fun t15 h2 =>
bareK (xextract t14 1) h2 fun t16 h3 =>
bareK (xbin P .eql T.int (.tmp 17) (.tmp 18) t15 a2) h3 fun t19 h4 =>
mg t19 true (fun o1 => o1 t16 h4) h4 fun t21 h5 =>
mg t19 true (fun o2 => o2 a3 h5) h5 fun t22 h6 =>
mg t19 true (fun o3 => bareK (xbin P .eql T.api_Errno (.tmp 21) (.tmp 22) t21 t22) h6 o3) h6 fun t23 h7 =>
pickK t19 t23 (.bool false) fun t24 =>
K0 .ret [(8, t24)] h7

theorem s_law_due_eq (M : CombL) (C : CallF) (LP : LoopH) (a0 : Value) (a1 : Value) (a2 : Value) (a3 : Value) (H : AHeap) : dBodyL M Try.prog hints C LP F.law_due [a0, a1, a2, a3] H = s_law_due M.b.g M.c M.s Try.prog C a0 a1 a2 a3 H (endK Try.prog [.tmp 8]) := by kernel_rfl

/-! ticketline.ticketlineref02.Due -/

noncomputable def s_ref02_Due (mg : GT) (mc : CT) (ms : ST) (P : Program) (C : CallF) (a0 : Value) (a1 : Value) (H : AHeap) (K0 : K) : Res :=
bareK (xbin P .sub T.int (.const (.int .i64 4611686018427387904)) (.tmp 6) (.int .i64 4611686018427387904) a0) H fun t7 h1 =>
bareK (xbin P .gtr T.int (.tmp 5) (.tmp 7) a1 t7) h1 fun t8 h2 =>
mc t8 (fun k1 => k1 .ret [(4, (.int .i64 4611686018427387904))] h2) (fun k1 =>
k1 .normal [(0, a0), (1, a1)] h2) (seqK (fun tT h3 =>
bareK (xbin P .add T.int (.tmp 9) (.tmp 10) (get tT 0) (get tT 1)) h3 fun t11 h4 =>
K0 .ret [(4, t11)] h4) K0)

theorem s_ref02_Due_eq (M : CombL) (C : CallF) (LP : LoopH) (a0 : Value) (a1 : Value) (H : AHeap) : dBodyL M Try.prog hints C LP F.ref02_Due [a0, a1] H = s_ref02_Due M.b.g M.c M.s Try.prog C a0 a1 H (endK Try.prog [.tmp 4]) := by kernel_rfl

/-! ticketline.clock.New -/

noncomputable def s_clock_New (mg : GT) (mc : CT) (ms : ST) (P : Program) (C : CallF) (a0 : Value) (H : AHeap) (K0 : K) : Res :=
enterK C F.clock_tick [a0] H fun t5 h1 =>
bareK (xun P .not t5) h1 fun t6 h2 =>
mc t6 (fun k1 => k1 .ret [(2, (.pointer none)), (3, (.int .i64 2))] h2) (fun k1 =>
k1 .normal [(0, a0)] h2) (seqK (fun tT h3 =>
bareK (bldS #[(.bool false), (.int .i64 0), (.slice none 0 0)] [(0, 1), (1, 1), (2, 1)] [(0, (.bool true)), (1, (get tT 0))]) h3 fun t8 h4 =>
bothK (newv T.clock_Clock t8 h4) fun t9 h5 =>
K0 .ret [(2, t9), (3, (.int .i64 0))] h5) K0)

theorem s_clock_New_eq (M : CombL) (C : CallF) (LP : LoopH) (a0 : Value) (H : AHeap) : dBodyL M Try.prog hints C LP F.clock_New [a0] H = s_clock_New M.b.g M.c M.s Try.prog C a0 H (endK Try.prog [.tmp 2, .tmp 3]) := by kernel_rfl

/-! (*ticketline.clock.Clock).Set -/

noncomputable def s_clock_Clock_Set (mg : GT) (mc : CT) (ms : ST) (P : Program) (C : CallF) (a0 : Value) (a1 : Value) (a2 : Value) (H : AHeap) (K0 : K) : Res :=
ms (fun k1 =>
enterK C F.clock_Clock_zero [a0] H fun t12 h1 =>
mc t12 (fun k2 => k2 .ret [(6, (.int .i64 1))] h1) (fun k2 =>
bareK (xbin P .lss T.int (.tmp 14) (.const (.int .i64 0)) a1 (.int .i64 0)) h1 fun t15 h2 =>
mg t15 false (fun o3 => o3 a2 h2) h2 fun t17 h3 =>
mg t15 false (fun o4 => enterK C F.clock_tick [t17] h3 o4) h3 fun t18 h4 =>
mg t15 false (fun o5 => bareK (xun P .not t18) h4 o5) h4 fun t19 h5 =>
pickK t15 (.bool true) t19 fun t20 =>
mc t20 (fun k6 => k6 .ret [(6, (.int .i64 2))] h5) (fun k6 =>
enterK C F.clock_Clock_find [a0, a1] h5 fun t24 h6 =>
bareK (xbin P .geq T.int (.tmp 24) (.const (.int .i64 0)) t24 (.int .i64 0)) h6 fun t25 h7 =>
mc t25 (fun k7 => k7 .ret [(6, (.int .i64 11))] h7) (fun k7 =>
bareK (xnilCheck a0) h7 fun t28 h8 =>
bareK (fad 2 t28) h8 fun t29 h9 =>
bareK (ld1 h9 t29) h9 fun t30 h10 =>
bareK (lenS t30) h10 fun t31 h11 =>
bareK (xbin P .geq T.int (.tmp 31) (.const (.int .i64 4096)) t31 (.int .i64 4096)) h11 fun t32 h12 =>
mc t32 (fun k8 => k8 .ret [(6, (.int .i64 7))] h12) (fun k8 =>
k8 .normal [(0, a0), (1, a1), (2, a2)] h12) (afterK [0, 1, 2] k7)) (afterK [0, 1, 2] k6)) (afterK [0, 1, 2] k2)) (blkK [0, 1, 2] 0 k1)) (seqK (fun tT h13 =>
bareK (bldS #[(.int .i64 0), (.int .i64 0)] [(0, 1), (1, 1)] [(0, (get tT 1)), (1, (get tT 2))]) h13 fun t35 h14 =>
bothK (newv T.clock_alarm (.agg #[(.int .i64 0), (.int .i64 0)]) h14) fun t7 h15 =>
quietK (stN 2 h15 t7 t35) fun _ h16 =>
bareK (xnilCheck (get tT 0)) h16 fun t38 h17 =>
bareK (fad 2 t38) h17 fun t39 h18 =>
bareK (ld1 h18 t39) h18 fun t40 h19 =>
bareK (ldN 2 h19 t7) h19 fun t41 h20 =>
enterK C F.slices_BinarySearchFunc_alarm [t40, t41, (.func (.func F.clock_alarm_compare) #[] #[])] h20 fun t42 h21 =>
bareK (xextract t42 0) h21 fun t43 h22 =>
bareK (xextract t42 1) h22 fun t44 h23 =>
checkK true <|
bareK (xnilCheck (get tT 0)) h23 fun t47 h24 =>
bareK (fad 2 t47) h24 fun t48 h25 =>
bareK (ld1 h25 t48) h25 fun t49 h26 =>
enterK C F.slices_Clone_alarm [t49] h26 fun t50 h27 =>
bareK (ldN 2 h27 t7) h27 fun t52 h28 =>
bothK (bldL T.clock_alarm [(.int .i64 0), (.int .i64 0)] 1 [(0, t52)] h28) fun t53 h29 =>
enterK C F.slices_Insert_alarm [t50, t43, t53] h29 fun t54 h30 =>
bareK (xnilCheck (get tT 0)) h30 fun t55 h31 =>
bareK (fad 2 t55) h31 fun t56 h32 =>
quietK (st1 h32 t56 t54) fun _ h33 =>
checkK (okV (some true) none h26 h27 h23 h23 && (okV (some true) none h26 h27 h27 h27 && (okV (some true) (blockOf t7) h26 h27 h27 h28 && (okV (some true) none h26 h27 h28 h29 && (okV (some true) none h29 h30 h23 h23 && true))))) <|
K0 .ret [(6, (.int .i64 0))] h33) K0)

theorem s_clock_Clock_Set_eq (M : CombL) (C : CallF) (LP : LoopH) (a0 : Value) (a1 : Value) (a2 : Value) (H : AHeap) : dBodyL M Try.prog hints C LP F.clock_Clock_Set [a0, a1, a2] H = s_clock_Clock_Set M.b.g M.c M.s Try.prog C a0 a1 a2 H (endK Try.prog [.tmp 6]) := by kernel_rfl

/-! (*ticketline.clock.Clock).Clear -/

noncomputable def s_clock_Clock_Clear (mg : GT) (mc : CT) (ms : ST) (P : Program) (C : CallF) (a0 : Value) (a1 : Value) (H : AHeap) (K0 : K) : Res :=
enterK C F.clock_Clock_zero [a0] H fun t7 h1 =>
mc t7 (fun k1 => k1 .ret [(4, (.int .i64 1))] h1) (fun k1 =>
k1 .normal [(0, a0), (1, a1)] h1) (seqK (fun tT h2 =>
enterK C F.clock_Clock_find [(get tT 0), (get tT 1)] h2 fun t10 h3 =>
bareK (xbin P .lss T.int (.tmp 11) (.const (.int .i64 0)) t10 (.int .i64 0)) h3 fun t12 h4 =>
mc t12 (fun k2 => k2 .ret [(4, (.int .i64 9))] h4) (fun k2 =>
k2 .normal [(0, (get tT 0)), (5, t10)] h4) (seqK (fun tT_1 h5 =>
bareK (xnilCheck (get tT_1 0)) h5 fun t15 h6 =>
bareK (fad 2 t15) h6 fun t16 h7 =>
bareK (ld1 h7 t16) h7 fun t17 h8 =>
enterK C F.slices_Clone_alarm [t17] h8 fun t18 h9 =>
bareK (xbin P .add T.int (.tmp 20) (.const (.int .i64 1)) (get tT_1 5) (.int .i64 1)) h9 fun t21 h10 =>
enterK C F.slices_Delete_alarm [t18, (get tT_1 5), t21] h10 fun t22 h11 =>
bareK (xnilCheck (get tT_1 0)) h11 fun t23 h12 =>
bareK (fad 2 t23) h12 fun t24 h13 =>
quietK (st1 h13 t24 t22) fun _ h14 =>
K0 .ret [(4, (.int .i64 0))] h14) K0)) K0)

theorem s_clock_Clock_Clear_eq (M : CombL) (C : CallF) (LP : LoopH) (a0 : Value) (a1 : Value) (H : AHeap) : dBodyL M Try.prog hints C LP F.clock_Clock_Clear [a0, a1] H = s_clock_Clock_Clear M.b.g M.c M.s Try.prog C a0 a1 H (endK Try.prog [.tmp 4]) := by kernel_rfl

/-! (*ticketline.clock.Clock).Next -/

noncomputable def s_clock_Clock_Next (mg : GT) (mc : CT) (ms : ST) (P : Program) (C : CallF) (a0 : Value) (H : AHeap) (K0 : K) : Res :=
ms (fun k1 =>
enterK C F.clock_Clock_zero [a0] H fun t5 h1 =>
mc t5 (fun k2 => k2 .ret [(2, (.int .i64 0))] h1) (fun k2 =>
bareK (xnilCheck a0) h1 fun t8 h2 =>
bareK (fad 2 t8) h2 fun t9 h3 =>
bareK (ld1 h3 t9) h3 fun t10 h4 =>
bareK (lenS t10) h4 fun t11 h5 =>
bareK (xbin P .eql T.int (.tmp 11) (.const (.int .i64 0)) t11 (.int .i64 0)) h5 fun t12 h6 =>
mc t12 (fun k3 => k3 .ret [(2, (.int .i64 4611686018427387904))] h6) (fun k3 =>
k3 .normal [(0, a0)] h6) (afterK [0] k2)) (blkK [0] 0 k1)) (seqK (fun tT h7 =>
bareK (xnilCheck (get tT 0)) h7 fun t14 h8 =>
bareK (fad 2 t14) h8 fun t15 h9 =>
bareK (ld1 h9 t15) h9 fun t16 h10 =>
bareK (ixS 2 t16 (.int .i64 0)) h10 fun t17 h11 =>
bareK (fad 1 t17) h11 fun t18 h12 =>
bareK (ld1 h12 t18) h12 fun t19 h13 =>
K0 .ret [(2, t19)] h13) K0)

theorem s_clock_Clock_Next_eq (M : CombL) (C : CallF) (LP : LoopH) (a0 : Value) (H : AHeap) : dBodyL M Try.prog hints C LP F.clock_Clock_Next [a0] H = s_clock_Clock_Next M.b.g M.c M.s Try.prog C a0 H (endK Try.prog [.tmp 2]) := by kernel_rfl

/-! (*ticketline.clock.Clock).Tick -/

noncomputable def s_clock_Clock_Tick (mg : GT) (mc : CT) (ms : ST) (P : Program) (C : CallF) (a0 : Value) (a1 : Value) (H : AHeap) (K0 : K) : Res :=
enterK C F.clock_Clock_zero [a0] H fun t12 h1 =>
mc t12 (fun k1 => k1 .ret [(4, (.slice none 0 0)), (5, (.int .i64 1))] h1) (fun k1 =>
k1 .normal [(0, a0), (1, a1)] h1) (seqK (fun tT h2 =>
bareK (xnilCheck (get tT 0)) h2 fun t15 h3 =>
bareK (fad 1 t15) h3 fun t16 h4 =>
bareK (ld1 h4 t16) h4 fun t17 h5 =>
enterK C F.clock_Due [t17, (get tT 1)] h5 fun t19 h6 =>
bareK (xextract t19 0) h6 fun t20 h7 =>
bareK (xextract t19 1) h7 fun t21 h8 =>
bareK (xbin P .neq T.api_Errno (.tmp 22) (.const (.int .i64 0)) t21 (.int .i64 0)) h8 fun t23 h9 =>
mc t23 (fun k2 => k2 .ret [(4, (.slice none 0 0)), (5, t21)] h9) (fun k2 =>
k2 .normal [(0, (get tT 0)), (6, t20)] h9) (seqK (fun tT_1 h10 =>
bareK (xnilCheck (get tT_1 0)) h10 fun t27 h11 =>
bareK (fad 1 t27) h11 fun t28 h12 =>
quietK (st1 h12 t28 (get tT_1 6)) fun _ h13 =>
bareK (xnilCheck (get tT_1 0)) h13 fun t31 h14 =>
bareK (fad 2 t31) h14 fun t32 h15 =>
bareK (ld1 h15 t32) h15 fun t33 h16 =>
bareK (xbin P .add T.int (.tmp 34) (.const (.int .i64 1)) (get tT_1 6) (.int .i64 1)) h16 fun t35 h17 =>
nextK C h17 (xbuiltin P .min [T.int, T.int] [t35, (.int .i64 4611686018427387904)] h17) fun t36 h18 =>
bareK (bldS #[(.int .i64 0), (.int .i64 0)] [(0, 1), (1, 1)] [(0, (.int .i64 (-1))), (1, t36)]) h18 fun t37 h19 =>
enterK C F.slices_BinarySearchFunc_alarm [t33, t37, (.func (.func F.clock_alarm_compare) #[] #[])] h19 fun t38 h20 =>
bareK (xextract t38 0) h20 fun t39 h21 =>
bareK (xextract t38 1) h21 fun t40 h22 =>
bareK (xnilCheck (get tT_1 0)) h22 fun t42 h23 =>
bareK (fad 2 t42) h23 fun t43 h24 =>
bareK (ld1 h24 t43) h24 fun t44 h25 =>
bareK (slS T.clock_alarm 2 t44 none (some t39) (some t39) h25) h25 fun t47 h26 =>
bareK (xnilCheck (get tT_1 0)) h26 fun t50 h27 =>
bareK (fad 2 t50) h27 fun t51 h28 =>
bareK (ld1 h28 t51) h28 fun t52 h29 =>
bareK (slS T.clock_alarm 2 t52 (some t39) none none h29) h29 fun t54 h30 =>
bareK (xnilCheck (get tT_1 0)) h30 fun t55 h31 =>
bareK (fad 2 t55) h31 fun t56 h32 =>
quietK (st1 h32 t56 t54) fun _ h33 =>
enterK C F.clock_out [t47] h33 fun t58 h34 =>
K0 .ret [(4, t58), (5, (.int .i64 0))] h34) K0)) K0)

theorem s_clock_Clock_Tick_eq (M : CombL) (C : CallF) (LP : LoopH) (a0 : Value) (a1 : Value) (H : AHeap) : dBodyL M Try.prog hints C LP F.clock_Clock_Tick [a0, a1] H = s_clock_Clock_Tick M.b.g M.c M.s Try.prog C a0 a1 H (endK Try.prog [.tmp 4, .tmp 5]) := by kernel_rfl

/-! (*ticketline.clock.Clock).Alarms -/

noncomputable def s_clock_Clock_Alarms (mg : GT) (mc : CT) (ms : ST) (P : Program) (C : CallF) (a0 : Value) (H : AHeap) (K0 : K) : Res :=
enterK C F.clock_Clock_zero [a0] H fun t4 h1 =>
mc t4 (fun k1 => k1 .ret [(2, (.slice none 0 0))] h1) (fun k1 =>
k1 .normal [(0, a0)] h1) (seqK (fun tT h2 =>
bareK (xnilCheck (get tT 0)) h2 fun t6 h3 =>
bareK (fad 2 t6) h3 fun t7 h4 =>
bareK (ld1 h4 t7) h4 fun t8 h5 =>
enterK C F.clock_out [t8] h5 fun t9 h6 =>
K0 .ret [(2, t9)] h6) K0)

theorem s_clock_Clock_Alarms_eq (M : CombL) (C : CallF) (LP : LoopH) (a0 : Value) (H : AHeap) : dBodyL M Try.prog hints C LP F.clock_Clock_Alarms [a0] H = s_clock_Clock_Alarms M.b.g M.c M.s Try.prog C a0 H (endK Try.prog [.tmp 2]) := by kernel_rfl

/-! (*ticketline.clock.Clock).Copy -/

noncomputable def s_clock_Clock_Copy (mg : GT) (mc : CT) (ms : ST) (P : Program) (C : CallF) (a0 : Value) (H : AHeap) (K0 : K) : Res :=
enterK C F.clock_Clock_zero [a0] H fun t4 h1 =>
mc t4 (fun k1 => k1 .ret [(2, (.pointer none))] h1) (fun k1 =>
k1 .normal [(0, a0)] h1) (seqK (fun tT h2 =>
bareK (xnilCheck (get tT 0)) h2 fun t6 h3 =>
bareK (fad 1 t6) h3 fun t7 h4 =>
bareK (ld1 h4 t7) h4 fun t8 h5 =>
bareK (xnilCheck (get tT 0)) h5 fun t10 h6 =>
bareK (fad 2 t10) h6 fun t11 h7 =>
bareK (ld1 h7 t11) h7 fun t12 h8 =>
enterK C F.slices_Clone_alarm [t12] h8 fun t13 h9 =>
bareK (bldS #[(.bool false), (.int .i64 0), (.slice none 0 0)] [(0, 1), (1, 1), (2, 1)] [(0, (.bool true)), (1, t8), (2, t13)]) h9 fun t14 h10 =>
bothK (newv T.clock_Clock t14 h10) fun t15 h11 =>
checkK (okV (some true) none h8 h9 h2 h2 && (okV (some true) none h8 h9 h2 h3 && (okV (some true) none h8 h9 h3 h4 && (okV (some true) (blockOf t7) h8 h9 h4 h5 && true)))) <|
K0 .ret [(2, t15)] h11) K0)

theorem s_clock_Clock_Copy_eq (M : CombL) (C : CallF) (LP : LoopH) (a0 : Value) (H : AHeap) : dBodyL M Try.prog hints C LP F.clock_Clock_Copy [a0] H = s_clock_Clock_Copy M.b.g M.c M.s Try.prog C a0 H (endK Try.prog [.tmp 2]) := by kernel_rfl

/-! ticketline.ticketlinelaw02.acts -/

noncomputable def s_law_acts (mg : GT) (mc : CT) (ms : ST) (P : Program) (C : CallF) (a0 : Value) (a1 : Value) (a2 : Value) (H : AHeap) (K0 : K) : Res :=
bothK (newv T.ref02_Clock a1 H) fun t4 h1 =>
bothK (newv T.law_Act a2 h1) fun t5 h2 =>
bothK (newv T.ref02_Clock (.agg #[(.int .i64 0), (.slice none 0 0)]) h2) fun t6 h3 =>
bareK (fad 0 t5) h3 fun t15 h4 =>
bareK (ld1 h4 t15) h4 fun t16 h5 =>
ms (fun k1 =>
bareK (xbin P .eql T.int (.tmp 16) (.const (.int .i64 0)) t16 (.int .i64 0)) h5 fun t18 h6 =>
mc t18 (fun k2 => bareK (ldN 2 h6 t4) h6 fun t20 h7 =>
bareK (fad 1 t5) h7 fun t21 h8 =>
bareK (ld1 h8 t21) h8 fun t22 h9 =>
bareK (fad 2 t5) h9 fun t23 h10 =>
bareK (ld1 h10 t23) h10 fun t24 h11 =>
enterK C F.ref02_Clock_Set [t20, t22, t24] h11 fun t25 h12 =>
bareK (xextract t25 0) h12 fun t26 h13 =>
bareK (xextract t25 1) h13 fun t27 h14 =>
bothK (newv T.ref02_Clock (.agg #[(.int .i64 0), (.slice none 0 0)]) h14) fun t8 h15 =>
quietK (stN 2 h15 t8 t26) fun _ h16 =>
bareK (ldN 2 h16 t8) h16 fun t28 h17 =>
bareK (fad 1 t5) h17 fun t30 h18 =>
bareK (ld1 h18 t30) h18 fun t31 h19 =>
bareK (fad 2 t5) h19 fun t32 h20 =>
bareK (ld1 h20 t32) h20 fun t33 h21 =>
enterK C F.clock_Clock_Set [a0, t31, t33] h21 fun t34 h22 =>
bareK (xbin P .eql T.int (.tmp 34) (.tmp 35) t34 t27) h22 fun t36 h23 =>
quietK (stN 2 h23 t6 t28) fun _ h24 =>
checkK (okV (some true) (blockOf t8) h21 h22 h16 h17 && (okV (some true) none h21 h22 h22 h22 && (okV (some true) none h23 h24 h22 h22 && (okV (some true) none h23 h24 h22 h23 && true)))) <|
k2 .ret [(6, t6), (7, t36)] h24) (fun k2 =>
bareK (xbin P .eql T.int (.tmp 16) (.const (.int .i64 1)) t16 (.int .i64 1)) h6 fun t38 h25 =>
mc t38 (fun k3 => bareK (ldN 2 h25 t4) h25 fun t40 h26 =>
bareK (fad 1 t5) h26 fun t41 h27 =>
bareK (ld1 h27 t41) h27 fun t42 h28 =>
enterK C F.ref02_Clock_Clear [t40, t42] h28 fun t43 h29 =>
bareK (xextract t43 0) h29 fun t44 h30 =>
bareK (xextract t43 1) h30 fun t45 h31 =>
bothK (newv T.ref02_Clock (.agg #[(.int .i64 0), (.slice none 0 0)]) h31) fun t10 h32 =>
quietK (stN 2 h32 t10 t44) fun _ h33 =>
bareK (ldN 2 h33 t10) h33 fun t46 h34 =>
bareK (fad 1 t5) h34 fun t48 h35 =>
bareK (ld1 h35 t48) h35 fun t49 h36 =>
enterK C F.clock_Clock_Clear [a0, t49] h36 fun t50 h37 =>
bareK (xbin P .eql T.int (.tmp 50) (.tmp 51) t50 t45) h37 fun t52 h38 =>
quietK (stN 2 h38 t6 t46) fun _ h39 =>
checkK (okV (some true) (blockOf t10) h36 h37 h33 h34 && (okV (some true) none h36 h37 h37 h37 && (okV (some true) none h38 h39 h37 h37 && (okV (some true) none h38 h39 h37 h38 && true)))) <|
k3 .ret [(6, t6), (7, t52)] h39) (fun k3 =>
k3 .normal [(0, a0), (4, t4), (5, t5), (6, t6)] h25) (afterK [0, 4, 5, 6] k2)) (blkK [0, 4, 5, 6] 0 k1)) (seqK (fun tT h40 =>
bareK (ldN 2 h40 (get tT 4)) h40 fun t54 h41 =>
bareK (fad 1 (get tT 5)) h41 fun t55 h42 =>
bareK (ld1 h42 t55) h42 fun t56 h43 =>
enterK C F.ref02_Clock_Pass [t54, t56] h43 fun t57 h44 =>
bareK (xextract t57 0) h44 fun t58 h45 =>
bareK (xextract t57 1) h45 fun t59 h46 =>
bareK (xextract t57 2) h46 fun t60 h47 =>
bothK (newv T.ref02_Clock (.agg #[(.int .i64 0), (.slice none 0 0)]) h47) fun t12 h48 =>
quietK (stN 2 h48 t12 t58) fun _ h49 =>
bareK (ldN 2 h49 t12) h49 fun t61 h50 =>
bareK (fad 1 (get tT 5)) h50 fun t63 h51 =>
bareK (ld1 h51 t63) h51 fun t64 h52 =>
enterK C F.law_ticks [(get tT 0), t64, t60, t59] h52 fun t67 h53 =>
quietK (stN 2 h53 (get tT 6) t61) fun _ h54 =>
checkK (okV (some true) (blockOf t12) h52 h53 h49 h50 && true) <|
K0 .ret [(6, (get tT 6)), (7, t67)] h54) K0)

theorem s_law_acts_eq (M : CombL) (C : CallF) (LP : LoopH) (a0 : Value) (a1 : Value) (a2 : Value) (H : AHeap) : dBodyL M Try.prog hints C LP F.law_acts [a0, a1, a2] H = s_law_acts M.b.g M.c M.s Try.prog C a0 a1 a2 H (endK Try.prog [.cell 6 T.ref02_Clock, .tmp 7]) := by kernel_rfl

/-! ticketline.ticketlinelaw02.looks -/

noncomputable def s_law_looks (mg : GT) (mc : CT) (ms : ST) (P : Program) (C : CallF) (a0 : Value) (a1 : Value) (H : AHeap) (K0 : K) : Res :=
bothK (newv T.ref02_Clock a1 H) fun t3 h1 =>
enterK C F.clock_Clock_Now [a0] h1 fun t6 h2 =>
bareK (fad 0 t3) h2 fun t7 h3 =>
bareK (ld1 h3 t7) h3 fun t8 h4 =>
bareK (xbin P .eql T.int (.tmp 6) (.tmp 8) t6 t8) h4 fun t9 h5 =>
mg t9 true (fun o1 => o1 a0 h5) h5 fun t11 h6 =>
mg t9 true (fun o2 => enterK C F.clock_Clock_Next [t11] h6 o2) h6 fun t12 h7 =>
mg t9 true (fun o3 => bareK (ldN 2 h7 t3) h7 o3) h7 fun t13 h8 =>
mg t9 true (fun o4 => enterK C F.ref02_Clock_Next [t13] h8 o4) h8 fun t14 h9 =>
mg t9 true (fun o5 => bareK (xbin P .eql T.int (.tmp 12) (.tmp 14) t12 t14) h9 o5) h9 fun t15 h10 =>
pickK t9 t15 (.bool false) fun t16 =>
mg t16 true (fun o6 => o6 a0 h10) h10 fun t18 h11 =>
mg t16 true (fun o7 => enterK C F.clock_Clock_Alarms [t18] h11 o7) h11 fun t19 h12 =>
mg t16 true (fun o8 => bareK (fad 1 t3) h12 o8) h12 fun t20 h13 =>
mg t16 true (fun o9 => bareK (ld1 h13 t20) h13 o9) h13 fun t21 h14 =>
mg t16 true (fun o10 => enterK C F.ref02_Same [t19, t21] h14 o10) h14 fun t22 h15 =>
pickK t16 t22 (.bool false) fun t23 =>
checkK (okV (some true) none h1 h2 h2 h3 && (okV (some true) (blockOf t7) h1 h2 h3 h4 && (okV (goesV t9 true) (blockOf t3) h6 h7 h7 h8 && (okV (goesV t16 true) none h11 h12 h12 h13 && (okV (goesV t16 true) (blockOf t20) h11 h12 h13 h14 && true))))) <|
K0 .ret [(4, t23)] h15

theorem s_law_looks_eq (M : CombL) (C : CallF) (LP : LoopH) (a0 : Value) (a1 : Value) (H : AHeap) : dBodyL M Try.prog hints C LP F.law_looks [a0, a1] H = s_law_looks M.b.g M.c M.s Try.prog C a0 a1 H (endK Try.prog [.tmp 4]) := by kernel_rfl

/-! (*ticketline.clock.Clock).Now -/

noncomputable def s_clock_Clock_Now (mg : GT) (mc : CT) (ms : ST) (P : Program) (C : CallF) (a0 : Value) (H : AHeap) (K0 : K) : Res :=
enterK C F.clock_Clock_zero [a0] H fun t4 h1 =>
mc t4 (fun k1 => k1 .ret [(2, (.int .i64 0))] h1) (fun k1 =>
k1 .normal [(0, a0)] h1) (seqK (fun tT h2 =>
bareK (xnilCheck (get tT 0)) h2 fun t6 h3 =>
bareK (fad 1 t6) h3 fun t7 h4 =>
bareK (ld1 h4 t7) h4 fun t8 h5 =>
K0 .ret [(2, t8)] h5) K0)

theorem s_clock_Clock_Now_eq (M : CombL) (C : CallF) (LP : LoopH) (a0 : Value) (H : AHeap) : dBodyL M Try.prog hints C LP F.clock_Clock_Now [a0] H = s_clock_Clock_Now M.b.g M.c M.s Try.prog C a0 H (endK Try.prog [.tmp 2]) := by kernel_rfl

/-! ticketline.ticketlinelaw02.ticks -/

noncomputable def s_law_ticks (mg : GT) (mc : CT) (ms : ST) (P : Program) (C : CallF) (a0 : Value) (a1 : Value) (a2 : Value) (a3 : Value) (H : AHeap) (K0 : K) : Res :=
enterK C F.clock_Clock_Tick [a0, a1] H fun t14 h1 =>
bareK (xextract t14 0) h1 fun t15 h2 =>
bareK (xextract t14 1) h2 fun t16 h3 =>
enterK C F.ref02_Same [t15, a3] h3 fun t19 h4 =>
mg t19 true (fun o1 => o1 t16 h4) h4 fun t21 h5 =>
mg t19 true (fun o2 => o2 a2 h5) h5 fun t22 h6 =>
mg t19 true (fun o3 => bareK (xbin P .eql T.api_Errno (.tmp 21) (.tmp 22) t21 t22) h6 o3) h6 fun t23 h7 =>
pickK t19 t23 (.bool false) fun t24 =>
K0 .ret [(8, t24)] h7

theorem s_law_ticks_eq (M : CombL) (C : CallF) (LP : LoopH) (a0 : Value) (a1 : Value) (a2 : Value) (a3 : Value) (H : AHeap) : dBodyL M Try.prog hints C LP F.law_ticks [a0, a1, a2, a3] H = s_law_ticks M.b.g M.c M.s Try.prog C a0 a1 a2 a3 H (endK Try.prog [.tmp 8]) := by kernel_rfl

/-! ticketline.clock.Due -/

noncomputable def s_clock_Due (mg : GT) (mc : CT) (ms : ST) (P : Program) (C : CallF) (a0 : Value) (a1 : Value) (H : AHeap) (K0 : K) : Res :=
ms (fun k1 =>
enterK C F.clock_tick [a0] H fun t8 h1 =>
bareK (xun P .not t8) h1 fun t9 h2 =>
mg t9 false (fun o2 => o2 a1 h2) h2 fun t11 h3 =>
mg t9 false (fun o3 => bareK (xbin P .lss T.int (.tmp 11) (.const (.int .i64 0)) t11 (.int .i64 0)) h3 o3) h3 fun t12 h4 =>
pickK t9 (.bool true) t12 fun t13 =>
mc t13 (fun k4 => k4 .ret [(4, (.int .i64 0)), (5, (.int .i64 2))] h4) (fun k4 =>
bareK (xbin P .sub T.int (.const (.int .i64 4611686018427387904)) (.tmp 16) (.int .i64 4611686018427387904) a0) h4 fun t17 h5 =>
bareK (xbin P .gtr T.int (.tmp 15) (.tmp 17) a1 t17) h5 fun t18 h6 =>
mc t18 (fun k5 => k5 .ret [(4, (.int .i64 4611686018427387904)), (5, (.int .i64 0))] h6) (fun k5 =>
k5 .normal [(0, a0), (1, a1)] h6) (afterK [0, 1] k4)) (blkK [0, 1] 0 k1)) (seqK (fun tT h7 =>
bareK (xbin P .add T.int (.tmp 19) (.tmp 20) (get tT 0) (get tT 1)) h7 fun t21 h8 =>
K0 .ret [(4, t21), (5, (.int .i64 0))] h8) K0)

theorem s_clock_Due_eq (M : CombL) (C : CallF) (LP : LoopH) (a0 : Value) (a1 : Value) (H : AHeap) : dBodyL M Try.prog hints C LP F.clock_Due [a0, a1] H = s_clock_Due M.b.g M.c M.s Try.prog C a0 a1 H (endK Try.prog [.tmp 4, .tmp 5]) := by kernel_rfl

/-! ticketline.ticketlineref02.Same -/

noncomputable def s_ref02_Same (mg : GT) (mc : CT) (ms : ST) (P : Program) (C : CallF) (L0 : Value → Value → Value → AHeap → K → Res) (a0 : Value) (a1 : Value) (H : AHeap) (K0 : K) : Res :=
bareK (lenS a0) H fun t7 h1 =>
bareK (lenS a1) h1 fun t9 h2 =>
bareK (xbin P .neq T.int (.tmp 7) (.tmp 9) t7 t9) h2 fun t10 h3 =>
mc t10 (fun k1 => k1 .ret [(4, (.bool false))] h3) (fun k1 =>
k1 .normal [(0, a0), (1, a1)] h3) (seqK (fun tT h4 =>
ms (fun k2 =>
L0 (get tT 0) (get tT 1) (.int .i64 0) h4 (blkK [] 0 k2)) (seqK (fun tT_1 h5 =>
K0 .ret [(4, (.bool true))] h5) K0)) K0)

noncomputable def s_ref02_Same_b0 (mg : GT) (mc : CT) (ms : ST) (P : Program) (C : CallF) (L0 : Value → Value → Value → AHeap → K → Res) (v0 : Value) (v1 : Value) (v5 : Value) (H : AHeap) (k : K) : Res :=
bareK (lenS v0) H fun t13 h5 =>
bareK (xbin P .lss T.int (.tmp 11) (.tmp 13) v5 t13) h5 fun t14 h6 =>
mc t14 (fun k3 => k3 .normal [(0, v0), (1, v1), (5, v5)] h6) (fun k3 =>
k3 (.exit 0) [(14, t14), (13, t13), (12, v0), (11, v5), (0, v0), (1, v1), (5, v5)] h6) (seqK (fun tT h7 =>
ms (fun k4 =>
bareK (ixS 2 (get tT 0) (get tT 5)) h7 fun t19 h8 =>
bareK (ldN 2 h8 t19) h8 fun t20 h9 =>
bareK (ixS 2 (get tT 1) (get tT 5)) h9 fun t23 h10 =>
bareK (ldN 2 h10 t23) h10 fun t24 h11 =>
bareK (xbin P .neq T.api_Alarm (.tmp 20) (.tmp 24) t20 t24) h11 fun t25 h12 =>
checkK true <|
mc t25 (fun k5 => k5 .ret [(4, (.bool false))] h12) (fun k5 =>
k5 .normal [(0, (get tT 0)), (1, (get tT 1)), (5, (get tT 5))] h12) (blkK [0, 1, 5] 1 k4)) (seqK (fun tT_1 h13 =>
bareK (xbin P .add T.int (.tmp 15) (.const (.int .i64 1)) (get tT_1 5) (.int .i64 1)) h13 fun t16 h14 =>
k .normal [(0, (get tT_1 0)), (1, (get tT_1 1)), (5, t16)] h14) (afterK [0, 1, 5] k))) (afterK [0, 1, 5] k))

theorem s_ref02_Same_eq (M : CombL) (C : CallF) (LP : LoopH) (a0 : Value) (a1 : Value) (H : AHeap) : dBodyL M Try.prog hints C LP F.ref02_Same [a0, a1] H = s_ref02_Same M.b.g M.c M.s Try.prog C (fun v0 v1 v5 H k => loopL M Try.prog hints C LP F.ref02_Same 0 [(0, v0), (1, v1), (5, v5)] H k) a0 a1 H (endK Try.prog [.tmp 4]) := by kernel_rfl

theorem s_ref02_Same_b0_eq (M : CombL) (C : CallF) (LP : LoopH) (v0 : Value) (v1 : Value) (v5 : Value) (H : AHeap) (k : K) : bodyL M Try.prog hints C LP F.ref02_Same 0 [(0, v0), (1, v1), (5, v5)] H (afterK [0, 1, 5] k) = s_ref02_Same_b0 M.b.g M.c M.s Try.prog C (fun v0 v1 v5 H k => loopL M Try.prog hints C LP F.ref02_Same 0 [(0, v0), (1, v1), (5, v5)] H k) v0 v1 v5 H k := by kernel_rfl

/-! ticketline.clock.tick -/

noncomputable def s_clock_tick (mg : GT) (mc : CT) (ms : ST) (P : Program) (C : CallF) (a0 : Value) (H : AHeap) (K0 : K) : Res :=
bareK (xbin P .geq T.int (.tmp 3) (.const (.int .i64 0)) a0 (.int .i64 0)) H fun t4 h1 =>
mg t4 true (fun o1 => o1 a0 h1) h1 fun t6 h2 =>
mg t4 true (fun o2 => bareK (xbin P .leq T.int (.tmp 6) (.const (.int .i64 4611686018427387904)) t6 (.int .i64 4611686018427387904)) h2 o2) h2 fun t7 h3 =>
pickK t4 t7 (.bool false) fun t8 =>
K0 .ret [(2, t8)] h3

theorem s_clock_tick_eq (M : CombL) (C : CallF) (LP : LoopH) (a0 : Value) (H : AHeap) : dBodyL M Try.prog hints C LP F.clock_tick [a0] H = s_clock_tick M.b.g M.c M.s Try.prog C a0 H (endK Try.prog [.tmp 2]) := by kernel_rfl

/-! (*ticketline.clock.Clock).zero -/

noncomputable def s_clock_Clock_zero (mg : GT) (mc : CT) (ms : ST) (P : Program) (C : CallF) (a0 : Value) (H : AHeap) (K0 : K) : Res :=
bareK (xbin P .eql T.p_clock_Clock (.tmp 3) (.const (.pointer none)) a0 (.pointer none)) H fun t4 h1 =>
mg t4 false (fun o1 => o1 a0 h1) h1 fun t6 h2 =>
mg t4 false (fun o2 => bareK (xnilCheck t6) h2 o2) h2 fun t7 h3 =>
mg t4 false (fun o3 => bareK (fad 0 t7) h3 o3) h3 fun t8 h4 =>
mg t4 false (fun o4 => bareK (ld1 h4 t8) h4 o4) h4 fun t9 h5 =>
mg t4 false (fun o5 => bareK (xun P .not t9) h5 o5) h5 fun t10 h6 =>
pickK t4 (.bool true) t10 fun t11 =>
K0 .ret [(2, t11)] h6

theorem s_clock_Clock_zero_eq (M : CombL) (C : CallF) (LP : LoopH) (a0 : Value) (H : AHeap) : dBodyL M Try.prog hints C LP F.clock_Clock_zero [a0] H = s_clock_Clock_zero M.b.g M.c M.s Try.prog C a0 H (endK Try.prog [.tmp 2]) := by kernel_rfl

/-! (*ticketline.clock.Clock).find -/

noncomputable def s_clock_Clock_find (mg : GT) (mc : CT) (ms : ST) (P : Program) (C : CallF) (a0 : Value) (a1 : Value) (H : AHeap) (K0 : K) : Res :=
bothK (newv T.int a1 H) fun t3 h1 =>
bareK (xnilCheck a0) h1 fun t6 h2 =>
bareK (fad 2 t6) h2 fun t7 h3 =>
bareK (ld1 h3 t7) h3 fun t8 h4 =>
enterK C F.slices_IndexFunc_alarm [t8, (.func (.func F.clock_Clock_find_1) #[] #[t3])] h4 fun t10 h5 =>
K0 .ret [(4, t10)] h5

theorem s_clock_Clock_find_eq (M : CombL) (C : CallF) (LP : LoopH) (a0 : Value) (a1 : Value) (H : AHeap) : dBodyL M Try.prog hints C LP F.clock_Clock_find [a0, a1] H = s_clock_Clock_find M.b.g M.c M.s Try.prog C a0 a1 H (endK Try.prog [.tmp 4]) := by kernel_rfl

/-! slices.BinarySearchFunc[[]ticketline.clock.alarm,ticketline.clock.alarm,ticketline.clock.alarm] -/

noncomputable def s_slices_BinarySearchFunc_alarm (mg : GT) (mc : CT) (ms : ST) (P : Program) (C : CallF) (L0 : Value → Value → Value → Value → Value → Value → AHeap → K → Res) (a0 : Value) (a1 : Value) (a2 : Value) (H : AHeap) (K0 : K) : Res :=
bothK (newv T.clock_alarm a1 H) fun t4 h1 =>
bareK (lenS a0) h1 fun t13 h2 =>
ms (fun k1 =>
L0 a0 a2 t4 t13 (.int .i64 0) t13 h2 (blkK [0, 2, 4, 8, 9] 0 k1)) (seqK (fun tT h3 =>
bareK (xbin P .lss T.int (.tmp 36) (.tmp 37) (get tT 9) (get tT 8)) h3 fun t38 h4 =>
mg t38 true (fun o2 => o2 (get tT 2) h4) h4 fun t40 h5 =>
mg t38 true (fun o3 => o3 (get tT 0) h5) h5 fun t41 h6 =>
mg t38 true (fun o4 => o4 (get tT 9) h6) h6 fun t42 h7 =>
mg t38 true (fun o5 => bareK (ixS 2 t41 t42) h7 o5) h7 fun t43 h8 =>
mg t38 true (fun o6 => bareK (ldN 2 h8 t43) h8 o6) h8 fun t44 h9 =>
mg t38 true (fun o7 => bareK (ldN 2 h9 (get tT 4)) h9 o7) h9 fun t45 h10 =>
mg t38 true (fun o8 => callK P C t40 [t44, t45] h10 o8) h10 fun t46 h11 =>
mg t38 true (fun o9 => bareK (xbin P .eql T.int (.tmp 46) (.const (.int .i64 0)) t46 (.int .i64 0)) h11 o9) h11 fun t47 h12 =>
pickK t38 t47 (.bool false) fun t48 =>
checkK (okV (some true) none h10 h11 h3 h3 && true) <|
K0 .ret [(6, (get tT 9)), (7, t48)] h12) K0)

noncomputable def s_slices_BinarySearchFunc_alarm_b0 (mg : GT) (mc : CT) (ms : ST) (P : Program) (C : CallF) (L0 : Value → Value → Value → Value → Value → Value → AHeap → K → Res) (v0 : Value) (v2 : Value) (v4 : Value) (v8 : Value) (v9 : Value) (v10 : Value) (H : AHeap) (k : K) : Res :=
bareK (xbin P .lss T.int (.tmp 15) (.tmp 16) v9 v10) H fun t17 h3 =>
mc t17 (fun k2 => k2 .normal [(0, v0), (2, v2), (4, v4), (8, v8), (9, v9), (10, v10)] h3) (fun k2 =>
k2 (.exit 0) [(17, t17), (16, v10), (15, v9), (0, v0), (2, v2), (4, v4), (8, v8), (9, v9), (10, v10)] h3) (seqK (fun tT h4 =>
ms (fun k3 =>
bareK (xbin P .add T.int (.tmp 18) (.tmp 19) (get tT 9) (get tT 10)) h4 fun t20 h5 =>
bothK (xconv P T.int T.uint t20 h5) fun t21 h6 =>
bareK (xbin P .shr T.uint (.tmp 21) (.const (.int .u64 1)) t21 (.int .u64 1)) h6 fun t22 h7 =>
bothK (xconv P T.uint T.int t22 h7) fun t23 h8 =>
bareK (ixS 2 (get tT 0) t23) h8 fun t27 h9 =>
bareK (ldN 2 h9 t27) h9 fun t28 h10 =>
bareK (ldN 2 h10 (get tT 4)) h10 fun t29 h11 =>
callK P C (get tT 2) [t28, t29] h11 fun t30 h12 =>
bareK (xbin P .lss T.int (.tmp 30) (.const (.int .i64 0)) t30 (.int .i64 0)) h12 fun t31 h13 =>
checkK true <|
mc t31 (fun k4 => bareK (xbin P .add T.int (.tmp 32) (.const (.int .i64 1)) t23 (.int .i64 1)) h13 fun t33 h14 =>
k4 .normal [(0, (get tT 0)), (2, (get tT 2)), (4, (get tT 4)), (8, (get tT 8)), (9, t33), (10, (get tT 10))] h14) (fun k4 =>
k4 .normal [(0, (get tT 0)), (2, (get tT 2)), (4, (get tT 4)), (8, (get tT 8)), (9, (get tT 9)), (10, t23)] h13) (blkK [0, 2, 4, 8, 9, 10] 1 k3)) (afterK [0, 2, 4, 8, 9, 10] k)) (afterK [0, 2, 4, 8, 9, 10] k))

theorem s_slices_BinarySearchFunc_alarm_eq (M : CombL) (C : CallF) (LP : LoopH) (a0 : Value) (a1 : Value) (a2 : Value) (H : AHeap) : dBodyL M Try.prog hints C LP F.slices_BinarySearchFunc_alarm [a0, a1, a2] H = s_slices_BinarySearchFunc_alarm M.b.g M.c M.s Try.prog C (fun v0 v2 v4 v8 v9 v10 H k => loopL M Try.prog hints C LP F.slices_BinarySearchFunc_alarm 0 [(0, v0), (2, v2), (4, v4), (8, v8), (9, v9), (10, v10)] H k) a0 a1 a2 H (endK Try.prog [.tmp 6, .tmp 7]) := by kernel_rfl

theorem s_slices_BinarySearchFunc_alarm_b0_eq (M : CombL) (C : CallF) (LP : LoopH) (v0 : Value) (v2 : Value) (v4 : Value) (v8 : Value) (v9 : Value) (v10 : Value) (H : AHeap) (k : K) : bodyL M Try.prog hints C LP F.slices_BinarySearchFunc_alarm 0 [(0, v0), (2, v2), (4, v4), (8, v8), (9, v9), (10, v10)] H (afterK [0, 2, 4, 8, 9, 10] k) = s_slices_BinarySearchFunc_alarm_b0 M.b.g M.c M.s Try.prog C (fun v0 v2 v4 v8 v9 v10 H k => loopL M Try.prog hints C LP F.slices_BinarySearchFunc_alarm 0 [(0, v0), (2, v2), (4, v4), (8, v8), (9, v9), (10, v10)] H k) v0 v2 v4 v8 v9 v10 H k := by kernel_rfl

/-! (ticketline.clock.alarm).compare -/

noncomputable def s_clock_alarm_compare (mg : GT) (mc : CT) (ms : ST) (P : Program) (C : CallF) (a0 : Value) (a1 : Value) (H : AHeap) (K0 : K) : Res :=
bothK (newv T.clock_alarm a0 H) fun t2 h1 =>
bothK (newv T.clock_alarm a1 h1) fun t3 h2 =>
bareK (fad 1 t2) h2 fun t5 h3 =>
bareK (ld1 h3 t5) h3 fun t6 h4 =>
bareK (fad 1 t3) h4 fun t7 h5 =>
bareK (ld1 h5 t7) h5 fun t8 h6 =>
enterK C F.cmp_Compare_int [t6, t8] h6 fun t9 h7 =>
bareK (fad 0 t2) h7 fun t10 h8 =>
bareK (ld1 h8 t10) h8 fun t11 h9 =>
bareK (fad 0 t3) h9 fun t12 h10 =>
bareK (ld1 h10 t12) h10 fun t13 h11 =>
enterK C F.cmp_Compare_int [t11, t13] h11 fun t14 h12 =>
bothK (bldL T.int [(.int .i64 0)] 2 [(0, t9), (1, t14)] h12) fun t15 h13 =>
enterK C F.cmp_Or_int [t15] h13 fun t16 h14 =>
checkK (okV (some true) none h6 h7 h7 h8 && (okV (some true) (blockOf t10) h6 h7 h8 h9 && (okV (some true) none h6 h7 h9 h10 && (okV (some true) (blockOf t12) h6 h7 h10 h11 && true)))) <|
K0 .ret [(4, t16)] h14

theorem s_clock_alarm_compare_eq (M : CombL) (C : CallF) (LP : LoopH) (a0 : Value) (a1 : Value) (H : AHeap) : dBodyL M Try.prog hints C LP F.clock_alarm_compare [a0, a1] H = s_clock_alarm_compare M.b.g M.c M.s Try.prog C a0 a1 H (endK Try.prog [.tmp 4]) := by kernel_rfl

/-! slices.Insert[[]ticketline.clock.alarm,ticketline.clock.alarm] -/

noncomputable def s_slices_Insert_alarm (mg : GT) (mc : CT) (ms : ST) (P : Program) (C : CallF) (a0 : Value) (a1 : Value) (a2 : Value) (H : AHeap) (K0 : K) : Res :=
bareK (slS T.clock_alarm 2 a0 (some a1) none none H) H fun t12 h1 =>
bareK (lenS a2) h1 fun t14 h2 =>
bareK (xbin P .eql T.int (.tmp 15) (.const (.int .i64 0)) t14 (.int .i64 0)) h2 fun t16 h3 =>
mc t16 (fun k1 => k1 .ret [(6, a0)] h3) (fun k1 =>
k1 .normal [(0, a0), (1, a1), (2, a2), (7, t14)] h3) (seqK (fun tT h4 =>
bareK (lenS (get tT 0)) h4 fun t19 h5 =>
bareK (xbin P .eql T.int (.tmp 20) (.tmp 21) (get tT 1) t19) h5 fun t22 h6 =>
mc t22 (fun k2 => bothK (app T.clock_alarm 2 16 (get tT 0) (srcS 2 (get tT 2) h6) h6) fun t25 h7 =>
k2 .ret [(6, t25)] h7) (fun k2 =>
k2 .normal [(0, (get tT 0)), (1, (get tT 1)), (2, (get tT 2)), (7, (get tT 7)), (8, t19)] h6) (seqK (fun tT_1 h8 =>
bareK (xbin P .add T.int (.tmp 26) (.tmp 27) (get tT_1 8) (get tT_1 7)) h8 fun t28 h9 =>
nextK C h9 (xbuiltin P .cap [T.sl_clock_alarm] [(get tT_1 0)] h9) fun t30 h10 =>
bareK (xbin P .gtr T.int (.tmp 28) (.tmp 30) t28 t30) h10 fun t31 h11 =>
mc t31 (fun k3 => bareK (slS T.clock_alarm 2 (get tT_1 0) none (some (get tT_1 1)) none h11) h11 fun t34 h12 =>
bareK (xbin P .add T.int (.tmp 35) (.tmp 36) (get tT_1 8) (get tT_1 7)) h12 fun t37 h13 =>
bareK (xbin P .sub T.int (.tmp 37) (.tmp 38) t37 (get tT_1 1)) h13 fun t39 h14 =>
bothK (app T.clock_alarm 2 16 t34 (srcZ [(.int .i64 0), (.int .i64 0)] 16 t39) h14) fun t40 h15 =>
bareK (slS T.clock_alarm 2 t40 (some (get tT_1 1)) none none h15) h15 fun t43 h16 =>
bothK (cpy 2 t43 (get tT_1 2) h16) fun t45 h17 =>
bareK (xbin P .add T.int (.tmp 47) (.tmp 48) (get tT_1 1) (get tT_1 7)) h17 fun t49 h18 =>
bareK (slS T.clock_alarm 2 t40 (some t49) none none h18) h18 fun t50 h19 =>
bareK (slS T.clock_alarm 2 (get tT_1 0) (some (get tT_1 1)) none none h19) h19 fun t53 h20 =>
bothK (cpy 2 t50 t53 h20) fun t54 h21 =>
checkK true <|
k3 .ret [(6, t40)] h21) (fun k3 =>
k3 .normal [(0, (get tT_1 0)), (1, (get tT_1 1)), (2, (get tT_1 2)), (7, (get tT_1 7)), (8, (get tT_1 8))] h11) (seqK (fun tT_2 h22 =>
bareK (xbin P .add T.int (.tmp 57) (.tmp 58) (get tT_2 8) (get tT_2 7)) h22 fun t59 h23 =>
bareK (slS T.clock_alarm 2 (get tT_2 0) none (some t59) none h23) h23 fun t60 h24 =>
bareK (xbin P .add T.int (.tmp 63) (.tmp 64) (get tT_2 1) (get tT_2 7)) h24 fun t65 h25 =>
bareK (slS T.clock_alarm 2 t60 (some t65) none none h25) h25 fun t66 h26 =>
bareK (xext P Try.f43 [(get tT_2 2), t66] h26) h26 fun t67 h27 =>
bareK (xun P .not t67) h27 fun t68 h28 =>
mc t68 (fun k4 => bareK (xbin P .add T.int (.tmp 70) (.tmp 71) (get tT_2 1) (get tT_2 7)) h28 fun t72 h29 =>
bareK (slS T.clock_alarm 2 t60 (some t72) none none h29) h29 fun t73 h30 =>
bareK (slS T.clock_alarm 2 t60 (some (get tT_2 1)) none none h30) h30 fun t76 h31 =>
bothK (cpy 2 t73 t76 h31) fun t77 h32 =>
checkK true <|
bareK (slS T.clock_alarm 2 t60 (some (get tT_2 1)) none none h32) h32 fun t80 h33 =>
bothK (cpy 2 t80 (get tT_2 2) h33) fun t82 h34 =>
k4 .ret [(6, t60)] h34) (fun k4 =>
k4 .normal [(0, t60), (1, (get tT_2 1)), (2, (get tT_2 2)), (7, (get tT_2 7)), (8, (get tT_2 8))] h28) (seqK (fun tT_3 h35 =>
bareK (slS T.clock_alarm 2 (get tT_3 0) (some (get tT_3 8)) none none h35) h35 fun t86 h36 =>
bothK (cpy 2 t86 (get tT_3 2) h36) fun t88 h37 =>
bareK (slS T.clock_alarm 2 (get tT_3 0) (some (get tT_3 1)) none none h37) h37 fun t91 h38 =>
enterK C F.slices_rotateRight_alarm [t91, (get tT_3 7)] h38 fun t93 h39 =>
K0 .ret [(6, (get tT_3 0))] h39) K0)) K0)) K0)) K0)

theorem s_slices_Insert_alarm_eq (M : CombL) (C : CallF) (LP : LoopH) (a0 : Value) (a1 : Value) (a2 : Value) (H : AHeap) : dBodyL M Try.prog hints C LP F.slices_Insert_alarm [a0, a1, a2] H = s_slices_Insert_alarm M.b.g M.c M.s Try.prog C a0 a1 a2 H (endK Try.prog [.tmp 6]) := by kernel_rfl

/-! slices.Clone[[]ticketline.clock.alarm,ticketline.clock.alarm] -/

noncomputable def s_slices_Clone_alarm (mg : GT) (mc : CT) (ms : ST) (P : Program) (C : CallF) (a0 : Value) (H : AHeap) (K0 : K) : Res :=
bareK (xbin P .eql T.sl_clock_alarm (.tmp 3) (.const (.slice none 0 0)) a0 (.slice none 0 0)) H fun t4 h1 =>
mc t4 (fun k1 => k1 .ret [(2, (.slice none 0 0))] h1) (fun k1 =>
k1 .normal [(0, a0)] h1) (seqK (fun tT h2 =>
bothK (bldL T.clock_alarm [(.int .i64 0), (.int .i64 0)] 0 [] h2) fun t5 h3 =>
bothK (app T.clock_alarm 2 16 t5 (srcS 2 (get tT 0) h3) h3) fun t7 h4 =>
K0 .ret [(2, t7)] h4) K0)

theorem s_slices_Clone_alarm_eq (M : CombL) (C : CallF) (LP : LoopH) (a0 : Value) (H : AHeap) : dBodyL M Try.prog hints C LP F.slices_Clone_alarm [a0] H = s_slices_Clone_alarm M.b.g M.c M.s Try.prog C a0 H (endK Try.prog [.tmp 2]) := by kernel_rfl

/-! slices.Delete[[]ticketline.clock.alarm,ticketline.clock.alarm] -/

noncomputable def s_slices_Delete_alarm (mg : GT) (mc : CT) (ms : ST) (P : Program) (C : CallF) (a0 : Value) (a1 : Value) (a2 : Value) (H : AHeap) (K0 : K) : Res :=
bareK (lenS a0) H fun t12 h1 =>
bareK (slS T.clock_alarm 2 a0 (some a1) (some a2) (some t12) h1) h1 fun t13 h2 =>
bareK (xbin P .eql T.int (.tmp 14) (.tmp 15) a1 a2) h2 fun t16 h3 =>
mc t16 (fun k1 => k1 .ret [(6, a0)] h3) (fun k1 =>
k1 .normal [(0, a0), (1, a1), (2, a2)] h3) (seqK (fun tT h4 =>
bareK (lenS (get tT 0)) h4 fun t19 h5 =>
bareK (slS T.clock_alarm 2 (get tT 0) none (some (get tT 1)) none h5) h5 fun t22 h6 =>
bareK (slS T.clock_alarm 2 (get tT 0) (some (get tT 2)) none none h6) h6 fun t25 h7 =>
bothK (app T.clock_alarm 2 16 t22 (srcS 2 t25 h7) h7) fun t26 h8 =>
checkK true <|
bareK (lenS t26) h8 fun t29 h9 =>
bareK (slS T.clock_alarm 2 t26 (some t29) (some t19) none h9) h9 fun t31 h10 =>
bothK (xclear P [T.sl_clock_alarm] t31 h10) fun _ h11 =>
K0 .ret [(6, t26)] h11) K0)

theorem s_slices_Delete_alarm_eq (M : CombL) (C : CallF) (LP : LoopH) (a0 : Value) (a1 : Value) (a2 : Value) (H : AHeap) : dBodyL M Try.prog hints C LP F.slices_Delete_alarm [a0, a1, a2] H = s_slices_Delete_alarm M.b.g M.c M.s Try.prog C a0 a1 a2 H (endK Try.prog [.tmp 6]) := by kernel_rfl

/-! ticketline.clock.out -/

noncomputable def s_clock_out (mg : GT) (mc : CT) (ms : ST) (P : Program) (C : CallF) (L0 : Value → Value → Value → Value → AHeap → K → Res) (a0 : Value) (H : AHeap) (K0 : K) : Res :=
bareK (lenS a0) H fun t7 h1 =>
ms (fun k1 =>
L0 (.slice none 0 0) a0 t7 (.int .i64 0) h1 (blkK [3] 0 k1)) (seqK (fun tT h2 =>
K0 .ret [(2, (get tT 3))] h2) K0)

noncomputable def s_clock_out_b0 (mg : GT) (mc : CT) (ms : ST) (P : Program) (C : CallF) (L0 : Value → Value → Value → Value → AHeap → K → Res) (v3 : Value) (v6 : Value) (v7 : Value) (v8 : Value) (H : AHeap) (k : K) : Res :=
bareK (xbin P .lss T.int (.tmp 8) (.tmp 7) v8 v7) H fun t9 h2 =>
mc t9 (fun k2 => k2 .normal [(3, v3), (6, v6), (7, v7), (8, v8)] h2) (fun k2 =>
k2 (.exit 0) [(9, t9), (3, v3), (6, v6), (7, v7), (8, v8)] h2) (seqK (fun tT h3 =>
ms (fun k3 =>
bareK (ixS 2 (get tT 6) (get tT 8)) h3 fun t10 h4 =>
bareK (ldN 2 h4 t10) h4 fun t11 h5 =>
bothK (newv T.clock_alarm (.agg #[(.int .i64 0), (.int .i64 0)]) h5) fun t5 h6 =>
quietK (stN 2 h6 t5 t11) fun _ h7 =>
bareK (ldN 2 h7 t5) h7 fun t13 h8 =>
bothK (bldL T.api_Alarm [(.int .i64 0), (.int .i64 0)] 1 [(0, t13)] h8) fun t14 h9 =>
bothK (app T.api_Alarm 2 16 (get tT 3) (srcS 2 t14 h9) h9) fun t15 h10 =>
k3 .normal [(3, t15), (6, (get tT 6)), (7, (get tT 7)), (8, (get tT 8))] h10) (seqK (fun tT_1 h11 =>
bareK (xbin P .add T.int (.tmp 8) (.const (.int .i64 1)) (get tT_1 8) (.int .i64 1)) h11 fun t16 h12 =>
k .normal [(3, (get tT_1 3)), (6, (get tT_1 6)), (7, (get tT_1 7)), (8, t16)] h12) (afterK [3, 6, 7, 8] k))) (afterK [3, 6, 7, 8] k))

theorem s_clock_out_eq (M : CombL) (C : CallF) (LP : LoopH) (a0 : Value) (H : AHeap) : dBodyL M Try.prog hints C LP F.clock_out [a0] H = s_clock_out M.b.g M.c M.s Try.prog C (fun v3 v6 v7 v8 H k => loopL M Try.prog hints C LP F.clock_out 0 [(3, v3), (6, v6), (7, v7), (8, v8)] H k) a0 H (endK Try.prog [.tmp 2]) := by kernel_rfl

theorem s_clock_out_b0_eq (M : CombL) (C : CallF) (LP : LoopH) (v3 : Value) (v6 : Value) (v7 : Value) (v8 : Value) (H : AHeap) (k : K) : bodyL M Try.prog hints C LP F.clock_out 0 [(3, v3), (6, v6), (7, v7), (8, v8)] H (afterK [3, 6, 7, 8] k) = s_clock_out_b0 M.b.g M.c M.s Try.prog C (fun v3 v6 v7 v8 H k => loopL M Try.prog hints C LP F.clock_out 0 [(3, v3), (6, v6), (7, v7), (8, v8)] H k) v3 v6 v7 v8 H k := by kernel_rfl

/-! (ticketline.ticketlineref02.Clock).Set -/

noncomputable def s_ref02_Clock_Set (mg : GT) (mc : CT) (ms : ST) (P : Program) (C : CallF) (L0 : Value → Value → Value → Value → Value → AHeap → K → Res) (a0 : Value) (a1 : Value) (a2 : Value) (H : AHeap) (K0 : K) : Res :=
bothK (newv T.ref02_Clock a0 H) fun t3 h1 =>
bothK (newv T.ref02_Clock (.agg #[(.int .i64 0), (.slice none 0 0)]) h1) fun t6 h2 =>
bareK (xbin P .lss T.int (.tmp 9) (.const (.int .i64 0)) a1 (.int .i64 0)) h2 fun t10 h3 =>
mg t10 false (fun o1 => o1 a2 h3) h3 fun t12 h4 =>
mg t10 false (fun o2 => enterK C F.ref02_Tick [t12] h4 o2) h4 fun t13 h5 =>
mg t10 false (fun o3 => bareK (xun P .not t13) h5 o3) h5 fun t14 h6 =>
pickK t10 (.bool true) t14 fun t15 =>
mc t15 (fun k4 => bareK (ldN 2 h6 t3) h6 fun t16 h7 =>
quietK (stN 2 h7 t6 t16) fun _ h8 =>
k4 .ret [(6, t6), (7, (.int .i64 2))] h8) (fun k4 =>
k4 .normal [(1, a1), (2, a2), (3, t3), (6, t6)] h6) (seqK (fun tT h9 =>
bareK (ldN 2 h9 (get tT 3)) h9 fun t17 h10 =>
enterK C F.ref02_Clock_has [t17, (get tT 1)] h10 fun t19 h11 =>
mc t19 (fun k5 => bareK (ldN 2 h11 (get tT 3)) h11 fun t20 h12 =>
quietK (stN 2 h12 (get tT 6) t20) fun _ h13 =>
k5 .ret [(6, (get tT 6)), (7, (.int .i64 11))] h13) (fun k5 =>
k5 .normal [(1, (get tT 1)), (2, (get tT 2)), (3, (get tT 3)), (6, (get tT 6))] h11) (seqK (fun tT_1 h14 =>
bareK (fad 1 (get tT_1 3)) h14 fun t21 h15 =>
bareK (ld1 h15 t21) h15 fun t22 h16 =>
bareK (lenS t22) h16 fun t23 h17 =>
bareK (xbin P .eql T.int (.tmp 23) (.const (.int .i64 4096)) t23 (.int .i64 4096)) h17 fun t24 h18 =>
mc t24 (fun k6 => bareK (ldN 2 h18 (get tT_1 3)) h18 fun t25 h19 =>
quietK (stN 2 h19 (get tT_1 6) t25) fun _ h20 =>
k6 .ret [(6, (get tT_1 6)), (7, (.int .i64 7))] h20) (fun k6 =>
k6 .normal [(1, (get tT_1 1)), (2, (get tT_1 2)), (3, (get tT_1 3)), (6, (get tT_1 6))] h18) (seqK (fun tT_2 h21 =>
ms (fun k7 =>
L0 (get tT_2 1) (get tT_2 2) (get tT_2 3) (get tT_2 6) (.int .i64 0) h21 (blkK [1, 2, 3, 6, 8] 0 k7)) (seqK (fun tT_3 h22 =>
bareK (fad 0 (get tT_3 3)) h22 fun t63 h23 =>
bareK (ld1 h23 t63) h23 fun t64 h24 =>
bareK (fad 1 (get tT_3 3)) h24 fun t65 h25 =>
bareK (ld1 h25 t65) h25 fun t66 h26 =>
bareK (slS T.api_Alarm 2 t66 none (some (get tT_3 8)) none h26) h26 fun t68 h27 =>
bothK (app T.api_Alarm 2 16 (.slice none 0 0) (srcS 2 t68 h27) h27) fun t69 h28 =>
bareK (bldS #[(.int .i64 0), (.int .i64 0)] [(0, 1), (1, 1)] [(0, (get tT_3 1)), (1, (get tT_3 2))]) h28 fun t72 h29 =>
bothK (bldL T.api_Alarm [(.int .i64 0), (.int .i64 0)] 1 [(0, t72)] h29) fun t73 h30 =>
bothK (app T.api_Alarm 2 16 t69 (srcS 2 t73 h30) h30) fun t74 h31 =>
bareK (fad 1 (get tT_3 3)) h31 fun t75 h32 =>
bareK (ld1 h32 t75) h32 fun t76 h33 =>
bareK (slS T.api_Alarm 2 t76 (some (get tT_3 8)) none none h33) h33 fun t78 h34 =>
bothK (app T.api_Alarm 2 16 t74 (srcS 2 t78 h34) h34) fun t79 h35 =>
bareK (bldS #[(.int .i64 0), (.slice none 0 0)] [(0, 1), (1, 1)] [(0, t64), (1, t79)]) h35 fun t80 h36 =>
quietK (stN 2 h36 (get tT_3 6) t80) fun _ h37 =>
checkK (okV (some true) none h27 h28 h22 h23 && (okV (some true) (blockOf t63) h27 h28 h23 h24 && (okV (some true) none h27 h28 h28 h28 && (okV (some true) none h27 h28 h28 h28 && (okV (some true) none h27 h28 h28 h29 && (okV (some true) none h27 h28 h29 h30 && (okV (some true) none h27 h28 h31 h32 && (okV (some true) (blockOf t75) h27 h28 h32 h33 && (okV (some true) none h27 h28 h33 h33 && (okV (some true) (blockOf t76) h27 h28 h33 h34 && (okV (some true) none h30 h31 h22 h23 && (okV (some true) (blockOf t63) h30 h31 h23 h24 && (okV (some true) none h30 h31 h31 h32 && (okV (some true) (blockOf t75) h30 h31 h32 h33 && (okV (some true) none h30 h31 h33 h33 && (okV (some true) (blockOf t76) h30 h31 h33 h34 && (okV (some true) none h34 h35 h22 h23 && (okV (some true) (blockOf t63) h34 h35 h23 h24 && true)))))))))))))))))) <|
K0 .ret [(6, (get tT_3 6)), (7, (.int .i64 0))] h37) K0)) K0)) K0)) K0)

noncomputable def s_ref02_Clock_Set_b0 (mg : GT) (mc : CT) (ms : ST) (P : Program) (C : CallF) (L0 : Value → Value → Value → Value → Value → AHeap → K → Res) (v1 : Value) (v2 : Value) (v3 : Value) (v6 : Value) (v8 : Value) (H : AHeap) (k : K) : Res :=
bareK (fad 1 v3) H fun t27 h22 =>
bareK (ld1 h22 t27) h22 fun t28 h23 =>
bareK (lenS t28) h23 fun t29 h24 =>
bareK (xbin P .lss T.int (.tmp 26) (.tmp 29) v8 t29) h24 fun t30 h25 =>
mg t30 true (fun o8 => bareK (fad 1 v3) h25 o8) h25 fun t32 h26 =>
mg t30 true (fun o9 => bareK (ld1 h26 t32) h26 o9) h26 fun t33 h27 =>
mg t30 true (fun o10 => o10 v8 h27) h27 fun t34 h28 =>
mg t30 true (fun o11 => bareK (ixS 2 t33 t34) h28 o11) h28 fun t35 h29 =>
mg t30 true (fun o12 => bareK (fad 1 t35) h29 o12) h29 fun t36 h30 =>
mg t30 true (fun o13 => bareK (ld1 h30 t36) h30 o13) h30 fun t37 h31 =>
mg t30 true (fun o14 => o14 v2 h31) h31 fun t38 h32 =>
mg t30 true (fun o15 => bareK (xbin P .lss T.int (.tmp 37) (.tmp 38) t37 t38) h32 o15) h32 fun t39 h33 =>
mg t30 true (fun o16 => o16 t39 h33) h33 fun t40 h34 =>
mg t40 false (fun o17 => bareK (fad 1 v3) h34 o17) h34 fun t41 h35 =>
mg t40 false (fun o18 => bareK (ld1 h35 t41) h35 o18) h35 fun t42 h36 =>
mg t40 false (fun o19 => o19 v8 h36) h36 fun t43 h37 =>
mg t40 false (fun o20 => bareK (ixS 2 t42 t43) h37 o20) h37 fun t44 h38 =>
mg t40 false (fun o21 => bareK (fad 1 t44) h38 o21) h38 fun t45 h39 =>
mg t40 false (fun o22 => bareK (ld1 h39 t45) h39 o22) h39 fun t46 h40 =>
mg t40 false (fun o23 => o23 v2 h40) h40 fun t47 h41 =>
mg t40 false (fun o24 => bareK (xbin P .eql T.int (.tmp 46) (.tmp 47) t46 t47) h41 o24) h41 fun t48 h42 =>
mg t40 false (fun o25 => o25 t48 h42) h42 fun t49 h43 =>
mg t49 true (fun o26 => bareK (fad 1 v3) h43 o26) h43 fun t50 h44 =>
mg t49 true (fun o27 => bareK (ld1 h44 t50) h44 o27) h44 fun t51 h45 =>
mg t49 true (fun o28 => o28 v8 h45) h45 fun t52 h46 =>
mg t49 true (fun o29 => bareK (ixS 2 t51 t52) h46 o29) h46 fun t53 h47 =>
mg t49 true (fun o30 => bareK (fad 0 t53) h47 o30) h47 fun t54 h48 =>
mg t49 true (fun o31 => bareK (ld1 h48 t54) h48 o31) h48 fun t55 h49 =>
mg t49 true (fun o32 => o32 v1 h49) h49 fun t56 h50 =>
mg t49 true (fun o33 => bareK (xbin P .lss T.int (.tmp 55) (.tmp 56) t55 t56) h50 o33) h50 fun t57 h51 =>
mg t40 false (fun o34 => pickK t49 t57 (.bool false) fun v => o34 v h51) h51 fun t58 h52 =>
mg t30 true (fun o35 => pickK t40 (.bool true) t58 fun v => o35 v h52) h52 fun t59 h53 =>
pickK t30 t59 (.bool false) fun t60 =>
mc t60 (fun k36 => k36 .normal [(1, v1), (2, v2), (3, v3), (6, v6), (8, v8)] h53) (fun k36 =>
k36 (.exit 0) [(60, t60), (59, t59), (58, t58), (57, t57), (56, t56), (55, t55), (54, t54), (53, t53), (52, t52), (51, t51), (50, t50), (49, t49), (48, t48), (47, t47), (46, t46), (45, t45), (44, t44), (43, t43), (42, t42), (41, t41), (40, t40), (39, t39), (38, t38), (37, t37), (36, t36), (35, t35), (34, t34), (33, t33), (32, t32), (31, t30), (30, t30), (29, t29), (28, t28), (27, t27), (26, v8), (1, v1), (2, v2), (3, v3), (6, v6), (8, v8)] h53) (seqK (fun tT h54 =>
ms (fun k37 =>
bareK (xbin P .add T.int (.tmp 61) (.const (.int .i64 1)) (get tT 8) (.int .i64 1)) h54 fun t62 h55 =>
k37 .normal [(1, (get tT 1)), (2, (get tT 2)), (3, (get tT 3)), (6, (get tT 6)), (8, t62)] h55) (afterK [1, 2, 3, 6, 8] k)) (afterK [1, 2, 3, 6, 8] k))

theorem s_ref02_Clock_Set_eq (M : CombL) (C : CallF) (LP : LoopH) (a0 : Value) (a1 : Value) (a2 : Value) (H : AHeap) : dBodyL M Try.prog hints C LP F.ref02_Clock_Set [a0, a1, a2] H = s_ref02_Clock_Set M.b.g M.c M.s Try.prog C (fun v1 v2 v3 v6 v8 H k => loopL M Try.prog hints C LP F.ref02_Clock_Set 0 [(1, v1), (2, v2), (3, v3), (6, v6), (8, v8)] H k) a0 a1 a2 H (endK Try.prog [.cell 6 T.ref02_Clock, .tmp 7]) := by kernel_rfl

theorem s_ref02_Clock_Set_b0_eq (M : CombL) (C : CallF) (LP : LoopH) (v1 : Value) (v2 : Value) (v3 : Value) (v6 : Value) (v8 : Value) (H : AHeap) (k : K) : bodyL M Try.prog hints C LP F.ref02_Clock_Set 0 [(1, v1), (2, v2), (3, v3), (6, v6), (8, v8)] H (afterK [1, 2, 3, 6, 8] k) = s_ref02_Clock_Set_b0 M.b.g M.c M.s Try.prog C (fun v1 v2 v3 v6 v8 H k => loopL M Try.prog hints C LP F.ref02_Clock_Set 0 [(1, v1), (2, v2), (3, v3), (6, v6), (8, v8)] H k) v1 v2 v3 v6 v8 H k := by kernel_rfl

/-! (ticketline.ticketlineref02.Clock).Clear -/

noncomputable def s_ref02_Clock_Clear (mg : GT) (mc : CT) (ms : ST) (P : Program) (C : CallF) (L0 : Value → Value → Value → Value → Value → AHeap → K → Res) (a0 : Value) (a1 : Value) (H : AHeap) (K0 : K) : Res :=
bothK (newv T.ref02_Clock a0 H) fun t2 h1 =>
bothK (newv T.ref02_Clock (.agg #[(.int .i64 0), (.slice none 0 0)]) h1) fun t4 h2 =>
bareK (ldN 2 h2 t2) h2 fun t8 h3 =>
enterK C F.ref02_Clock_has [t8, a1] h3 fun t10 h4 =>
bareK (xun P .not t10) h4 fun t11 h5 =>
mc t11 (fun k1 => bareK (ldN 2 h5 t2) h5 fun t12 h6 =>
quietK (stN 2 h6 t4 t12) fun _ h7 =>
k1 .ret [(4, t4), (5, (.int .i64 9))] h7) (fun k1 =>
k1 .normal [(1, a1), (2, t2), (4, t4)] h5) (seqK (fun tT h8 =>
bareK (fad 0 (get tT 2)) h8 fun t13 h9 =>
bareK (ld1 h9 t13) h9 fun t14 h10 =>
bareK (bldS #[(.int .i64 0), (.slice none 0 0)] [(0, 1), (1, 1)] [(0, t14)]) h10 fun t15 h11 =>
bothK (newv T.ref02_Clock (.agg #[(.int .i64 0), (.slice none 0 0)]) h11) fun t6 h12 =>
quietK (stN 2 h12 t6 t15) fun _ h13 =>
ms (fun k2 =>
L0 (get tT 1) (get tT 2) (get tT 4) t6 (.int .i64 0) h13 (blkK [4, 6] 0 k2)) (seqK (fun tT_1 h14 =>
bareK (ldN 2 h14 (get tT_1 6)) h14 fun t41 h15 =>
quietK (stN 2 h15 (get tT_1 4) t41) fun _ h16 =>
K0 .ret [(4, (get tT_1 4)), (5, (.int .i64 0))] h16) K0)) K0)

noncomputable def s_ref02_Clock_Clear_b0 (mg : GT) (mc : CT) (ms : ST) (P : Program) (C : CallF) (L0 : Value → Value → Value → Value → Value → AHeap → K → Res) (v1 : Value) (v2 : Value) (v4 : Value) (v6 : Value) (v7 : Value) (H : AHeap) (k : K) : Res :=
bareK (fad 1 v2) H fun t17 h14 =>
bareK (ld1 h14 t17) h14 fun t18 h15 =>
bareK (lenS t18) h15 fun t19 h16 =>
bareK (xbin P .lss T.int (.tmp 16) (.tmp 19) v7 t19) h16 fun t20 h17 =>
mc t20 (fun k3 => k3 .normal [(1, v1), (2, v2), (4, v4), (6, v6), (7, v7)] h17) (fun k3 =>
k3 (.exit 0) [(20, t20), (19, t19), (18, t18), (17, t17), (16, v7), (1, v1), (2, v2), (4, v4), (6, v6), (7, v7)] h17) (seqK (fun tT h18 =>
ms (fun k4 =>
bareK (fad 1 (get tT 2)) h18 fun t23 h19 =>
bareK (ld1 h19 t23) h19 fun t24 h20 =>
bareK (ixS 2 t24 (get tT 7)) h20 fun t26 h21 =>
bareK (fad 0 t26) h21 fun t27 h22 =>
bareK (ld1 h22 t27) h22 fun t28 h23 =>
bareK (xbin P .neq T.int (.tmp 28) (.tmp 29) t28 (get tT 1)) h23 fun t30 h24 =>
mc t30 (fun k5 => bareK (fad 1 (get tT 6)) h24 fun t31 h25 =>
bareK (ld1 h25 t31) h25 fun t32 h26 =>
bareK (fad 1 (get tT 2)) h26 fun t33 h27 =>
bareK (ld1 h27 t33) h27 fun t34 h28 =>
bareK (ixS 2 t34 (get tT 7)) h28 fun t36 h29 =>
bareK (ldN 2 h29 t36) h29 fun t37 h30 =>
bothK (bldL T.api_Alarm [(.int .i64 0), (.int .i64 0)] 1 [(0, t37)] h30) fun t38 h31 =>
bothK (app T.api_Alarm 2 16 t32 (srcS 2 t38 h31) h31) fun t39 h32 =>
bareK (fad 1 (get tT 6)) h32 fun t40 h33 =>
quietK (st1 h33 t40 t39) fun _ h34 =>
checkK true <|
k5 .normal [(1, (get tT 1)), (2, (get tT 2)), (4, (get tT 4)), (6, (get tT 6)), (7, (get tT 7))] h34) (fun k5 =>
k5 .normal [(1, (get tT 1)), (2, (get tT 2)), (4, (get tT 4)), (6, (get tT 6)), (7, (get tT 7))] h24) (blkK [1, 2, 4, 6, 7] 1 k4)) (seqK (fun tT_1 h35 =>
bareK (xbin P .add T.int (.tmp 21) (.const (.int .i64 1)) (get tT_1 7) (.int .i64 1)) h35 fun t22 h36 =>
k .normal [(1, (get tT_1 1)), (2, (get tT_1 2)), (4, (get tT_1 4)), (6, (get tT_1 6)), (7, t22)] h36) (afterK [1, 2, 4, 6, 7] k))) (afterK [1, 2, 4, 6, 7] k))

theorem s_ref02_Clock_Clear_eq (M : CombL) (C : CallF) (LP : LoopH) (a0 : Value) (a1 : Value) (H : AHeap) : dBodyL M Try.prog hints C LP F.ref02_Clock_Clear [a0, a1] H = s_ref02_Clock_Clear M.b.g M.c M.s Try.prog C (fun v1 v2 v4 v6 v7 H k => loopL M Try.prog hints C LP F.ref02_Clock_Clear 0 [(1, v1), (2, v2), (4, v4), (6, v6), (7, v7)] H k) a0 a1 H (endK Try.prog [.cell 4 T.ref02_Clock, .tmp 5]) := by kernel_rfl

theorem s_ref02_Clock_Clear_b0_eq (M : CombL) (C : CallF) (LP : LoopH) (v1 : Value) (v2 : Value) (v4 : Value) (v6 : Value) (v7 : Value) (H : AHeap) (k : K) : bodyL M Try.prog hints C LP F.ref02_Clock_Clear 0 [(1, v1), (2, v2), (4, v4), (6, v6), (7, v7)] H (afterK [1, 2, 4, 6, 7] k) = s_ref02_Clock_Clear_b0 M.b.g M.c M.s Try.prog C (fun v1 v2 v4 v6 v7 H k => loopL M Try.prog hints C LP F.ref02_Clock_Clear 0 [(1, v1), (2, v2), (4, v4), (6, v6), (7, v7)] H k) v1 v2 v4 v6 v7 H k := by kernel_rfl

/-! (ticketline.ticketlineref02.Clock).Pass -/

noncomputable def s_ref02_Clock_Pass (mg : GT) (mc : CT) (ms : ST) (P : Program) (C : CallF) (L0 : Value → Value → Value → Value → Value → AHeap → K → Res) (a0 : Value) (a1 : Value) (H : AHeap) (K0 : K) : Res :=
bothK (newv T.ref02_Clock a0 H) fun t2 h1 =>
bothK (newv T.ref02_Clock (.agg #[(.int .i64 0), (.slice none 0 0)]) h1) fun t4 h2 =>
bareK (xbin P .lss T.int (.tmp 10) (.const (.int .i64 0)) a1 (.int .i64 0)) h2 fun t11 h3 =>
mc t11 (fun k1 => bareK (ldN 2 h3 t2) h3 fun t12 h4 =>
quietK (stN 2 h4 t4 t12) fun _ h5 =>
k1 .ret [(4, t4), (5, (.slice none 0 0)), (6, (.int .i64 2))] h5) (fun k1 =>
k1 .normal [(1, a1), (2, t2), (4, t4)] h3) (seqK (fun tT h6 =>
bareK (fad 0 (get tT 2)) h6 fun t13 h7 =>
bareK (ld1 h7 t13) h7 fun t14 h8 =>
enterK C F.ref02_Due [t14, (get tT 1)] h8 fun t16 h9 =>
bareK (bldS #[(.int .i64 0), (.slice none 0 0)] [(0, 1), (1, 1)] [(0, t16)]) h9 fun t17 h10 =>
bothK (newv T.ref02_Clock (.agg #[(.int .i64 0), (.slice none 0 0)]) h10) fun t7 h11 =>
quietK (stN 2 h11 t7 t17) fun _ h12 =>
ms (fun k2 =>
L0 (get tT 2) (get tT 4) t7 (.slice none 0 0) (.int .i64 0) h12 (blkK [4, 7, 8] 0 k2)) (seqK (fun tT_1 h13 =>
bareK (ldN 2 h13 (get tT_1 7)) h13 fun t61 h14 =>
quietK (stN 2 h14 (get tT_1 4) t61) fun _ h15 =>
K0 .ret [(4, (get tT_1 4)), (5, (get tT_1 8)), (6, (.int .i64 0))] h15) K0)) K0)

noncomputable def s_ref02_Clock_Pass_b0 (mg : GT) (mc : CT) (ms : ST) (P : Program) (C : CallF) (L0 : Value → Value → Value → Value → Value → AHeap → K → Res) (v2 : Value) (v4 : Value) (v7 : Value) (v8 : Value) (v9 : Value) (H : AHeap) (k : K) : Res :=
bareK (fad 1 v2) H fun t19 h13 =>
bareK (ld1 h13 t19) h13 fun t20 h14 =>
bareK (lenS t20) h14 fun t21 h15 =>
bareK (xbin P .lss T.int (.tmp 18) (.tmp 21) v9 t21) h15 fun t22 h16 =>
mc t22 (fun k3 => k3 .normal [(2, v2), (4, v4), (7, v7), (8, v8), (9, v9)] h16) (fun k3 =>
k3 (.exit 0) [(22, t22), (21, t21), (20, t20), (19, t19), (18, v9), (2, v2), (4, v4), (7, v7), (8, v8), (9, v9)] h16) (seqK (fun tT h17 =>
ms (fun k4 =>
bareK (fad 1 (get tT 2)) h17 fun t25 h18 =>
bareK (ld1 h18 t25) h18 fun t26 h19 =>
bareK (ixS 2 t26 (get tT 9)) h19 fun t28 h20 =>
bareK (fad 1 t28) h20 fun t29 h21 =>
bareK (ld1 h21 t29) h21 fun t30 h22 =>
bareK (fad 0 (get tT 7)) h22 fun t31 h23 =>
bareK (ld1 h23 t31) h23 fun t32 h24 =>
bareK (xbin P .leq T.int (.tmp 30) (.tmp 32) t30 t32) h24 fun t33 h25 =>
mg t33 true (fun o5 => bareK (fad 1 (get tT 2)) h25 o5) h25 fun t35 h26 =>
mg t33 true (fun o6 => bareK (ld1 h26 t35) h26 o6) h26 fun t36 h27 =>
mg t33 true (fun o7 => o7 (get tT 9) h27) h27 fun t37 h28 =>
mg t33 true (fun o8 => bareK (ixS 2 t36 t37) h28 o8) h28 fun t38 h29 =>
mg t33 true (fun o9 => bareK (fad 1 t38) h29 o9) h29 fun t39 h30 =>
mg t33 true (fun o10 => bareK (ld1 h30 t39) h30 o10) h30 fun t40 h31 =>
mg t33 true (fun o11 => bareK (xbin P .lss T.int (.tmp 40) (.const (.int .i64 4611686018427387904)) t40 (.int .i64 4611686018427387904)) h31 o11) h31 fun t41 h32 =>
pickK t33 t41 (.bool false) fun t42 =>
checkK true <|
mc t42 (fun k12 => bareK (fad 1 (get tT 2)) h32 fun t44 h33 =>
bareK (ld1 h33 t44) h33 fun t45 h34 =>
bareK (ixS 2 t45 (get tT 9)) h34 fun t47 h35 =>
bareK (ldN 2 h35 t47) h35 fun t48 h36 =>
bothK (bldL T.api_Alarm [(.int .i64 0), (.int .i64 0)] 1 [(0, t48)] h36) fun t49 h37 =>
bothK (app T.api_Alarm 2 16 (get tT 8) (srcS 2 t49 h37) h37) fun t50 h38 =>
k12 .normal [(2, (get tT 2)), (4, (get tT 4)), (7, (get tT 7)), (8, t50), (9, (get tT 9))] h38) (fun k12 =>
bareK (fad 1 (get tT 7)) h32 fun t51 h39 =>
bareK (ld1 h39 t51) h39 fun t52 h40 =>
bareK (fad 1 (get tT 2)) h40 fun t53 h41 =>
bareK (ld1 h41 t53) h41 fun t54 h42 =>
bareK (ixS 2 t54 (get tT 9)) h42 fun t56 h43 =>
bareK (ldN 2 h43 t56) h43 fun t57 h44 =>
bothK (bldL T.api_Alarm [(.int .i64 0), (.int .i64 0)] 1 [(0, t57)] h44) fun t58 h45 =>
bothK (app T.api_Alarm 2 16 t52 (srcS 2 t58 h45) h45) fun t59 h46 =>
bareK (fad 1 (get tT 7)) h46 fun t60 h47 =>
quietK (st1 h47 t60 t59) fun _ h48 =>
checkK true <|
k12 .normal [(2, (get tT 2)), (4, (get tT 4)), (7, (get tT 7)), (8, (get tT 8)), (9, (get tT 9))] h48) (blkK [2, 4, 7, 8, 9] 1 k4)) (seqK (fun tT_1 h49 =>
bareK (xbin P .add T.int (.tmp 23) (.const (.int .i64 1)) (get tT_1 9) (.int .i64 1)) h49 fun t24 h50 =>
k .normal [(2, (get tT_1 2)), (4, (get tT_1 4)), (7, (get tT_1 7)), (8, (get tT_1 8)), (9, t24)] h50) (afterK [2, 4, 7, 8, 9] k))) (afterK [2, 4, 7, 8, 9] k))

theorem s_ref02_Clock_Pass_eq (M : CombL) (C : CallF) (LP : LoopH) (a0 : Value) (a1 : Value) (H : AHeap) : dBodyL M Try.prog hints C LP F.ref02_Clock_Pass [a0, a1] H = s_ref02_Clock_Pass M.b.g M.c M.s Try.prog C (fun v2 v4 v7 v8 v9 H k => loopL M Try.prog hints C LP F.ref02_Clock_Pass 0 [(2, v2), (4, v4), (7, v7), (8, v8), (9, v9)] H k) a0 a1 H (endK Try.prog [.cell 4 T.ref02_Clock, .tmp 5, .tmp 6]) := by kernel_rfl

theorem s_ref02_Clock_Pass_b0_eq (M : CombL) (C : CallF) (LP : LoopH) (v2 : Value) (v4 : Value) (v7 : Value) (v8 : Value) (v9 : Value) (H : AHeap) (k : K) : bodyL M Try.prog hints C LP F.ref02_Clock_Pass 0 [(2, v2), (4, v4), (7, v7), (8, v8), (9, v9)] H (afterK [2, 4, 7, 8, 9] k) = s_ref02_Clock_Pass_b0 M.b.g M.c M.s Try.prog C (fun v2 v4 v7 v8 v9 H k => loopL M Try.prog hints C LP F.ref02_Clock_Pass 0 [(2, v2), (4, v4), (7, v7), (8, v8), (9, v9)] H k) v2 v4 v7 v8 v9 H k := by kernel_rfl

/-! (ticketline.ticketlineref02.Clock).Next -/

noncomputable def s_ref02_Clock_Next (mg : GT) (mc : CT) (ms : ST) (P : Program) (C : CallF) (a0 : Value) (H : AHeap) (K0 : K) : Res :=
bothK (newv T.ref02_Clock a0 H) fun t1 h1 =>
bareK (fad 1 t1) h1 fun t3 h2 =>
bareK (ld1 h2 t3) h2 fun t4 h3 =>
bareK (lenS t4) h3 fun t5 h4 =>
bareK (xbin P .eql T.int (.tmp 5) (.const (.int .i64 0)) t5 (.int .i64 0)) h4 fun t6 h5 =>
mc t6 (fun k1 => k1 .ret [(2, (.int .i64 4611686018427387904))] h5) (fun k1 =>
k1 .normal [(1, t1)] h5) (seqK (fun tT h6 =>
bareK (fad 1 (get tT 1)) h6 fun t7 h7 =>
bareK (ld1 h7 t7) h7 fun t8 h8 =>
bareK (ixS 2 t8 (.int .i64 0)) h8 fun t9 h9 =>
bareK (fad 1 t9) h9 fun t10 h10 =>
bareK (ld1 h10 t10) h10 fun t11 h11 =>
K0 .ret [(2, t11)] h11) K0)

theorem s_ref02_Clock_Next_eq (M : CombL) (C : CallF) (LP : LoopH) (a0 : Value) (H : AHeap) : dBodyL M Try.prog hints C LP F.ref02_Clock_Next [a0] H = s_ref02_Clock_Next M.b.g M.c M.s Try.prog C a0 H (endK Try.prog [.tmp 2]) := by kernel_rfl

/-! slices.IndexFunc[[]ticketline.clock.alarm,ticketline.clock.alarm] -/

noncomputable def s_slices_IndexFunc_alarm (mg : GT) (mc : CT) (ms : ST) (P : Program) (C : CallF) (L0 : Value → Value → Value → Value → AHeap → K → Res) (a0 : Value) (a1 : Value) (H : AHeap) (K0 : K) : Res :=
bareK (lenS a0) H fun t7 h1 =>
ms (fun k1 =>
L0 a0 a1 t7 (.int .i64 0) h1 (blkK [] 0 k1)) (seqK (fun tT h2 =>
K0 .ret [(4, (.int .i64 (-1)))] h2) K0)

noncomputable def s_slices_IndexFunc_alarm_b0 (mg : GT) (mc : CT) (ms : ST) (P : Program) (C : CallF) (L0 : Value → Value → Value → Value → AHeap → K → Res) (v0 : Value) (v1 : Value) (v7 : Value) (v8 : Value) (H : AHeap) (k : K) : Res :=
bareK (xbin P .lss T.int (.tmp 8) (.tmp 7) v8 v7) H fun t9 h2 =>
mc t9 (fun k2 => k2 .normal [(0, v0), (1, v1), (7, v7), (8, v8)] h2) (fun k2 =>
k2 (.exit 0) [(9, t9), (0, v0), (1, v1), (7, v7), (8, v8)] h2) (seqK (fun tT h3 =>
ms (fun k3 =>
bareK (ixS 2 (get tT 0) (get tT 8)) h3 fun t14 h4 =>
bareK (ldN 2 h4 t14) h4 fun t15 h5 =>
callK P C (get tT 1) [t15] h5 fun t16 h6 =>
mc t16 (fun k4 => k4 .ret [(4, (get tT 8))] h6) (fun k4 =>
k4 .normal [(0, (get tT 0)), (1, (get tT 1)), (7, (get tT 7)), (8, (get tT 8))] h6) (blkK [0, 1, 7, 8] 1 k3)) (seqK (fun tT_1 h7 =>
bareK (xbin P .add T.int (.tmp 8) (.const (.int .i64 1)) (get tT_1 8) (.int .i64 1)) h7 fun t18 h8 =>
k .normal [(0, (get tT_1 0)), (1, (get tT_1 1)), (7, (get tT_1 7)), (8, t18)] h8) (afterK [0, 1, 7, 8] k))) (afterK [0, 1, 7, 8] k))

theorem s_slices_IndexFunc_alarm_eq (M : CombL) (C : CallF) (LP : LoopH) (a0 : Value) (a1 : Value) (H : AHeap) : dBodyL M Try.prog hints C LP F.slices_IndexFunc_alarm [a0, a1] H = s_slices_IndexFunc_alarm M.b.g M.c M.s Try.prog C (fun v0 v1 v7 v8 H k => loopL M Try.prog hints C LP F.slices_IndexFunc_alarm 0 [(0, v0), (1, v1), (7, v7), (8, v8)] H k) a0 a1 H (endK Try.prog [.tmp 4]) := by kernel_rfl

theorem s_slices_IndexFunc_alarm_b0_eq (M : CombL) (C : CallF) (LP : LoopH) (v0 : Value) (v1 : Value) (v7 : Value) (v8 : Value) (H : AHeap) (k : K) : bodyL M Try.prog hints C LP F.slices_IndexFunc_alarm 0 [(0, v0), (1, v1), (7, v7), (8, v8)] H (afterK [0, 1, 7, 8] k) = s_slices_IndexFunc_alarm_b0 M.b.g M.c M.s Try.prog C (fun v0 v1 v7 v8 H k => loopL M Try.prog hints C LP F.slices_IndexFunc_alarm 0 [(0, v0), (1, v1), (7, v7), (8, v8)] H k) v0 v1 v7 v8 H k := by kernel_rfl

/-! (*ticketline.clock.Clock).find$1 -/

noncomputable def s_clock_Clock_find_1 (mg : GT) (mc : CT) (ms : ST) (P : Program) (C : CallF) (a0 : Value) (a1 : Value) (H : AHeap) (K0 : K) : Res :=
bothK (newv T.clock_alarm a0 H) fun t2 h1 =>
bareK (fad 0 t2) h1 fun t4 h2 =>
bareK (ld1 h2 t4) h2 fun t5 h3 =>
bareK (ld1 h3 a1) h3 fun t6 h4 =>
bareK (xbin P .eql T.int (.tmp 5) (.tmp 6) t5 t6) h4 fun t7 h5 =>
K0 .ret [(3, t7)] h5

theorem s_clock_Clock_find_1_eq (M : CombL) (C : CallF) (LP : LoopH) (a0 : Value) (a1 : Value) (H : AHeap) : dBodyL M Try.prog hints C LP F.clock_Clock_find_1 [a0, a1] H = s_clock_Clock_find_1 M.b.g M.c M.s Try.prog C a0 a1 H (endK Try.prog [.tmp 3]) := by kernel_rfl

/-! cmp.Or[int] -/

noncomputable def s_cmp_Or_int (mg : GT) (mc : CT) (ms : ST) (P : Program) (C : CallF) (L0 : Value → Value → Value → Value → AHeap → K → Res) (a0 : Value) (H : AHeap) (K0 : K) : Res :=
bareK (lenS a0) H fun t7 h1 =>
ms (fun k1 =>
L0 (.int .i64 0) a0 t7 (.int .i64 0) h1 (blkK [3] 0 k1)) (seqK (fun tT h2 =>
K0 .ret [(2, (get tT 3))] h2) K0)

noncomputable def s_cmp_Or_int_b0 (mg : GT) (mc : CT) (ms : ST) (P : Program) (C : CallF) (L0 : Value → Value → Value → Value → AHeap → K → Res) (v3 : Value) (v6 : Value) (v7 : Value) (v8 : Value) (H : AHeap) (k : K) : Res :=
bareK (xbin P .lss T.int (.tmp 8) (.tmp 7) v8 v7) H fun t9 h2 =>
mc t9 (fun k2 => k2 .normal [(3, v3), (6, v6), (7, v7), (8, v8)] h2) (fun k2 =>
k2 (.exit 0) [(9, t9), (3, v3), (6, v6), (7, v7), (8, v8)] h2) (seqK (fun tT h3 =>
ms (fun k3 =>
bareK (ixS 1 (get tT 6) (get tT 8)) h3 fun t10 h4 =>
bareK (ld1 h4 t10) h4 fun t11 h5 =>
bareK (xbin P .neq T.int (.tmp 12) (.tmp 13) t11 (get tT 3)) h5 fun t14 h6 =>
mc t14 (fun k4 => k4 .ret [(2, t11)] h6) (fun k4 =>
k4 .normal [(3, (get tT 3)), (6, (get tT 6)), (7, (get tT 7)), (8, (get tT 8))] h6) (blkK [3, 6, 7, 8] 1 k3)) (seqK (fun tT_1 h7 =>
bareK (xbin P .add T.int (.tmp 8) (.const (.int .i64 1)) (get tT_1 8) (.int .i64 1)) h7 fun t16 h8 =>
k .normal [(3, (get tT_1 3)), (6, (get tT_1 6)), (7, (get tT_1 7)), (8, t16)] h8) (afterK [3, 6, 7, 8] k))) (afterK [3, 6, 7, 8] k))

theorem s_cmp_Or_int_eq (M : CombL) (C : CallF) (LP : LoopH) (a0 : Value) (H : AHeap) : dBodyL M Try.prog hints C LP F.cmp_Or_int [a0] H = s_cmp_Or_int M.b.g M.c M.s Try.prog C (fun v3 v6 v7 v8 H k => loopL M Try.prog hints C LP F.cmp_Or_int 0 [(3, v3), (6, v6), (7, v7), (8, v8)] H k) a0 H (endK Try.prog [.tmp 2]) := by kernel_rfl

theorem s_cmp_Or_int_b0_eq (M : CombL) (C : CallF) (LP : LoopH) (v3 : Value) (v6 : Value) (v7 : Value) (v8 : Value) (H : AHeap) (k : K) : bodyL M Try.prog hints C LP F.cmp_Or_int 0 [(3, v3), (6, v6), (7, v7), (8, v8)] H (afterK [3, 6, 7, 8] k) = s_cmp_Or_int_b0 M.b.g M.c M.s Try.prog C (fun v3 v6 v7 v8 H k => loopL M Try.prog hints C LP F.cmp_Or_int 0 [(3, v3), (6, v6), (7, v7), (8, v8)] H k) v3 v6 v7 v8 H k := by kernel_rfl

/-! cmp.Compare[int] -/

noncomputable def s_cmp_Compare_int (mg : GT) (mc : CT) (ms : ST) (P : Program) (C : CallF) (a0 : Value) (a1 : Value) (H : AHeap) (K0 : K) : Res :=
enterK C F.cmp_isNaN_int [a0] H fun t8 h1 =>
enterK C F.cmp_isNaN_int [a1] h1 fun t10 h2 =>
mc t8 (fun k1 => mc t10 (fun k2 => k2 .ret [(4, (.int .i64 0))] h2) (fun k2 =>
k2 .normal [] h2) (seqK (fun tT h3 =>
k1 .ret [(4, (.int .i64 (-1)))] h3) (afterK [0, 1, 6] k1))) (fun k1 =>
k1 .normal [(0, a0), (1, a1), (6, t10)] h2) (seqK (fun tT_1 h4 =>
mc (get tT_1 6) (fun k3 => k3 .ret [(4, (.int .i64 1))] h4) (fun k3 =>
k3 .normal [(0, (get tT_1 0)), (1, (get tT_1 1))] h4) (seqK (fun tT_2 h5 =>
bareK (xbin P .lss T.int (.tmp 14) (.tmp 15) (get tT_2 0) (get tT_2 1)) h5 fun t16 h6 =>
mc t16 (fun k4 => k4 .ret [(4, (.int .i64 (-1)))] h6) (fun k4 =>
k4 .normal [(0, (get tT_2 0)), (1, (get tT_2 1))] h6) (seqK (fun tT_3 h7 =>
bareK (xbin P .gtr T.int (.tmp 17) (.tmp 18) (get tT_3 0) (get tT_3 1)) h7 fun t19 h8 =>
mc t19 (fun k5 => k5 .ret [(4, (.int .i64 1))] h8) (fun k5 =>
k5 .normal [] h8) (seqK (fun tT_4 h9 =>
K0 .ret [(4, (.int .i64 0))] h9) K0)) K0)) K0)) K0)

theorem s_cmp_Compare_int_eq (M : CombL) (C : CallF) (LP : LoopH) (a0 : Value) (a1 : Value) (H : AHeap) : dBodyL M Try.prog hints C LP F.cmp_Compare_int [a0, a1] H = s_cmp_Compare_int M.b.g M.c M.s Try.prog C a0 a1 H (endK Try.prog [.tmp 4]) := by kernel_rfl

/-! slices.rotateRight[ticketline.clock.alarm] -/

noncomputable def s_slices_rotateRight_alarm (mg : GT) (mc : CT) (ms : ST) (P : Program) (C : CallF) (a0 : Value) (a1 : Value) (H : AHeap) (K0 : K) : Res :=
bareK (lenS a0) H fun t6 h1 =>
bareK (xbin P .sub T.int (.tmp 6) (.tmp 7) t6 a1) h1 fun t8 h2 =>
enterK C F.slices_rotateLeft_alarm [a0, t8] h2 fun t9 h3 =>
K0 .normal [(9, t9), (8, t8), (7, a1), (6, t6), (5, a0), (4, a0), (0, a0), (1, a1)] h3

theorem s_slices_rotateRight_alarm_eq (M : CombL) (C : CallF) (LP : LoopH) (a0 : Value) (a1 : Value) (H : AHeap) : dBodyL M Try.prog hints C LP F.slices_rotateRight_alarm [a0, a1] H = s_slices_rotateRight_alarm M.b.g M.c M.s Try.prog C a0 a1 H (endK Try.prog []) := by kernel_rfl

/-! (ticketline.ticketlineref02.Clock).has -/

noncomputable def s_ref02_Clock_has (mg : GT) (mc : CT) (ms : ST) (P : Program) (C : CallF) (L0 : Value → Value → Value → AHeap → K → Res) (a0 : Value) (a1 : Value) (H : AHeap) (K0 : K) : Res :=
bothK (newv T.ref02_Clock a0 H) fun t2 h1 =>
ms (fun k1 =>
L0 a1 t2 (.int .i64 0) h1 (blkK [] 0 k1)) (seqK (fun tT h2 =>
K0 .ret [(4, (.bool false))] h2) K0)

noncomputable def s_ref02_Clock_has_b0 (mg : GT) (mc : CT) (ms : ST) (P : Program) (C : CallF) (L0 : Value → Value → Value → AHeap → K → Res) (v1 : Value) (v2 : Value) (v5 : Value) (H : AHeap) (k : K) : Res :=
bareK (fad 1 v2) H fun t7 h2 =>
bareK (ld1 h2 t7) h2 fun t8 h3 =>
bareK (lenS t8) h3 fun t9 h4 =>
bareK (xbin P .lss T.int (.tmp 6) (.tmp 9) v5 t9) h4 fun t10 h5 =>
mc t10 (fun k2 => k2 .normal [(1, v1), (2, v2), (5, v5)] h5) (fun k2 =>
k2 (.exit 0) [(10, t10), (9, t9), (8, t8), (7, t7), (6, v5), (1, v1), (2, v2), (5, v5)] h5) (seqK (fun tT h6 =>
ms (fun k3 =>
bareK (fad 1 (get tT 2)) h6 fun t13 h7 =>
bareK (ld1 h7 t13) h7 fun t14 h8 =>
bareK (ixS 2 t14 (get tT 5)) h8 fun t16 h9 =>
bareK (fad 0 t16) h9 fun t17 h10 =>
bareK (ld1 h10 t17) h10 fun t18 h11 =>
bareK (xbin P .eql T.int (.tmp 18) (.tmp 19) t18 (get tT 1)) h11 fun t20 h12 =>
mc t20 (fun k4 => k4 .ret [(4, (.bool true))] h12) (fun k4 =>
k4 .normal [(1, (get tT 1)), (2, (get tT 2)), (5, (get tT 5))] h12) (blkK [1, 2, 5] 1 k3)) (seqK (fun tT_1 h13 =>
bareK (xbin P .add T.int (.tmp 11) (.const (.int .i64 1)) (get tT_1 5) (.int .i64 1)) h13 fun t12 h14 =>
k .normal [(1, (get tT_1 1)), (2, (get tT_1 2)), (5, t12)] h14) (afterK [1, 2, 5] k))) (afterK [1, 2, 5] k))

theorem s_ref02_Clock_has_eq (M : CombL) (C : CallF) (LP : LoopH) (a0 : Value) (a1 : Value) (H : AHeap) : dBodyL M Try.prog hints C LP F.ref02_Clock_has [a0, a1] H = s_ref02_Clock_has M.b.g M.c M.s Try.prog C (fun v1 v2 v5 H k => loopL M Try.prog hints C LP F.ref02_Clock_has 0 [(1, v1), (2, v2), (5, v5)] H k) a0 a1 H (endK Try.prog [.tmp 4]) := by kernel_rfl

theorem s_ref02_Clock_has_b0_eq (M : CombL) (C : CallF) (LP : LoopH) (v1 : Value) (v2 : Value) (v5 : Value) (H : AHeap) (k : K) : bodyL M Try.prog hints C LP F.ref02_Clock_has 0 [(1, v1), (2, v2), (5, v5)] H (afterK [1, 2, 5] k) = s_ref02_Clock_has_b0 M.b.g M.c M.s Try.prog C (fun v1 v2 v5 H k => loopL M Try.prog hints C LP F.ref02_Clock_has 0 [(1, v1), (2, v2), (5, v5)] H k) v1 v2 v5 H k := by kernel_rfl

/-! cmp.isNaN[int] -/

noncomputable def s_cmp_isNaN_int (mg : GT) (mc : CT) (ms : ST) (P : Program) (C : CallF) (a0 : Value) (H : AHeap) (K0 : K) : Res :=
bareK (xbin P .neq T.int (.tmp 3) (.tmp 4) a0 a0) H fun t5 h1 =>
K0 .ret [(2, t5)] h1

theorem s_cmp_isNaN_int_eq (M : CombL) (C : CallF) (LP : LoopH) (a0 : Value) (H : AHeap) : dBodyL M Try.prog hints C LP F.cmp_isNaN_int [a0] H = s_cmp_isNaN_int M.b.g M.c M.s Try.prog C a0 H (endK Try.prog [.tmp 2]) := by kernel_rfl

/-! slices.rotateLeft[ticketline.clock.alarm] -/

noncomputable def s_slices_rotateLeft_alarm (mg : GT) (mc : CT) (ms : ST) (P : Program) (C : CallF) (a0 : Value) (a1 : Value) (H : AHeap) (K0 : K) : Res :=
bareK (slS T.clock_alarm 2 a0 none (some a1) none H) H fun t6 h1 =>
enterK C F.slices_Reverse_alarm [t6] h1 fun t7 h2 =>
bareK (slS T.clock_alarm 2 a0 (some a1) none none h2) h2 fun t10 h3 =>
enterK C F.slices_Reverse_alarm [t10] h3 fun t11 h4 =>
enterK C F.slices_Reverse_alarm [a0] h4 fun t13 h5 =>
K0 .normal [(13, t13), (12, a0), (11, t11), (10, t10), (9, a1), (8, a0), (7, t7), (6, t6), (5, a1), (4, a0), (0, a0), (1, a1)] h5

theorem s_slices_rotateLeft_alarm_eq (M : CombL) (C : CallF) (LP : LoopH) (a0 : Value) (a1 : Value) (H : AHeap) : dBodyL M Try.prog hints C LP F.slices_rotateLeft_alarm [a0, a1] H = s_slices_rotateLeft_alarm M.b.g M.c M.s Try.prog C a0 a1 H (endK Try.prog []) := by kernel_rfl

/-! slices.Reverse[[]ticketline.clock.alarm,ticketline.clock.alarm] -/

noncomputable def s_slices_Reverse_alarm (mg : GT) (mc : CT) (ms : ST) (P : Program) (C : CallF) (L0 : Value → Value → Value → AHeap → K → Res) (a0 : Value) (H : AHeap) (K0 : K) : Res :=
bareK (lenS a0) H fun t5 h1 =>
bareK (xbin P .sub T.int (.tmp 5) (.const (.int .i64 1)) t5 (.int .i64 1)) h1 fun t6 h2 =>
ms (fun k1 =>
L0 a0 (.int .i64 0) t6 h2 (blkK [] 0 k1)) K0

noncomputable def s_slices_Reverse_alarm_b0 (mg : GT) (mc : CT) (ms : ST) (P : Program) (C : CallF) (L0 : Value → Value → Value → AHeap → K → Res) (v0 : Value) (v2 : Value) (v3 : Value) (H : AHeap) (k : K) : Res :=
bareK (xbin P .lss T.int (.tmp 7) (.tmp 8) v2 v3) H fun t9 h3 =>
mc t9 (fun k2 => k2 .normal [(0, v0), (2, v2), (3, v3)] h3) (fun k2 =>
k2 (.exit 0) [(9, t9), (8, v3), (7, v2), (0, v0), (2, v2), (3, v3)] h3) (seqK (fun tT h4 =>
ms (fun k3 =>
bareK (ixS 2 (get tT 0) (get tT 3)) h4 fun t20 h5 =>
bareK (ldN 2 h5 t20) h5 fun t21 h6 =>
bareK (ixS 2 (get tT 0) (get tT 2)) h6 fun t24 h7 =>
bareK (ldN 2 h7 t24) h7 fun t25 h8 =>
bareK (ixS 2 (get tT 0) (get tT 2)) h8 fun t26 h9 =>
quietK (stN 2 h9 t26 t21) fun _ h10 =>
bareK (ixS 2 (get tT 0) (get tT 3)) h10 fun t27 h11 =>
quietK (stN 2 h11 t27 t25) fun _ h12 =>
checkK (okV (some true) none h9 h10 h4 h4 && (okV (some true) none h9 h10 h4 h4 && true)) <|
k3 .normal [(0, (get tT 0)), (2, (get tT 2)), (3, (get tT 3))] h12) (seqK (fun tT_1 h13 =>
bareK (xbin P .add T.int (.tmp 10) (.const (.int .i64 1)) (get tT_1 2) (.int .i64 1)) h13 fun t11 h14 =>
bareK (xbin P .sub T.int (.tmp 12) (.const (.int .i64 1)) (get tT_1 3) (.int .i64 1)) h14 fun t13 h15 =>
k .normal [(0, (get tT_1 0)), (2, t11), (3, t13)] h15) (afterK [0, 2, 3] k))) (afterK [0, 2, 3] k))

theorem s_slices_Reverse_alarm_eq (M : CombL) (C : CallF) (LP : LoopH) (a0 : Value) (H : AHeap) : dBodyL M Try.prog hints C LP F.slices_Reverse_alarm [a0] H = s_slices_Reverse_alarm M.b.g M.c M.s Try.prog C (fun v0 v2 v3 H k => loopL M Try.prog hints C LP F.slices_Reverse_alarm 0 [(0, v0), (2, v2), (3, v3)] H k) a0 H (endK Try.prog []) := by kernel_rfl

theorem s_slices_Reverse_alarm_b0_eq (M : CombL) (C : CallF) (LP : LoopH) (v0 : Value) (v2 : Value) (v3 : Value) (H : AHeap) (k : K) : bodyL M Try.prog hints C LP F.slices_Reverse_alarm 0 [(0, v0), (2, v2), (3, v3)] H (afterK [0, 2, 3] k) = s_slices_Reverse_alarm_b0 M.b.g M.c M.s Try.prog C (fun v0 v2 v3 H k => loopL M Try.prog hints C LP F.slices_Reverse_alarm 0 [(0, v0), (2, v2), (3, v3)] H k) v0 v2 v3 H k := by kernel_rfl

end Go.Proofs.Ytldgonjihhndgaa
