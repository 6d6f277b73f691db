/-
  12 texts in one (merge.py): Sh Eng19 Eng20 Known Ds Eng23 A B Eng24 C Eng25 D.
  Conditions: none. By an AI agent.
-/
import Derived.Test.YtldgonjihhndgaaLawClockPlaysQ2
import Derived.Test.YtldgonjihhndgaaChecked
import Derived.KernelRfl

/-
  The seat's functions as terms over the engine's combinators (a program of ours printed it).
  Conditions: none. By an AI agent.
-/
set_option linter.unusedVariables false
namespace Go.Proofs.Ytldgonjihhndgaa
open Go Eng

/-! ticketline.clock.Passed -/

noncomputable def s_clock_Passed (mg : GT) (mc : CT) (ms : ST) (P : Program) (C : CallF) (a0 : Value) (a1 : Value) (H : AHeap) (K0 : K) : Res :=
bareK (xbin P .lss T.int (.tmp 5) (.const (.int .i64 4611686018427387904)) a0 (.int .i64 4611686018427387904)) H fun t6 h1 =>
mg t6 true (fun o1 => o1 a1 h1) h1 fun t8 h2 =>
mg t6 true (fun o2 => o2 a0 h2) h2 fun t9 h3 =>
mg t6 true (fun o3 => bareK (xbin P .gtr T.int (.tmp 8) (.tmp 9) t8 t9) h3 o3) h3 fun t10 h4 =>
pickK t6 t10 (.bool false) fun t11 =>
K0 .ret [(4, t11)] h4

theorem s_clock_Passed_eq (M : CombL) (C : CallF) (LP : LoopH) (a0 : Value) (a1 : Value) (H : AHeap) : dBodyL M Try.prog hints C LP F.clock_Passed [a0, a1] H = s_clock_Passed M.b.g M.c M.s Try.prog C a0 a1 H (endK Try.prog [.tmp 4]) := by kernel_rfl

/-! ticketline.ticketlineref02.Tick -/

noncomputable def s_ref02_Tick (mg : GT) (mc : CT) (ms : ST) (P : Program) (C : CallF) (a0 : Value) (H : AHeap) (K0 : K) : Res :=
bareK (xbin P .geq T.int (.tmp 3) (.const (.int .i64 0)) a0 (.int .i64 0)) H fun t4 h1 =>
mg t4 true (fun o1 => o1 a0 h1) h1 fun t6 h2 =>
mg t4 true (fun o2 => bareK (xbin P .leq T.int (.tmp 6) (.const (.int .i64 4611686018427387904)) t6 (.int .i64 4611686018427387904)) h2 o2) h2 fun t7 h3 =>
pickK t4 t7 (.bool false) fun t8 =>
K0 .ret [(2, t8)] h3

theorem s_ref02_Tick_eq (M : CombL) (C : CallF) (LP : LoopH) (a0 : Value) (H : AHeap) : dBodyL M Try.prog hints C LP F.ref02_Tick [a0] H = s_ref02_Tick M.b.g M.c M.s Try.prog C a0 H (endK Try.prog [.tmp 2]) := by kernel_rfl

/-! ticketline.ticketlinelaw02.due -/

noncomputable def s_law_due (mg : GT) (mc : CT) (ms : ST) (P : Program) (C : CallF) (a0 : Value) (a1 : Value) (a2 : Value) (a3 : Value) (H : AHeap) (K0 : K) : Res :=
enterK C F.clock_Due [a0, a1] H fun t14 h1 =>
bareK (xextract t14 0) h1 fun t15 h2 =>
bareK (xextract t14 1) h2 fun t16 h3 =>
bareK (xbin P .eql T.int (.tmp 17) (.tmp 18) t15 a2) h3 fun t19 h4 =>
mg t19 true (fun o1 => o1 t16 h4) h4 fun t21 h5 =>
mg t19 true (fun o2 => o2 a3 h5) h5 fun t22 h6 =>
mg t19 true (fun o3 => bareK (xbin P .eql T.api_Errno (.tmp 21) (.tmp 22) t21 t22) h6 o3) h6 fun t23 h7 =>
pickK t19 t23 (.bool false) fun t24 =>
K0 .ret [(8, t24)] h7

theorem s_law_due_eq (M : CombL) (C : CallF) (LP : LoopH) (a0 : Value) (a1 : Value) (a2 : Value) (a3 : Value) (H : AHeap) : dBodyL M Try.prog hints C LP F.law_due [a0, a1, a2, a3] H = s_law_due M.b.g M.c M.s Try.prog C a0 a1 a2 a3 H (endK Try.prog [.tmp 8]) := by kernel_rfl

/-! ticketline.ticketlineref02.Due -/

noncomputable def s_ref02_Due (mg : GT) (mc : CT) (ms : ST) (P : Program) (C : CallF) (a0 : Value) (a1 : Value) (H : AHeap) (K0 : K) : Res :=
bareK (xbin P .sub T.int (.const (.int .i64 4611686018427387904)) (.tmp 6) (.int .i64 4611686018427387904) a0) H fun t7 h1 =>
bareK (xbin P .gtr T.int (.tmp 5) (.tmp 7) a1 t7) h1 fun t8 h2 =>
mc t8 (fun k1 => k1 .ret [(4, (.int .i64 4611686018427387904))] h2) (fun k1 =>
k1 .normal [(0, a0), (1, a1)] h2) (seqK (fun tT h3 =>
bareK (xbin P .add T.int (.tmp 9) (.tmp 10) (get tT 0) (get tT 1)) h3 fun t11 h4 =>
K0 .ret [(4, t11)] h4) K0)

theorem s_ref02_Due_eq (M : CombL) (C : CallF) (LP : LoopH) (a0 : Value) (a1 : Value) (H : AHeap) : dBodyL M Try.prog hints C LP F.ref02_Due [a0, a1] H = s_ref02_Due M.b.g M.c M.s Try.prog C a0 a1 H (endK Try.prog [.tmp 4]) := by kernel_rfl

/-! ticketline.clock.New -/

noncomputable def s_clock_New (mg : GT) (mc : CT) (ms : ST) (P : Program) (C : CallF) (a0 : Value) (H : AHeap) (K0 : K) : Res :=
enterK C F.clock_tick [a0] H fun t5 h1 =>
bareK (xun P .not t5) h1 fun t6 h2 =>
mc t6 (fun k1 => k1 .ret [(2, (.pointer none)), (3, (.int .i64 2))] h2) (fun k1 =>
k1 .normal [(0, a0)] h2) (seqK (fun tT h3 =>
bareK (bldS #[(.bool false), (.int .i64 0), (.slice none 0 0)] [(0, 1), (1, 1), (2, 1)] [(0, (.bool true)), (1, (get tT 0))]) h3 fun t8 h4 =>
bothK (newv T.clock_Clock t8 h4) fun t9 h5 =>
K0 .ret [(2, t9), (3, (.int .i64 0))] h5) K0)

theorem s_clock_New_eq (M : CombL) (C : CallF) (LP : LoopH) (a0 : Value) (H : AHeap) : dBodyL M Try.prog hints C LP F.clock_New [a0] H = s_clock_New M.b.g M.c M.s Try.prog C a0 H (endK Try.prog [.tmp 2, .tmp 3]) := by kernel_rfl

/-! (*ticketline.clock.Clock).Set -/

noncomputable def s_clock_Clock_Set (mg : GT) (mc : CT) (ms : ST) (P : Program) (C : CallF) (a0 : Value) (a1 : Value) (a2 : Value) (H : AHeap) (K0 : K) : Res :=
ms (fun k1 =>
enterK C F.clock_Clock_zero [a0] H fun t12 h1 =>
mc t12 (fun k2 => k2 .ret [(6, (.int .i64 1))] h1) (fun k2 =>
bareK (xbin P .lss T.int (.tmp 14) (.const (.int .i64 0)) a1 (.int .i64 0)) h1 fun t15 h2 =>
mg t15 false (fun o3 => o3 a2 h2) h2 fun t17 h3 =>
mg t15 false (fun o4 => enterK C F.clock_tick [t17] h3 o4) h3 fun t18 h4 =>
mg t15 false (fun o5 => bareK (xun P .not t18) h4 o5) h4 fun t19 h5 =>
pickK t15 (.bool true) t19 fun t20 =>
mc t20 (fun k6 => k6 .ret [(6, (.int .i64 2))] h5) (fun k6 =>
enterK C F.clock_Clock_find [a0, a1] h5 fun t24 h6 =>
bareK (xbin P .geq T.int (.tmp 24) (.const (.int .i64 0)) t24 (.int .i64 0)) h6 fun t25 h7 =>
mc t25 (fun k7 => k7 .ret [(6, (.int .i64 11))] h7) (fun k7 =>
bareK (xnilCheck a0) h7 fun t28 h8 =>
bareK (fad 2 t28) h8 fun t29 h9 =>
bareK (ld1 h9 t29) h9 fun t30 h10 =>
bareK (lenS t30) h10 fun t31 h11 =>
bareK (xbin P .geq T.int (.tmp 31) (.const (.int .i64 4096)) t31 (.int .i64 4096)) h11 fun t32 h12 =>
mc t32 (fun k8 => k8 .ret [(6, (.int .i64 7))] h12) (fun k8 =>
k8 .normal [(0, a0), (1, a1), (2, a2)] h12) (afterK [0, 1, 2] k7)) (afterK [0, 1, 2] k6)) (afterK [0, 1, 2] k2)) (blkK [0, 1, 2] 0 k1)) (seqK (fun tT h13 =>
bareK (bldS #[(.int .i64 0), (.int .i64 0)] [(0, 1), (1, 1)] [(0, (get tT 1)), (1, (get tT 2))]) h13 fun t35 h14 =>
bothK (newv T.clock_alarm (.agg #[(.int .i64 0), (.int .i64 0)]) h14) fun t7 h15 =>
quietK (stN 2 h15 t7 t35) fun _ h16 =>
bareK (xnilCheck (get tT 0)) h16 fun t38 h17 =>
bareK (fad 2 t38) h17 fun t39 h18 =>
bareK (ld1 h18 t39) h18 fun t40 h19 =>
bareK (ldN 2 h19 t7) h19 fun t41 h20 =>
enterK C F.slices_BinarySearchFunc_alarm [t40, t41, (.func (.func F.clock_alarm_compare) #[] #[])] h20 fun t42 h21 =>
bareK (xextract t42 0) h21 fun t43 h22 =>
bareK (xextract t42 1) h22 fun t44 h23 =>
checkK true <|
bareK (xnilCheck (get tT 0)) h23 fun t47 h24 =>
bareK (fad 2 t47) h24 fun t48 h25 =>
bareK (ld1 h25 t48) h25 fun t49 h26 =>
enterK C F.slices_Clone_alarm [t49] h26 fun t50 h27 =>
bareK (ldN 2 h27 t7) h27 fun t52 h28 =>
bothK (bldL T.clock_alarm [(.int .i64 0), (.int .i64 0)] 1 [(0, t52)] h28) fun t53 h29 =>
enterK C F.slices_Insert_alarm [t50, t43, t53] h29 fun t54 h30 =>
bareK (xnilCheck (get tT 0)) h30 fun t55 h31 =>
bareK (fad 2 t55) h31 fun t56 h32 =>
quietK (st1 h32 t56 t54) fun _ h33 =>
checkK (okV (some true) none h26 h27 h23 h23 && (okV (some true) none h26 h27 h27 h27 && (okV (some true) (blockOf t7) h26 h27 h27 h28 && (okV (some true) none h26 h27 h28 h29 && (okV (some true) none h29 h30 h23 h23 && true))))) <|
K0 .ret [(6, (.int .i64 0))] h33) K0)

theorem s_clock_Clock_Set_eq (M : CombL) (C : CallF) (LP : LoopH) (a0 : Value) (a1 : Value) (a2 : Value) (H : AHeap) : dBodyL M Try.prog hints C LP F.clock_Clock_Set [a0, a1, a2] H = s_clock_Clock_Set M.b.g M.c M.s Try.prog C a0 a1 a2 H (endK Try.prog [.tmp 6]) := by kernel_rfl

/-! (*ticketline.clock.Clock).Clear -/

noncomputable def s_clock_Clock_Clear (mg : GT) (mc : CT) (ms : ST) (P : Program) (C : CallF) (a0 : Value) (a1 : Value) (H : AHeap) (K0 : K) : Res :=
enterK C F.clock_Clock_zero [a0] H fun t7 h1 =>
mc t7 (fun k1 => k1 .ret [(4, (.int .i64 1))] h1) (fun k1 =>
k1 .normal [(0, a0), (1, a1)] h1) (seqK (fun tT h2 =>
enterK C F.clock_Clock_find [(get tT 0), (get tT 1)] h2 fun t10 h3 =>
bareK (xbin P .lss T.int (.tmp 11) (.const (.int .i64 0)) t10 (.int .i64 0)) h3 fun t12 h4 =>
mc t12 (fun k2 => k2 .ret [(4, (.int .i64 9))] h4) (fun k2 =>
k2 .normal [(0, (get tT 0)), (5, t10)] h4) (seqK (fun tT_1 h5 =>
bareK (xnilCheck (get tT_1 0)) h5 fun t15 h6 =>
bareK (fad 2 t15) h6 fun t16 h7 =>
bareK (ld1 h7 t16) h7 fun t17 h8 =>
enterK C F.slices_Clone_alarm [t17] h8 fun t18 h9 =>
bareK (xbin P .add T.int (.tmp 20) (.const (.int .i64 1)) (get tT_1 5) (.int .i64 1)) h9 fun t21 h10 =>
enterK C F.slices_Delete_alarm [t18, (get tT_1 5), t21] h10 fun t22 h11 =>
bareK (xnilCheck (get tT_1 0)) h11 fun t23 h12 =>
bareK (fad 2 t23) h12 fun t24 h13 =>
quietK (st1 h13 t24 t22) fun _ h14 =>
K0 .ret [(4, (.int .i64 0))] h14) K0)) K0)

theorem s_clock_Clock_Clear_eq (M : CombL) (C : CallF) (LP : LoopH) (a0 : Value) (a1 : Value) (H : AHeap) : dBodyL M Try.prog hints C LP F.clock_Clock_Clear [a0, a1] H = s_clock_Clock_Clear M.b.g M.c M.s Try.prog C a0 a1 H (endK Try.prog [.tmp 4]) := by kernel_rfl

/-! (*ticketline.clock.Clock).Next -/

noncomputable def s_clock_Clock_Next (mg : GT) (mc : CT) (ms : ST) (P : Program) (C : CallF) (a0 : Value) (H : AHeap) (K0 : K) : Res :=
ms (fun k1 =>
enterK C F.clock_Clock_zero [a0] H fun t5 h1 =>
mc t5 (fun k2 => k2 .ret [(2, (.int .i64 0))] h1) (fun k2 =>
bareK (xnilCheck a0) h1 fun t8 h2 =>
bareK (fad 2 t8) h2 fun t9 h3 =>
bareK (ld1 h3 t9) h3 fun t10 h4 =>
bareK (lenS t10) h4 fun t11 h5 =>
bareK (xbin P .eql T.int (.tmp 11) (.const (.int .i64 0)) t11 (.int .i64 0)) h5 fun t12 h6 =>
mc t12 (fun k3 => k3 .ret [(2, (.int .i64 4611686018427387904))] h6) (fun k3 =>
k3 .normal [(0, a0)] h6) (afterK [0] k2)) (blkK [0] 0 k1)) (seqK (fun tT h7 =>
bareK (xnilCheck (get tT 0)) h7 fun t14 h8 =>
bareK (fad 2 t14) h8 fun t15 h9 =>
bareK (ld1 h9 t15) h9 fun t16 h10 =>
bareK (ixS 2 t16 (.int .i64 0)) h10 fun t17 h11 =>
bareK (fad 1 t17) h11 fun t18 h12 =>
bareK (ld1 h12 t18) h12 fun t19 h13 =>
K0 .ret [(2, t19)] h13) K0)

theorem s_clock_Clock_Next_eq (M : CombL) (C : CallF) (LP : LoopH) (a0 : Value) (H : AHeap) : dBodyL M Try.prog hints C LP F.clock_Clock_Next [a0] H = s_clock_Clock_Next M.b.g M.c M.s Try.prog C a0 H (endK Try.prog [.tmp 2]) := by kernel_rfl

/-! (*ticketline.clock.Clock).Tick -/

noncomputable def s_clock_Clock_Tick (mg : GT) (mc : CT) (ms : ST) (P : Program) (C : CallF) (a0 : Value) (a1 : Value) (H : AHeap) (K0 : K) : Res :=
enterK C F.clock_Clock_zero [a0] H fun t12 h1 =>
mc t12 (fun k1 => k1 .ret [(4, (.slice none 0 0)), (5, (.int .i64 1))] h1) (fun k1 =>
k1 .normal [(0, a0), (1, a1)] h1) (seqK (fun tT h2 =>
bareK (xnilCheck (get tT 0)) h2 fun t15 h3 =>
bareK (fad 1 t15) h3 fun t16 h4 =>
bareK (ld1 h4 t16) h4 fun t17 h5 =>
enterK C F.clock_Due [t17, (get tT 1)] h5 fun t19 h6 =>
bareK (xextract t19 0) h6 fun t20 h7 =>
bareK (xextract t19 1) h7 fun t21 h8 =>
bareK (xbin P .neq T.api_Errno (.tmp 22) (.const (.int .i64 0)) t21 (.int .i64 0)) h8 fun t23 h9 =>
mc t23 (fun k2 => k2 .ret [(4, (.slice none 0 0)), (5, t21)] h9) (fun k2 =>
k2 .normal [(0, (get tT 0)), (6, t20)] h9) (seqK (fun tT_1 h10 =>
bareK (xnilCheck (get tT_1 0)) h10 fun t27 h11 =>
bareK (fad 1 t27) h11 fun t28 h12 =>
quietK (st1 h12 t28 (get tT_1 6)) fun _ h13 =>
bareK (xnilCheck (get tT_1 0)) h13 fun t31 h14 =>
bareK (fad 2 t31) h14 fun t32 h15 =>
bareK (ld1 h15 t32) h15 fun t33 h16 =>
bareK (xbin P .add T.int (.tmp 34) (.const (.int .i64 1)) (get tT_1 6) (.int .i64 1)) h16 fun t35 h17 =>
nextK C h17 (xbuiltin P .min [T.int, T.int] [t35, (.int .i64 4611686018427387904)] h17) fun t36 h18 =>
bareK (bldS #[(.int .i64 0), (.int .i64 0)] [(0, 1), (1, 1)] [(0, (.int .i64 (-1))), (1, t36)]) h18 fun t37 h19 =>
enterK C F.slices_BinarySearchFunc_alarm [t33, t37, (.func (.func F.clock_alarm_compare) #[] #[])] h19 fun t38 h20 =>
bareK (xextract t38 0) h20 fun t39 h21 =>
bareK (xextract t38 1) h21 fun t40 h22 =>
bareK (xnilCheck (get tT_1 0)) h22 fun t42 h23 =>
bareK (fad 2 t42) h23 fun t43 h24 =>
bareK (ld1 h24 t43) h24 fun t44 h25 =>
bareK (slS T.clock_alarm 2 t44 none (some t39) (some t39) h25) h25 fun t47 h26 =>
bareK (xnilCheck (get tT_1 0)) h26 fun t50 h27 =>
bareK (fad 2 t50) h27 fun t51 h28 =>
bareK (ld1 h28 t51) h28 fun t52 h29 =>
bareK (slS T.clock_alarm 2 t52 (some t39) none none h29) h29 fun t54 h30 =>
bareK (xnilCheck (get tT_1 0)) h30 fun t55 h31 =>
bareK (fad 2 t55) h31 fun t56 h32 =>
quietK (st1 h32 t56 t54) fun _ h33 =>
enterK C F.clock_out [t47] h33 fun t58 h34 =>
K0 .ret [(4, t58), (5, (.int .i64 0))] h34) K0)) K0)

theorem s_clock_Clock_Tick_eq (M : CombL) (C : CallF) (LP : LoopH) (a0 : Value) (a1 : Value) (H : AHeap) : dBodyL M Try.prog hints C LP F.clock_Clock_Tick [a0, a1] H = s_clock_Clock_Tick M.b.g M.c M.s Try.prog C a0 a1 H (endK Try.prog [.tmp 4, .tmp 5]) := by kernel_rfl

/-! (*ticketline.clock.Clock).Alarms -/

noncomputable def s_clock_Clock_Alarms (mg : GT) (mc : CT) (ms : ST) (P : Program) (C : CallF) (a0 : Value) (H : AHeap) (K0 : K) : Res :=
enterK C F.clock_Clock_zero [a0] H fun t4 h1 =>
mc t4 (fun k1 => k1 .ret [(2, (.slice none 0 0))] h1) (fun k1 =>
k1 .normal [(0, a0)] h1) (seqK (fun tT h2 =>
bareK (xnilCheck (get tT 0)) h2 fun t6 h3 =>
bareK (fad 2 t6) h3 fun t7 h4 =>
bareK (ld1 h4 t7) h4 fun t8 h5 =>
enterK C F.clock_out [t8] h5 fun t9 h6 =>
K0 .ret [(2, t9)] h6) K0)

theorem s_clock_Clock_Alarms_eq (M : CombL) (C : CallF) (LP : LoopH) (a0 : Value) (H : AHeap) : dBodyL M Try.prog hints C LP F.clock_Clock_Alarms [a0] H = s_clock_Clock_Alarms M.b.g M.c M.s Try.prog C a0 H (endK Try.prog [.tmp 2]) := by kernel_rfl

/-! (*ticketline.clock.Clock).Copy -/

noncomputable def s_clock_Clock_Copy (mg : GT) (mc : CT) (ms : ST) (P : Program) (C : CallF) (a0 : Value) (H : AHeap) (K0 : K) : Res :=
enterK C F.clock_Clock_zero [a0] H fun t4 h1 =>
mc t4 (fun k1 => k1 .ret [(2, (.pointer none))] h1) (fun k1 =>
k1 .normal [(0, a0)] h1) (seqK (fun tT h2 =>
bareK (xnilCheck (get tT 0)) h2 fun t6 h3 =>
bareK (fad 1 t6) h3 fun t7 h4 =>
bareK (ld1 h4 t7) h4 fun t8 h5 =>
bareK (xnilCheck (get tT 0)) h5 fun t10 h6 =>
bareK (fad 2 t10) h6 fun t11 h7 =>
bareK (ld1 h7 t11) h7 fun t12 h8 =>
enterK C F.slices_Clone_alarm [t12] h8 fun t13 h9 =>
bareK (bldS #[(.bool false), (.int .i64 0), (.slice none 0 0)] [(0, 1), (1, 1), (2, 1)] [(0, (.bool true)), (1, t8), (2, t13)]) h9 fun t14 h10 =>
bothK (newv T.clock_Clock t14 h10) fun t15 h11 =>
checkK (okV (some true) none h8 h9 h2 h2 && (okV (some true) none h8 h9 h2 h3 && (okV (some true) none h8 h9 h3 h4 && (okV (some true) (blockOf t7) h8 h9 h4 h5 && true)))) <|
K0 .ret [(2, t15)] h11) K0)

theorem s_clock_Clock_Copy_eq (M : CombL) (C : CallF) (LP : LoopH) (a0 : Value) (H : AHeap) : dBodyL M Try.prog hints C LP F.clock_Clock_Copy [a0] H = s_clock_Clock_Copy M.b.g M.c M.s Try.prog C a0 H (endK Try.prog [.tmp 2]) := by kernel_rfl

/-! ticketline.ticketlinelaw02.acts -/

noncomputable def s_law_acts (mg : GT) (mc : CT) (ms : ST) (P : Program) (C : CallF) (a0 : Value) (a1 : Value) (a2 : Value) (H : AHeap) (K0 : K) : Res :=
bothK (newv T.ref02_Clock a1 H) fun t4 h1 =>
bothK (newv T.law_Act a2 h1) fun t5 h2 =>
bothK (newv T.ref02_Clock (.agg #[(.int .i64 0), (.slice none 0 0)]) h2) fun t6 h3 =>
bareK (fad 0 t5) h3 fun t15 h4 =>
bareK (ld1 h4 t15) h4 fun t16 h5 =>
ms (fun k1 =>
bareK (xbin P .eql T.int (.tmp 16) (.const (.int .i64 0)) t16 (.int .i64 0)) h5 fun t18 h6 =>
mc t18 (fun k2 => bareK (ldN 2 h6 t4) h6 fun t20 h7 =>
bareK (fad 1 t5) h7 fun t21 h8 =>
bareK (ld1 h8 t21) h8 fun t22 h9 =>
bareK (fad 2 t5) h9 fun t23 h10 =>
bareK (ld1 h10 t23) h10 fun t24 h11 =>
enterK C F.ref02_Clock_Set [t20, t22, t24] h11 fun t25 h12 =>
bareK (xextract t25 0) h12 fun t26 h13 =>
bareK (xextract t25 1) h13 fun t27 h14 =>
bothK (newv T.ref02_Clock (.agg #[(.int .i64 0), (.slice none 0 0)]) h14) fun t8 h15 =>
quietK (stN 2 h15 t8 t26) fun _ h16 =>
bareK (ldN 2 h16 t8) h16 fun t28 h17 =>
bareK (fad 1 t5) h17 fun t30 h18 =>
bareK (ld1 h18 t30) h18 fun t31 h19 =>
bareK (fad 2 t5) h19 fun t32 h20 =>
bareK (ld1 h20 t32) h20 fun t33 h21 =>
enterK C F.clock_Clock_Set [a0, t31, t33] h21 fun t34 h22 =>
bareK (xbin P .eql T.int (.tmp 34) (.tmp 35) t34 t27) h22 fun t36 h23 =>
quietK (stN 2 h23 t6 t28) fun _ h24 =>
checkK (okV (some true) (blockOf t8) h21 h22 h16 h17 && (okV (some true) none h21 h22 h22 h22 && (okV (some true) none h23 h24 h22 h22 && (okV (some true) none h23 h24 h22 h23 && true)))) <|
k2 .ret [(6, t6), (7, t36)] h24) (fun k2 =>
bareK (xbin P .eql T.int (.tmp 16) (.const (.int .i64 1)) t16 (.int .i64 1)) h6 fun t38 h25 =>
mc t38 (fun k3 => bareK (ldN 2 h25 t4) h25 fun t40 h26 =>
bareK (fad 1 t5) h26 fun t41 h27 =>
bareK (ld1 h27 t41) h27 fun t42 h28 =>
enterK C F.ref02_Clock_Clear [t40, t42] h28 fun t43 h29 =>
bareK (xextract t43 0) h29 fun t44 h30 =>
bareK (xextract t43 1) h30 fun t45 h31 =>
bothK (newv T.ref02_Clock (.agg #[(.int .i64 0), (.slice none 0 0)]) h31) fun t10 h32 =>
quietK (stN 2 h32 t10 t44) fun _ h33 =>
bareK (ldN 2 h33 t10) h33 fun t46 h34 =>
bareK (fad 1 t5) h34 fun t48 h35 =>
bareK (ld1 h35 t48) h35 fun t49 h36 =>
enterK C F.clock_Clock_Clear [a0, t49] h36 fun t50 h37 =>
bareK (xbin P .eql T.int (.tmp 50) (.tmp 51) t50 t45) h37 fun t52 h38 =>
quietK (stN 2 h38 t6 t46) fun _ h39 =>
checkK (okV (some true) (blockOf t10) h36 h37 h33 h34 && (okV (some true) none h36 h37 h37 h37 && (okV (some true) none h38 h39 h37 h37 && (okV (some true) none h38 h39 h37 h38 && true)))) <|
k3 .ret [(6, t6), (7, t52)] h39) (fun k3 =>
k3 .normal [(0, a0), (4, t4), (5, t5), (6, t6)] h25) (afterK [0, 4, 5, 6] k2)) (blkK [0, 4, 5, 6] 0 k1)) (seqK (fun tT h40 =>
bareK (ldN 2 h40 (get tT 4)) h40 fun t54 h41 =>
bareK (fad 1 (get tT 5)) h41 fun t55 h42 =>
bareK (ld1 h42 t55) h42 fun t56 h43 =>
enterK C F.ref02_Clock_Pass [t54, t56] h43 fun t57 h44 =>
bareK (xextract t57 0) h44 fun t58 h45 =>
bareK (xextract t57 1) h45 fun t59 h46 =>
bareK (xextract t57 2) h46 fun t60 h47 =>
bothK (newv T.ref02_Clock (.agg #[(.int .i64 0), (.slice none 0 0)]) h47) fun t12 h48 =>
quietK (stN 2 h48 t12 t58) fun _ h49 =>
bareK (ldN 2 h49 t12) h49 fun t61 h50 =>
bareK (fad 1 (get tT 5)) h50 fun t63 h51 =>
bareK (ld1 h51 t63) h51 fun t64 h52 =>
enterK C F.law_ticks [(get tT 0), t64, t60, t59] h52 fun t67 h53 =>
quietK (stN 2 h53 (get tT 6) t61) fun _ h54 =>
checkK (okV (some true) (blockOf t12) h52 h53 h49 h50 && true) <|
K0 .ret [(6, (get tT 6)), (7, t67)] h54) K0)

theorem s_law_acts_eq (M : CombL) (C : CallF) (LP : LoopH) (a0 : Value) (a1 : Value) (a2 : Value) (H : AHeap) : dBodyL M Try.prog hints C LP F.law_acts [a0, a1, a2] H = s_law_acts M.b.g M.c M.s Try.prog C a0 a1 a2 H (endK Try.prog [.cell 6 T.ref02_Clock, .tmp 7]) := by kernel_rfl

/-! ticketline.ticketlinelaw02.looks -/

noncomputable def s_law_looks (mg : GT) (mc : CT) (ms : ST) (P : Program) (C : CallF) (a0 : Value) (a1 : Value) (H : AHeap) (K0 : K) : Res :=
bothK (newv T.ref02_Clock a1 H) fun t3 h1 =>
enterK C F.clock_Clock_Now [a0] h1 fun t6 h2 =>
bareK (fad 0 t3) h2 fun t7 h3 =>
bareK (ld1 h3 t7) h3 fun t8 h4 =>
bareK (xbin P .eql T.int (.tmp 6) (.tmp 8) t6 t8) h4 fun t9 h5 =>
mg t9 true (fun o1 => o1 a0 h5) h5 fun t11 h6 =>
mg t9 true (fun o2 => enterK C F.clock_Clock_Next [t11] h6 o2) h6 fun t12 h7 =>
mg t9 true (fun o3 => bareK (ldN 2 h7 t3) h7 o3) h7 fun t13 h8 =>
mg t9 true (fun o4 => enterK C F.ref02_Clock_Next [t13] h8 o4) h8 fun t14 h9 =>
mg t9 true (fun o5 => bareK (xbin P .eql T.int (.tmp 12) (.tmp 14) t12 t14) h9 o5) h9 fun t15 h10 =>
pickK t9 t15 (.bool false) fun t16 =>
mg t16 true (fun o6 => o6 a0 h10) h10 fun t18 h11 =>
mg t16 true (fun o7 => enterK C F.clock_Clock_Alarms [t18] h11 o7) h11 fun t19 h12 =>
mg t16 true (fun o8 => bareK (fad 1 t3) h12 o8) h12 fun t20 h13 =>
mg t16 true (fun o9 => bareK (ld1 h13 t20) h13 o9) h13 fun t21 h14 =>
mg t16 true (fun o10 => enterK C F.ref02_Same [t19, t21] h14 o10) h14 fun t22 h15 =>
pickK t16 t22 (.bool false) fun t23 =>
checkK (okV (some true) none h1 h2 h2 h3 && (okV (some true) (blockOf t7) h1 h2 h3 h4 && (okV (goesV t9 true) (blockOf t3) h6 h7 h7 h8 && (okV (goesV t16 true) none h11 h12 h12 h13 && (okV (goesV t16 true) (blockOf t20) h11 h12 h13 h14 && true))))) <|
K0 .ret [(4, t23)] h15

theorem s_law_looks_eq (M : CombL) (C : CallF) (LP : LoopH) (a0 : Value) (a1 : Value) (H : AHeap) : dBodyL M Try.prog hints C LP F.law_looks [a0, a1] H = s_law_looks M.b.g M.c M.s Try.prog C a0 a1 H (endK Try.prog [.tmp 4]) := by kernel_rfl

/-! (*ticketline.clock.Clock).Now -/

noncomputable def s_clock_Clock_Now (mg : GT) (mc : CT) (ms : ST) (P : Program) (C : CallF) (a0 : Value) (H : AHeap) (K0 : K) : Res :=
enterK C F.clock_Clock_zero [a0] H fun t4 h1 =>
mc t4 (fun k1 => k1 .ret [(2, (.int .i64 0))] h1) (fun k1 =>
k1 .normal [(0, a0)] h1) (seqK (fun tT h2 =>
bareK (xnilCheck (get tT 0)) h2 fun t6 h3 =>
bareK (fad 1 t6) h3 fun t7 h4 =>
bareK (ld1 h4 t7) h4 fun t8 h5 =>
K0 .ret [(2, t8)] h5) K0)

theorem s_clock_Clock_Now_eq (M : CombL) (C : CallF) (LP : LoopH) (a0 : Value) (H : AHeap) : dBodyL M Try.prog hints C LP F.clock_Clock_Now [a0] H = s_clock_Clock_Now M.b.g M.c M.s Try.prog C a0 H (endK Try.prog [.tmp 2]) := by kernel_rfl

/-! ticketline.ticketlinelaw02.ticks -/

noncomputable def s_law_ticks (mg : GT) (mc : CT) (ms : ST) (P : Program) (C : CallF) (a0 : Value) (a1 : Value) (a2 : Value) (a3 : Value) (H : AHeap) (K0 : K) : Res :=
enterK C F.clock_Clock_Tick [a0, a1] H fun t14 h1 =>
bareK (xextract t14 0) h1 fun t15 h2 =>
bareK (xextract t14 1) h2 fun t16 h3 =>
enterK C F.ref02_Same [t15, a3] h3 fun t19 h4 =>
mg t19 true (fun o1 => o1 t16 h4) h4 fun t21 h5 =>
mg t19 true (fun o2 => o2 a2 h5) h5 fun t22 h6 =>
mg t19 true (fun o3 => bareK (xbin P .eql T.api_Errno (.tmp 21) (.tmp 22) t21 t22) h6 o3) h6 fun t23 h7 =>
pickK t19 t23 (.bool false) fun t24 =>
K0 .ret [(8, t24)] h7

theorem s_law_ticks_eq (M : CombL) (C : CallF) (LP : LoopH) (a0 : Value) (a1 : Value) (a2 : Value) (a3 : Value) (H : AHeap) : dBodyL M Try.prog hints C LP F.law_ticks [a0, a1, a2, a3] H = s_law_ticks M.b.g M.c M.s Try.prog C a0 a1 a2 a3 H (endK Try.prog [.tmp 8]) := by kernel_rfl

/-! ticketline.clock.Due -/

noncomputable def s_clock_Due (mg : GT) (mc : CT) (ms : ST) (P : Program) (C : CallF) (a0 : Value) (a1 : Value) (H : AHeap) (K0 : K) : Res :=
ms (fun k1 =>
enterK C F.clock_tick [a0] H fun t8 h1 =>
bareK (xun P .not t8) h1 fun t9 h2 =>
mg t9 false (fun o2 => o2 a1 h2) h2 fun t11 h3 =>
mg t9 false (fun o3 => bareK (xbin P .lss T.int (.tmp 11) (.const (.int .i64 0)) t11 (.int .i64 0)) h3 o3) h3 fun t12 h4 =>
pickK t9 (.bool true) t12 fun t13 =>
mc t13 (fun k4 => k4 .ret [(4, (.int .i64 0)), (5, (.int .i64 2))] h4) (fun k4 =>
bareK (xbin P .sub T.int (.const (.int .i64 4611686018427387904)) (.tmp 16) (.int .i64 4611686018427387904) a0) h4 fun t17 h5 =>
bareK (xbin P .gtr T.int (.tmp 15) (.tmp 17) a1 t17) h5 fun t18 h6 =>
mc t18 (fun k5 => k5 .ret [(4, (.int .i64 4611686018427387904)), (5, (.int .i64 0))] h6) (fun k5 =>
k5 .normal [(0, a0), (1, a1)] h6) (afterK [0, 1] k4)) (blkK [0, 1] 0 k1)) (seqK (fun tT h7 =>
bareK (xbin P .add T.int (.tmp 19) (.tmp 20) (get tT 0) (get tT 1)) h7 fun t21 h8 =>
K0 .ret [(4, t21), (5, (.int .i64 0))] h8) K0)

theorem s_clock_Due_eq (M : CombL) (C : CallF) (LP : LoopH) (a0 : Value) (a1 : Value) (H : AHeap) : dBodyL M Try.prog hints C LP F.clock_Due [a0, a1] H = s_clock_Due M.b.g M.c M.s Try.prog C a0 a1 H (endK Try.prog [.tmp 4, .tmp 5]) := by kernel_rfl

/-! ticketline.ticketlineref02.Same -/

noncomputable def s_ref02_Same (mg : GT) (mc : CT) (ms : ST) (P : Program) (C : CallF) (L0 : Value → Value → Value → AHeap → K → Res) (a0 : Value) (a1 : Value) (H : AHeap) (K0 : K) : Res :=
bareK (lenS a0) H fun t7 h1 =>
bareK (lenS a1) h1 fun t9 h2 =>
bareK (xbin P .neq T.int (.tmp 7) (.tmp 9) t7 t9) h2 fun t10 h3 =>
mc t10 (fun k1 => k1 .ret [(4, (.bool false))] h3) (fun k1 =>
k1 .normal [(0, a0), (1, a1)] h3) (seqK (fun tT h4 =>
ms (fun k2 =>
L0 (get tT 0) (get tT 1) (.int .i64 0) h4 (blkK [] 0 k2)) (seqK (fun tT_1 h5 =>
K0 .ret [(4, (.bool true))] h5) K0)) K0)

noncomputable def s_ref02_Same_b0 (mg : GT) (mc : CT) (ms : ST) (P : Program) (C : CallF) (L0 : Value → Value → Value → AHeap → K → Res) (v0 : Value) (v1 : Value) (v5 : Value) (H : AHeap) (k : K) : Res :=
bareK (lenS v0) H fun t13 h5 =>
bareK (xbin P .lss T.int (.tmp 11) (.tmp 13) v5 t13) h5 fun t14 h6 =>
mc t14 (fun k3 => k3 .normal [(0, v0), (1, v1), (5, v5)] h6) (fun k3 =>
k3 (.exit 0) [(14, t14), (13, t13), (12, v0), (11, v5), (0, v0), (1, v1), (5, v5)] h6) (seqK (fun tT h7 =>
ms (fun k4 =>
bareK (ixS 2 (get tT 0) (get tT 5)) h7 fun t19 h8 =>
bareK (ldN 2 h8 t19) h8 fun t20 h9 =>
bareK (ixS 2 (get tT 1) (get tT 5)) h9 fun t23 h10 =>
bareK (ldN 2 h10 t23) h10 fun t24 h11 =>
bareK (xbin P .neq T.api_Alarm (.tmp 20) (.tmp 24) t20 t24) h11 fun t25 h12 =>
checkK true <|
mc t25 (fun k5 => k5 .ret [(4, (.bool false))] h12) (fun k5 =>
k5 .normal [(0, (get tT 0)), (1, (get tT 1)), (5, (get tT 5))] h12) (blkK [0, 1, 5] 1 k4)) (seqK (fun tT_1 h13 =>
bareK (xbin P .add T.int (.tmp 15) (.const (.int .i64 1)) (get tT_1 5) (.int .i64 1)) h13 fun t16 h14 =>
k .normal [(0, (get tT_1 0)), (1, (get tT_1 1)), (5, t16)] h14) (afterK [0, 1, 5] k))) (afterK [0, 1, 5] k))

theorem s_ref02_Same_eq (M : CombL) (C : CallF) (LP : LoopH) (a0 : Value) (a1 : Value) (H : AHeap) : dBodyL M Try.prog hints C LP F.ref02_Same [a0, a1] H = s_ref02_Same M.b.g M.c M.s Try.prog C (fun v0 v1 v5 H k => loopL M Try.prog hints C LP F.ref02_Same 0 [(0, v0), (1, v1), (5, v5)] H k) a0 a1 H (endK Try.prog [.tmp 4]) := by kernel_rfl

theorem s_ref02_Same_b0_eq (M : CombL) (C : CallF) (LP : LoopH) (v0 : Value) (v1 : Value) (v5 : Value) (H : AHeap) (k : K) : bodyL M Try.prog hints C LP F.ref02_Same 0 [(0, v0), (1, v1), (5, v5)] H (afterK [0, 1, 5] k) = s_ref02_Same_b0 M.b.g M.c M.s Try.prog C (fun v0 v1 v5 H k => loopL M Try.prog hints C LP F.ref02_Same 0 [(0, v0), (1, v1), (5, v5)] H k) v0 v1 v5 H k := by kernel_rfl

/-! ticketline.clock.tick -/

noncomputable def s_clock_tick (mg : GT) (mc : CT) (ms : ST) (P : Program) (C : CallF) (a0 : Value) (H : AHeap) (K0 : K) : Res :=
bareK (xbin P .geq T.int (.tmp 3) (.const (.int .i64 0)) a0 (.int .i64 0)) H fun t4 h1 =>
mg t4 true (fun o1 => o1 a0 h1) h1 fun t6 h2 =>
mg t4 true (fun o2 => bareK (xbin P .leq T.int (.tmp 6) (.const (.int .i64 4611686018427387904)) t6 (.int .i64 4611686018427387904)) h2 o2) h2 fun t7 h3 =>
pickK t4 t7 (.bool false) fun t8 =>
K0 .ret [(2, t8)] h3

theorem s_clock_tick_eq (M : CombL) (C : CallF) (LP : LoopH) (a0 : Value) (H : AHeap) : dBodyL M Try.prog hints C LP F.clock_tick [a0] H = s_clock_tick M.b.g M.c M.s Try.prog C a0 H (endK Try.prog [.tmp 2]) := by kernel_rfl

/-! (*ticketline.clock.Clock).zero -/

noncomputable def s_clock_Clock_zero (mg : GT) (mc : CT) (ms : ST) (P : Program) (C : CallF) (a0 : Value) (H : AHeap) (K0 : K) : Res :=
bareK (xbin P .eql T.p_clock_Clock (.tmp 3) (.const (.pointer none)) a0 (.pointer none)) H fun t4 h1 =>
mg t4 false (fun o1 => o1 a0 h1) h1 fun t6 h2 =>
mg t4 false (fun o2 => bareK (xnilCheck t6) h2 o2) h2 fun t7 h3 =>
mg t4 false (fun o3 => bareK (fad 0 t7) h3 o3) h3 fun t8 h4 =>
mg t4 false (fun o4 => bareK (ld1 h4 t8) h4 o4) h4 fun t9 h5 =>
mg t4 false (fun o5 => bareK (xun P .not t9) h5 o5) h5 fun t10 h6 =>
pickK t4 (.bool true) t10 fun t11 =>
K0 .ret [(2, t11)] h6

theorem s_clock_Clock_zero_eq (M : CombL) (C : CallF) (LP : LoopH) (a0 : Value) (H : AHeap) : dBodyL M Try.prog hints C LP F.clock_Clock_zero [a0] H = s_clock_Clock_zero M.b.g M.c M.s Try.prog C a0 H (endK Try.prog [.tmp 2]) := by kernel_rfl

/-! (*ticketline.clock.Clock).find -/

noncomputable def s_clock_Clock_find (mg : GT) (mc : CT) (ms : ST) (P : Program) (C : CallF) (a0 : Value) (a1 : Value) (H : AHeap) (K0 : K) : Res :=
bothK (newv T.int a1 H) fun t3 h1 =>
bareK (xnilCheck a0) h1 fun t6 h2 =>
bareK (fad 2 t6) h2 fun t7 h3 =>
bareK (ld1 h3 t7) h3 fun t8 h4 =>
enterK C F.slices_IndexFunc_alarm [t8, (.func (.func F.clock_Clock_find_1) #[] #[t3])] h4 fun t10 h5 =>
K0 .ret [(4, t10)] h5

theorem s_clock_Clock_find_eq (M : CombL) (C : CallF) (LP : LoopH) (a0 : Value) (a1 : Value) (H : AHeap) : dBodyL M Try.prog hints C LP F.clock_Clock_find [a0, a1] H = s_clock_Clock_find M.b.g M.c M.s Try.prog C a0 a1 H (endK Try.prog [.tmp 4]) := by kernel_rfl

/-! slices.BinarySearchFunc[[]ticketline.clock.alarm,ticketline.clock.alarm,ticketline.clock.alarm] -/

noncomputable def s_slices_BinarySearchFunc_alarm (mg : GT) (mc : CT) (ms : ST) (P : Program) (C : CallF) (L0 : Value → Value → Value → Value → Value → Value → AHeap → K → Res) (a0 : Value) (a1 : Value) (a2 : Value) (H : AHeap) (K0 : K) : Res :=
bothK (newv T.clock_alarm a1 H) fun t4 h1 =>
bareK (lenS a0) h1 fun t13 h2 =>
ms (fun k1 =>
L0 a0 a2 t4 t13 (.int .i64 0) t13 h2 (blkK [0, 2, 4, 8, 9] 0 k1)) (seqK (fun tT h3 =>
bareK (xbin P .lss T.int (.tmp 36) (.tmp 37) (get tT 9) (get tT 8)) h3 fun t38 h4 =>
mg t38 true (fun o2 => o2 (get tT 2) h4) h4 fun t40 h5 =>
mg t38 true (fun o3 => o3 (get tT 0) h5) h5 fun t41 h6 =>
mg t38 true (fun o4 => o4 (get tT 9) h6) h6 fun t42 h7 =>
mg t38 true (fun o5 => bareK (ixS 2 t41 t42) h7 o5) h7 fun t43 h8 =>
mg t38 true (fun o6 => bareK (ldN 2 h8 t43) h8 o6) h8 fun t44 h9 =>
mg t38 true (fun o7 => bareK (ldN 2 h9 (get tT 4)) h9 o7) h9 fun t45 h10 =>
mg t38 true (fun o8 => callK P C t40 [t44, t45] h10 o8) h10 fun t46 h11 =>
mg t38 true (fun o9 => bareK (xbin P .eql T.int (.tmp 46) (.const (.int .i64 0)) t46 (.int .i64 0)) h11 o9) h11 fun t47 h12 =>
pickK t38 t47 (.bool false) fun t48 =>
checkK (okV (some true) none h10 h11 h3 h3 && true) <|
K0 .ret [(6, (get tT 9)), (7, t48)] h12) K0)

noncomputable def s_slices_BinarySearchFunc_alarm_b0 (mg : GT) (mc : CT) (ms : ST) (P : Program) (C : CallF) (L0 : Value → Value → Value → Value → Value → Value → AHeap → K → Res) (v0 : Value) (v2 : Value) (v4 : Value) (v8 : Value) (v9 : Value) (v10 : Value) (H : AHeap) (k : K) : Res :=
bareK (xbin P .lss T.int (.tmp 15) (.tmp 16) v9 v10) H fun t17 h3 =>
mc t17 (fun k2 => k2 .normal [(0, v0), (2, v2), (4, v4), (8, v8), (9, v9), (10, v10)] h3) (fun k2 =>
k2 (.exit 0) [(17, t17), (16, v10), (15, v9), (0, v0), (2, v2), (4, v4), (8, v8), (9, v9), (10, v10)] h3) (seqK (fun tT h4 =>
ms (fun k3 =>
bareK (xbin P .add T.int (.tmp 18) (.tmp 19) (get tT 9) (get tT 10)) h4 fun t20 h5 =>
bothK (xconv P T.int T.uint t20 h5) fun t21 h6 =>
bareK (xbin P .shr T.uint (.tmp 21) (.const (.int .u64 1)) t21 (.int .u64 1)) h6 fun t22 h7 =>
bothK (xconv P T.uint T.int t22 h7) fun t23 h8 =>
bareK (ixS 2 (get tT 0) t23) h8 fun t27 h9 =>
bareK (ldN 2 h9 t27) h9 fun t28 h10 =>
bareK (ldN 2 h10 (get tT 4)) h10 fun t29 h11 =>
callK P C (get tT 2) [t28, t29] h11 fun t30 h12 =>
bareK (xbin P .lss T.int (.tmp 30) (.const (.int .i64 0)) t30 (.int .i64 0)) h12 fun t31 h13 =>
checkK true <|
mc t31 (fun k4 => bareK (xbin P .add T.int (.tmp 32) (.const (.int .i64 1)) t23 (.int .i64 1)) h13 fun t33 h14 =>
k4 .normal [(0, (get tT 0)), (2, (get tT 2)), (4, (get tT 4)), (8, (get tT 8)), (9, t33), (10, (get tT 10))] h14) (fun k4 =>
k4 .normal [(0, (get tT 0)), (2, (get tT 2)), (4, (get tT 4)), (8, (get tT 8)), (9, (get tT 9)), (10, t23)] h13) (blkK [0, 2, 4, 8, 9, 10] 1 k3)) (afterK [0, 2, 4, 8, 9, 10] k)) (afterK [0, 2, 4, 8, 9, 10] k))

theorem s_slices_BinarySearchFunc_alarm_eq (M : CombL) (C : CallF) (LP : LoopH) (a0 : Value) (a1 : Value) (a2 : Value) (H : AHeap) : dBodyL M Try.prog hints C LP F.slices_BinarySearchFunc_alarm [a0, a1, a2] H = s_slices_BinarySearchFunc_alarm M.b.g M.c M.s Try.prog C (fun v0 v2 v4 v8 v9 v10 H k => loopL M Try.prog hints C LP F.slices_BinarySearchFunc_alarm 0 [(0, v0), (2, v2), (4, v4), (8, v8), (9, v9), (10, v10)] H k) a0 a1 a2 H (endK Try.prog [.tmp 6, .tmp 7]) := by kernel_rfl

theorem s_slices_BinarySearchFunc_alarm_b0_eq (M : CombL) (C : CallF) (LP : LoopH) (v0 : Value) (v2 : Value) (v4 : Value) (v8 : Value) (v9 : Value) (v10 : Value) (H : AHeap) (k : K) : bodyL M Try.prog hints C LP F.slices_BinarySearchFunc_alarm 0 [(0, v0), (2, v2), (4, v4), (8, v8), (9, v9), (10, v10)] H (afterK [0, 2, 4, 8, 9, 10] k) = s_slices_BinarySearchFunc_alarm_b0 M.b.g M.c M.s Try.prog C (fun v0 v2 v4 v8 v9 v10 H k => loopL M Try.prog hints C LP F.slices_BinarySearchFunc_alarm 0 [(0, v0), (2, v2), (4, v4), (8, v8), (9, v9), (10, v10)] H k) v0 v2 v4 v8 v9 v10 H k := by kernel_rfl

/-! (ticketline.clock.alarm).compare -/

noncomputable def s_clock_alarm_compare (mg : GT) (mc : CT) (ms : ST) (P : Program) (C : CallF) (a0 : Value) (a1 : Value) (H : AHeap) (K0 : K) : Res :=
bothK (newv T.clock_alarm a0 H) fun t2 h1 =>
bothK (newv T.clock_alarm a1 h1) fun t3 h2 =>
bareK (fad 1 t2) h2 fun t5 h3 =>
bareK (ld1 h3 t5) h3 fun t6 h4 =>
bareK (fad 1 t3) h4 fun t7 h5 =>
bareK (ld1 h5 t7) h5 fun t8 h6 =>
enterK C F.cmp_Compare_int [t6, t8] h6 fun t9 h7 =>
bareK (fad 0 t2) h7 fun t10 h8 =>
bareK (ld1 h8 t10) h8 fun t11 h9 =>
bareK (fad 0 t3) h9 fun t12 h10 =>
bareK (ld1 h10 t12) h10 fun t13 h11 =>
enterK C F.cmp_Compare_int [t11, t13] h11 fun t14 h12 =>
bothK (bldL T.int [(.int .i64 0)] 2 [(0, t9), (1, t14)] h12) fun t15 h13 =>
enterK C F.cmp_Or_int [t15] h13 fun t16 h14 =>
checkK (okV (some true) none h6 h7 h7 h8 && (okV (some true) (blockOf t10) h6 h7 h8 h9 && (okV (some true) none h6 h7 h9 h10 && (okV (some true) (blockOf t12) h6 h7 h10 h11 && true)))) <|
K0 .ret [(4, t16)] h14

theorem s_clock_alarm_compare_eq (M : CombL) (C : CallF) (LP : LoopH) (a0 : Value) (a1 : Value) (H : AHeap) : dBodyL M Try.prog hints C LP F.clock_alarm_compare [a0, a1] H = s_clock_alarm_compare M.b.g M.c M.s Try.prog C a0 a1 H (endK Try.prog [.tmp 4]) := by kernel_rfl

/-! slices.Insert[[]ticketline.clock.alarm,ticketline.clock.alarm] -/

noncomputable def s_slices_Insert_alarm (mg : GT) (mc : CT) (ms : ST) (P : Program) (C : CallF) (a0 : Value) (a1 : Value) (a2 : Value) (H : AHeap) (K0 : K) : Res :=
bareK (slS T.clock_alarm 2 a0 (some a1) none none H) H fun t12 h1 =>
bareK (lenS a2) h1 fun t14 h2 =>
bareK (xbin P .eql T.int (.tmp 15) (.const (.int .i64 0)) t14 (.int .i64 0)) h2 fun t16 h3 =>
mc t16 (fun k1 => k1 .ret [(6, a0)] h3) (fun k1 =>
k1 .normal [(0, a0), (1, a1), (2, a2), (7, t14)] h3) (seqK (fun tT h4 =>
bareK (lenS (get tT 0)) h4 fun t19 h5 =>
bareK (xbin P .eql T.int (.tmp 20) (.tmp 21) (get tT 1) t19) h5 fun t22 h6 =>
mc t22 (fun k2 => bothK (app T.clock_alarm 2 16 (get tT 0) (srcS 2 (get tT 2) h6) h6) fun t25 h7 =>
k2 .ret [(6, t25)] h7) (fun k2 =>
k2 .normal [(0, (get tT 0)), (1, (get tT 1)), (2, (get tT 2)), (7, (get tT 7)), (8, t19)] h6) (seqK (fun tT_1 h8 =>
bareK (xbin P .add T.int (.tmp 26) (.tmp 27) (get tT_1 8) (get tT_1 7)) h8 fun t28 h9 =>
nextK C h9 (xbuiltin P .cap [T.sl_clock_alarm] [(get tT_1 0)] h9) fun t30 h10 =>
bareK (xbin P .gtr T.int (.tmp 28) (.tmp 30) t28 t30) h10 fun t31 h11 =>
mc t31 (fun k3 => bareK (slS T.clock_alarm 2 (get tT_1 0) none (some (get tT_1 1)) none h11) h11 fun t34 h12 =>
bareK (xbin P .add T.int (.tmp 35) (.tmp 36) (get tT_1 8) (get tT_1 7)) h12 fun t37 h13 =>
bareK (xbin P .sub T.int (.tmp 37) (.tmp 38) t37 (get tT_1 1)) h13 fun t39 h14 =>
bothK (app T.clock_alarm 2 16 t34 (srcZ [(.int .i64 0), (.int .i64 0)] 16 t39) h14) fun t40 h15 =>
bareK (slS T.clock_alarm 2 t40 (some (get tT_1 1)) none none h15) h15 fun t43 h16 =>
bothK (cpy 2 t43 (get tT_1 2) h16) fun t45 h17 =>
bareK (xbin P .add T.int (.tmp 47) (.tmp 48) (get tT_1 1) (get tT_1 7)) h17 fun t49 h18 =>
bareK (slS T.clock_alarm 2 t40 (some t49) none none h18) h18 fun t50 h19 =>
bareK (slS T.clock_alarm 2 (get tT_1 0) (some (get tT_1 1)) none none h19) h19 fun t53 h20 =>
bothK (cpy 2 t50 t53 h20) fun t54 h21 =>
checkK true <|
k3 .ret [(6, t40)] h21) (fun k3 =>
k3 .normal [(0, (get tT_1 0)), (1, (get tT_1 1)), (2, (get tT_1 2)), (7, (get tT_1 7)), (8, (get tT_1 8))] h11) (seqK (fun tT_2 h22 =>
bareK (xbin P .add T.int (.tmp 57) (.tmp 58) (get tT_2 8) (get tT_2 7)) h22 fun t59 h23 =>
bareK (slS T.clock_alarm 2 (get tT_2 0) none (some t59) none h23) h23 fun t60 h24 =>
bareK (xbin P .add T.int (.tmp 63) (.tmp 64) (get tT_2 1) (get tT_2 7)) h24 fun t65 h25 =>
bareK (slS T.clock_alarm 2 t60 (some t65) none none h25) h25 fun t66 h26 =>
bareK (xext P Try.f43 [(get tT_2 2), t66] h26) h26 fun t67 h27 =>
bareK (xun P .not t67) h27 fun t68 h28 =>
mc t68 (fun k4 => bareK (xbin P .add T.int (.tmp 70) (.tmp 71) (get tT_2 1) (get tT_2 7)) h28 fun t72 h29 =>
bareK (slS T.clock_alarm 2 t60 (some t72) none none h29) h29 fun t73 h30 =>
bareK (slS T.clock_alarm 2 t60 (some (get tT_2 1)) none none h30) h30 fun t76 h31 =>
bothK (cpy 2 t73 t76 h31) fun t77 h32 =>
checkK true <|
bareK (slS T.clock_alarm 2 t60 (some (get tT_2 1)) none none h32) h32 fun t80 h33 =>
bothK (cpy 2 t80 (get tT_2 2) h33) fun t82 h34 =>
k4 .ret [(6, t60)] h34) (fun k4 =>
k4 .normal [(0, t60), (1, (get tT_2 1)), (2, (get tT_2 2)), (7, (get tT_2 7)), (8, (get tT_2 8))] h28) (seqK (fun tT_3 h35 =>
bareK (slS T.clock_alarm 2 (get tT_3 0) (some (get tT_3 8)) none none h35) h35 fun t86 h36 =>
bothK (cpy 2 t86 (get tT_3 2) h36) fun t88 h37 =>
bareK (slS T.clock_alarm 2 (get tT_3 0) (some (get tT_3 1)) none none h37) h37 fun t91 h38 =>
enterK C F.slices_rotateRight_alarm [t91, (get tT_3 7)] h38 fun t93 h39 =>
K0 .ret [(6, (get tT_3 0))] h39) K0)) K0)) K0)) K0)

theorem s_slices_Insert_alarm_eq (M : CombL) (C : CallF) (LP : LoopH) (a0 : Value) (a1 : Value) (a2 : Value) (H : AHeap) : dBodyL M Try.prog hints C LP F.slices_Insert_alarm [a0, a1, a2] H = s_slices_Insert_alarm M.b.g M.c M.s Try.prog C a0 a1 a2 H (endK Try.prog [.tmp 6]) := by kernel_rfl

/-! slices.Clone[[]ticketline.clock.alarm,ticketline.clock.alarm] -/

noncomputable def s_slices_Clone_alarm (mg : GT) (mc : CT) (ms : ST) (P : Program) (C : CallF) (a0 : Value) (H : AHeap) (K0 : K) : Res :=
bareK (xbin P .eql T.sl_clock_alarm (.tmp 3) (.const (.slice none 0 0)) a0 (.slice none 0 0)) H fun t4 h1 =>
mc t4 (fun k1 => k1 .ret [(2, (.slice none 0 0))] h1) (fun k1 =>
k1 .normal [(0, a0)] h1) (seqK (fun tT h2 =>
bothK (bldL T.clock_alarm [(.int .i64 0), (.int .i64 0)] 0 [] h2) fun t5 h3 =>
bothK (app T.clock_alarm 2 16 t5 (srcS 2 (get tT 0) h3) h3) fun t7 h4 =>
K0 .ret [(2, t7)] h4) K0)

theorem s_slices_Clone_alarm_eq (M : CombL) (C : CallF) (LP : LoopH) (a0 : Value) (H : AHeap) : dBodyL M Try.prog hints C LP F.slices_Clone_alarm [a0] H = s_slices_Clone_alarm M.b.g M.c M.s Try.prog C a0 H (endK Try.prog [.tmp 2]) := by kernel_rfl

/-! slices.Delete[[]ticketline.clock.alarm,ticketline.clock.alarm] -/

noncomputable def s_slices_Delete_alarm (mg : GT) (mc : CT) (ms : ST) (P : Program) (C : CallF) (a0 : Value) (a1 : Value) (a2 : Value) (H : AHeap) (K0 : K) : Res :=
bareK (lenS a0) H fun t12 h1 =>
bareK (slS T.clock_alarm 2 a0 (some a1) (some a2) (some t12) h1) h1 fun t13 h2 =>
bareK (xbin P .eql T.int (.tmp 14) (.tmp 15) a1 a2) h2 fun t16 h3 =>
mc t16 (fun k1 => k1 .ret [(6, a0)] h3) (fun k1 =>
k1 .normal [(0, a0), (1, a1), (2, a2)] h3) (seqK (fun tT h4 =>
bareK (lenS (get tT 0)) h4 fun t19 h5 =>
bareK (slS T.clock_alarm 2 (get tT 0) none (some (get tT 1)) none h5) h5 fun t22 h6 =>
bareK (slS T.clock_alarm 2 (get tT 0) (some (get tT 2)) none none h6) h6 fun t25 h7 =>
bothK (app T.clock_alarm 2 16 t22 (srcS 2 t25 h7) h7) fun t26 h8 =>
checkK true <|
bareK (lenS t26) h8 fun t29 h9 =>
bareK (slS T.clock_alarm 2 t26 (some t29) (some t19) none h9) h9 fun t31 h10 =>
bothK (xclear P [T.sl_clock_alarm] t31 h10) fun _ h11 =>
K0 .ret [(6, t26)] h11) K0)

theorem s_slices_Delete_alarm_eq (M : CombL) (C : CallF) (LP : LoopH) (a0 : Value) (a1 : Value) (a2 : Value) (H : AHeap) : dBodyL M Try.prog hints C LP F.slices_Delete_alarm [a0, a1, a2] H = s_slices_Delete_alarm M.b.g M.c M.s Try.prog C a0 a1 a2 H (endK Try.prog [.tmp 6]) := by kernel_rfl

/-! ticketline.clock.out -/

noncomputable def s_clock_out (mg : GT) (mc : CT) (ms : ST) (P : Program) (C : CallF) (L0 : Value → Value → Value → Value → AHeap → K → Res) (a0 : Value) (H : AHeap) (K0 : K) : Res :=
bareK (lenS a0) H fun t7 h1 =>
ms (fun k1 =>
L0 (.slice none 0 0) a0 t7 (.int .i64 0) h1 (blkK [3] 0 k1)) (seqK (fun tT h2 =>
K0 .ret [(2, (get tT 3))] h2) K0)

noncomputable def s_clock_out_b0 (mg : GT) (mc : CT) (ms : ST) (P : Program) (C : CallF) (L0 : Value → Value → Value → Value → AHeap → K → Res) (v3 : Value) (v6 : Value) (v7 : Value) (v8 : Value) (H : AHeap) (k : K) : Res :=
bareK (xbin P .lss T.int (.tmp 8) (.tmp 7) v8 v7) H fun t9 h2 =>
mc t9 (fun k2 => k2 .normal [(3, v3), (6, v6), (7, v7), (8, v8)] h2) (fun k2 =>
k2 (.exit 0) [(9, t9), (3, v3), (6, v6), (7, v7), (8, v8)] h2) (seqK (fun tT h3 =>
ms (fun k3 =>
bareK (ixS 2 (get tT 6) (get tT 8)) h3 fun t10 h4 =>
bareK (ldN 2 h4 t10) h4 fun t11 h5 =>
bothK (newv T.clock_alarm (.agg #[(.int .i64 0), (.int .i64 0)]) h5) fun t5 h6 =>
quietK (stN 2 h6 t5 t11) fun _ h7 =>
bareK (ldN 2 h7 t5) h7 fun t13 h8 =>
bothK (bldL T.api_Alarm [(.int .i64 0), (.int .i64 0)] 1 [(0, t13)] h8) fun t14 h9 =>
bothK (app T.api_Alarm 2 16 (get tT 3) (srcS 2 t14 h9) h9) fun t15 h10 =>
k3 .normal [(3, t15), (6, (get tT 6)), (7, (get tT 7)), (8, (get tT 8))] h10) (seqK (fun tT_1 h11 =>
bareK (xbin P .add T.int (.tmp 8) (.const (.int .i64 1)) (get tT_1 8) (.int .i64 1)) h11 fun t16 h12 =>
k .normal [(3, (get tT_1 3)), (6, (get tT_1 6)), (7, (get tT_1 7)), (8, t16)] h12) (afterK [3, 6, 7, 8] k))) (afterK [3, 6, 7, 8] k))

theorem s_clock_out_eq (M : CombL) (C : CallF) (LP : LoopH) (a0 : Value) (H : AHeap) : dBodyL M Try.prog hints C LP F.clock_out [a0] H = s_clock_out M.b.g M.c M.s Try.prog C (fun v3 v6 v7 v8 H k => loopL M Try.prog hints C LP F.clock_out 0 [(3, v3), (6, v6), (7, v7), (8, v8)] H k) a0 H (endK Try.prog [.tmp 2]) := by kernel_rfl

theorem s_clock_out_b0_eq (M : CombL) (C : CallF) (LP : LoopH) (v3 : Value) (v6 : Value) (v7 : Value) (v8 : Value) (H : AHeap) (k : K) : bodyL M Try.prog hints C LP F.clock_out 0 [(3, v3), (6, v6), (7, v7), (8, v8)] H (afterK [3, 6, 7, 8] k) = s_clock_out_b0 M.b.g M.c M.s Try.prog C (fun v3 v6 v7 v8 H k => loopL M Try.prog hints C LP F.clock_out 0 [(3, v3), (6, v6), (7, v7), (8, v8)] H k) v3 v6 v7 v8 H k := by kernel_rfl

/-! (ticketline.ticketlineref02.Clock).Set -/

noncomputable def s_ref02_Clock_Set (mg : GT) (mc : CT) (ms : ST) (P : Program) (C : CallF) (L0 : Value → Value → Value → Value → Value → AHeap → K → Res) (a0 : Value) (a1 : Value) (a2 : Value) (H : AHeap) (K0 : K) : Res :=
bothK (newv T.ref02_Clock a0 H) fun t3 h1 =>
bothK (newv T.ref02_Clock (.agg #[(.int .i64 0), (.slice none 0 0)]) h1) fun t6 h2 =>
bareK (xbin P .lss T.int (.tmp 9) (.const (.int .i64 0)) a1 (.int .i64 0)) h2 fun t10 h3 =>
mg t10 false (fun o1 => o1 a2 h3) h3 fun t12 h4 =>
mg t10 false (fun o2 => enterK C F.ref02_Tick [t12] h4 o2) h4 fun t13 h5 =>
mg t10 false (fun o3 => bareK (xun P .not t13) h5 o3) h5 fun t14 h6 =>
pickK t10 (.bool true) t14 fun t15 =>
mc t15 (fun k4 => bareK (ldN 2 h6 t3) h6 fun t16 h7 =>
quietK (stN 2 h7 t6 t16) fun _ h8 =>
k4 .ret [(6, t6), (7, (.int .i64 2))] h8) (fun k4 =>
k4 .normal [(1, a1), (2, a2), (3, t3), (6, t6)] h6) (seqK (fun tT h9 =>
bareK (ldN 2 h9 (get tT 3)) h9 fun t17 h10 =>
enterK C F.ref02_Clock_has [t17, (get tT 1)] h10 fun t19 h11 =>
mc t19 (fun k5 => bareK (ldN 2 h11 (get tT 3)) h11 fun t20 h12 =>
quietK (stN 2 h12 (get tT 6) t20) fun _ h13 =>
k5 .ret [(6, (get tT 6)), (7, (.int .i64 11))] h13) (fun k5 =>
k5 .normal [(1, (get tT 1)), (2, (get tT 2)), (3, (get tT 3)), (6, (get tT 6))] h11) (seqK (fun tT_1 h14 =>
bareK (fad 1 (get tT_1 3)) h14 fun t21 h15 =>
bareK (ld1 h15 t21) h15 fun t22 h16 =>
bareK (lenS t22) h16 fun t23 h17 =>
bareK (xbin P .eql T.int (.tmp 23) (.const (.int .i64 4096)) t23 (.int .i64 4096)) h17 fun t24 h18 =>
mc t24 (fun k6 => bareK (ldN 2 h18 (get tT_1 3)) h18 fun t25 h19 =>
quietK (stN 2 h19 (get tT_1 6) t25) fun _ h20 =>
k6 .ret [(6, (get tT_1 6)), (7, (.int .i64 7))] h20) (fun k6 =>
k6 .normal [(1, (get tT_1 1)), (2, (get tT_1 2)), (3, (get tT_1 3)), (6, (get tT_1 6))] h18) (seqK (fun tT_2 h21 =>
ms (fun k7 =>
L0 (get tT_2 1) (get tT_2 2) (get tT_2 3) (get tT_2 6) (.int .i64 0) h21 (blkK [1, 2, 3, 6, 8] 0 k7)) (seqK (fun tT_3 h22 =>
bareK (fad 0 (get tT_3 3)) h22 fun t63 h23 =>
bareK (ld1 h23 t63) h23 fun t64 h24 =>
bareK (fad 1 (get tT_3 3)) h24 fun t65 h25 =>
bareK (ld1 h25 t65) h25 fun t66 h26 =>
bareK (slS T.api_Alarm 2 t66 none (some (get tT_3 8)) none h26) h26 fun t68 h27 =>
bothK (app T.api_Alarm 2 16 (.slice none 0 0) (srcS 2 t68 h27) h27) fun t69 h28 =>
bareK (bldS #[(.int .i64 0), (.int .i64 0)] [(0, 1), (1, 1)] [(0, (get tT_3 1)), (1, (get tT_3 2))]) h28 fun t72 h29 =>
bothK (bldL T.api_Alarm [(.int .i64 0), (.int .i64 0)] 1 [(0, t72)] h29) fun t73 h30 =>
bothK (app T.api_Alarm 2 16 t69 (srcS 2 t73 h30) h30) fun t74 h31 =>
bareK (fad 1 (get tT_3 3)) h31 fun t75 h32 =>
bareK (ld1 h32 t75) h32 fun t76 h33 =>
bareK (slS T.api_Alarm 2 t76 (some (get tT_3 8)) none none h33) h33 fun t78 h34 =>
bothK (app T.api_Alarm 2 16 t74 (srcS 2 t78 h34) h34) fun t79 h35 =>
bareK (bldS #[(.int .i64 0), (.slice none 0 0)] [(0, 1), (1, 1)] [(0, t64), (1, t79)]) h35 fun t80 h36 =>
quietK (stN 2 h36 (get tT_3 6) t80) fun _ h37 =>
checkK (okV (some true) none h27 h28 h22 h23 && (okV (some true) (blockOf t63) h27 h28 h23 h24 && (okV (some true) none h27 h28 h28 h28 && (okV (some true) none h27 h28 h28 h28 && (okV (some true) none h27 h28 h28 h29 && (okV (some true) none h27 h28 h29 h30 && (okV (some true) none h27 h28 h31 h32 && (okV (some true) (blockOf t75) h27 h28 h32 h33 && (okV (some true) none h27 h28 h33 h33 && (okV (some true) (blockOf t76) h27 h28 h33 h34 && (okV (some true) none h30 h31 h22 h23 && (okV (some true) (blockOf t63) h30 h31 h23 h24 && (okV (some true) none h30 h31 h31 h32 && (okV (some true) (blockOf t75) h30 h31 h32 h33 && (okV (some true) none h30 h31 h33 h33 && (okV (some true) (blockOf t76) h30 h31 h33 h34 && (okV (some true) none h34 h35 h22 h23 && (okV (some true) (blockOf t63) h34 h35 h23 h24 && true)))))))))))))))))) <|
K0 .ret [(6, (get tT_3 6)), (7, (.int .i64 0))] h37) K0)) K0)) K0)) K0)

noncomputable def s_ref02_Clock_Set_b0 (mg : GT) (mc : CT) (ms : ST) (P : Program) (C : CallF) (L0 : Value → Value → Value → Value → Value → AHeap → K → Res) (v1 : Value) (v2 : Value) (v3 : Value) (v6 : Value) (v8 : Value) (H : AHeap) (k : K) : Res :=
bareK (fad 1 v3) H fun t27 h22 =>
bareK (ld1 h22 t27) h22 fun t28 h23 =>
bareK (lenS t28) h23 fun t29 h24 =>
bareK (xbin P .lss T.int (.tmp 26) (.tmp 29) v8 t29) h24 fun t30 h25 =>
mg t30 true (fun o8 => bareK (fad 1 v3) h25 o8) h25 fun t32 h26 =>
mg t30 true (fun o9 => bareK (ld1 h26 t32) h26 o9) h26 fun t33 h27 =>
mg t30 true (fun o10 => o10 v8 h27) h27 fun t34 h28 =>
mg t30 true (fun o11 => bareK (ixS 2 t33 t34) h28 o11) h28 fun t35 h29 =>
mg t30 true (fun o12 => bareK (fad 1 t35) h29 o12) h29 fun t36 h30 =>
mg t30 true (fun o13 => bareK (ld1 h30 t36) h30 o13) h30 fun t37 h31 =>
mg t30 true (fun o14 => o14 v2 h31) h31 fun t38 h32 =>
mg t30 true (fun o15 => bareK (xbin P .lss T.int (.tmp 37) (.tmp 38) t37 t38) h32 o15) h32 fun t39 h33 =>
mg t30 true (fun o16 => o16 t39 h33) h33 fun t40 h34 =>
mg t40 false (fun o17 => bareK (fad 1 v3) h34 o17) h34 fun t41 h35 =>
mg t40 false (fun o18 => bareK (ld1 h35 t41) h35 o18) h35 fun t42 h36 =>
mg t40 false (fun o19 => o19 v8 h36) h36 fun t43 h37 =>
mg t40 false (fun o20 => bareK (ixS 2 t42 t43) h37 o20) h37 fun t44 h38 =>
mg t40 false (fun o21 => bareK (fad 1 t44) h38 o21) h38 fun t45 h39 =>
mg t40 false (fun o22 => bareK (ld1 h39 t45) h39 o22) h39 fun t46 h40 =>
mg t40 false (fun o23 => o23 v2 h40) h40 fun t47 h41 =>
mg t40 false (fun o24 => bareK (xbin P .eql T.int (.tmp 46) (.tmp 47) t46 t47) h41 o24) h41 fun t48 h42 =>
mg t40 false (fun o25 => o25 t48 h42) h42 fun t49 h43 =>
mg t49 true (fun o26 => bareK (fad 1 v3) h43 o26) h43 fun t50 h44 =>
mg t49 true (fun o27 => bareK (ld1 h44 t50) h44 o27) h44 fun t51 h45 =>
mg t49 true (fun o28 => o28 v8 h45) h45 fun t52 h46 =>
mg t49 true (fun o29 => bareK (ixS 2 t51 t52) h46 o29) h46 fun t53 h47 =>
mg t49 true (fun o30 => bareK (fad 0 t53) h47 o30) h47 fun t54 h48 =>
mg t49 true (fun o31 => bareK (ld1 h48 t54) h48 o31) h48 fun t55 h49 =>
mg t49 true (fun o32 => o32 v1 h49) h49 fun t56 h50 =>
mg t49 true (fun o33 => bareK (xbin P .lss T.int (.tmp 55) (.tmp 56) t55 t56) h50 o33) h50 fun t57 h51 =>
mg t40 false (fun o34 => pickK t49 t57 (.bool false) fun v => o34 v h51) h51 fun t58 h52 =>
mg t30 true (fun o35 => pickK t40 (.bool true) t58 fun v => o35 v h52) h52 fun t59 h53 =>
pickK t30 t59 (.bool false) fun t60 =>
mc t60 (fun k36 => k36 .normal [(1, v1), (2, v2), (3, v3), (6, v6), (8, v8)] h53) (fun k36 =>
k36 (.exit 0) [(60, t60), (59, t59), (58, t58), (57, t57), (56, t56), (55, t55), (54, t54), (53, t53), (52, t52), (51, t51), (50, t50), (49, t49), (48, t48), (47, t47), (46, t46), (45, t45), (44, t44), (43, t43), (42, t42), (41, t41), (40, t40), (39, t39), (38, t38), (37, t37), (36, t36), (35, t35), (34, t34), (33, t33), (32, t32), (31, t30), (30, t30), (29, t29), (28, t28), (27, t27), (26, v8), (1, v1), (2, v2), (3, v3), (6, v6), (8, v8)] h53) (seqK (fun tT h54 =>
ms (fun k37 =>
bareK (xbin P .add T.int (.tmp 61) (.const (.int .i64 1)) (get tT 8) (.int .i64 1)) h54 fun t62 h55 =>
k37 .normal [(1, (get tT 1)), (2, (get tT 2)), (3, (get tT 3)), (6, (get tT 6)), (8, t62)] h55) (afterK [1, 2, 3, 6, 8] k)) (afterK [1, 2, 3, 6, 8] k))

theorem s_ref02_Clock_Set_eq (M : CombL) (C : CallF) (LP : LoopH) (a0 : Value) (a1 : Value) (a2 : Value) (H : AHeap) : dBodyL M Try.prog hints C LP F.ref02_Clock_Set [a0, a1, a2] H = s_ref02_Clock_Set M.b.g M.c M.s Try.prog C (fun v1 v2 v3 v6 v8 H k => loopL M Try.prog hints C LP F.ref02_Clock_Set 0 [(1, v1), (2, v2), (3, v3), (6, v6), (8, v8)] H k) a0 a1 a2 H (endK Try.prog [.cell 6 T.ref02_Clock, .tmp 7]) := by kernel_rfl

theorem s_ref02_Clock_Set_b0_eq (M : CombL) (C : CallF) (LP : LoopH) (v1 : Value) (v2 : Value) (v3 : Value) (v6 : Value) (v8 : Value) (H : AHeap) (k : K) : bodyL M Try.prog hints C LP F.ref02_Clock_Set 0 [(1, v1), (2, v2), (3, v3), (6, v6), (8, v8)] H (afterK [1, 2, 3, 6, 8] k) = s_ref02_Clock_Set_b0 M.b.g M.c M.s Try.prog C (fun v1 v2 v3 v6 v8 H k => loopL M Try.prog hints C LP F.ref02_Clock_Set 0 [(1, v1), (2, v2), (3, v3), (6, v6), (8, v8)] H k) v1 v2 v3 v6 v8 H k := by kernel_rfl

/-! (ticketline.ticketlineref02.Clock).Clear -/

noncomputable def s_ref02_Clock_Clear (mg : GT) (mc : CT) (ms : ST) (P : Program) (C : CallF) (L0 : Value → Value → Value → Value → Value → AHeap → K → Res) (a0 : Value) (a1 : Value) (H : AHeap) (K0 : K) : Res :=
bothK (newv T.ref02_Clock a0 H) fun t2 h1 =>
bothK (newv T.ref02_Clock (.agg #[(.int .i64 0), (.slice none 0 0)]) h1) fun t4 h2 =>
bareK (ldN 2 h2 t2) h2 fun t8 h3 =>
enterK C F.ref02_Clock_has [t8, a1] h3 fun t10 h4 =>
bareK (xun P .not t10) h4 fun t11 h5 =>
mc t11 (fun k1 => bareK (ldN 2 h5 t2) h5 fun t12 h6 =>
quietK (stN 2 h6 t4 t12) fun _ h7 =>
k1 .ret [(4, t4), (5, (.int .i64 9))] h7) (fun k1 =>
k1 .normal [(1, a1), (2, t2), (4, t4)] h5) (seqK (fun tT h8 =>
bareK (fad 0 (get tT 2)) h8 fun t13 h9 =>
bareK (ld1 h9 t13) h9 fun t14 h10 =>
bareK (bldS #[(.int .i64 0), (.slice none 0 0)] [(0, 1), (1, 1)] [(0, t14)]) h10 fun t15 h11 =>
bothK (newv T.ref02_Clock (.agg #[(.int .i64 0), (.slice none 0 0)]) h11) fun t6 h12 =>
quietK (stN 2 h12 t6 t15) fun _ h13 =>
ms (fun k2 =>
L0 (get tT 1) (get tT 2) (get tT 4) t6 (.int .i64 0) h13 (blkK [4, 6] 0 k2)) (seqK (fun tT_1 h14 =>
bareK (ldN 2 h14 (get tT_1 6)) h14 fun t41 h15 =>
quietK (stN 2 h15 (get tT_1 4) t41) fun _ h16 =>
K0 .ret [(4, (get tT_1 4)), (5, (.int .i64 0))] h16) K0)) K0)

noncomputable def s_ref02_Clock_Clear_b0 (mg : GT) (mc : CT) (ms : ST) (P : Program) (C : CallF) (L0 : Value → Value → Value → Value → Value → AHeap → K → Res) (v1 : Value) (v2 : Value) (v4 : Value) (v6 : Value) (v7 : Value) (H : AHeap) (k : K) : Res :=
bareK (fad 1 v2) H fun t17 h14 =>
bareK (ld1 h14 t17) h14 fun t18 h15 =>
bareK (lenS t18) h15 fun t19 h16 =>
bareK (xbin P .lss T.int (.tmp 16) (.tmp 19) v7 t19) h16 fun t20 h17 =>
mc t20 (fun k3 => k3 .normal [(1, v1), (2, v2), (4, v4), (6, v6), (7, v7)] h17) (fun k3 =>
k3 (.exit 0) [(20, t20), (19, t19), (18, t18), (17, t17), (16, v7), (1, v1), (2, v2), (4, v4), (6, v6), (7, v7)] h17) (seqK (fun tT h18 =>
ms (fun k4 =>
bareK (fad 1 (get tT 2)) h18 fun t23 h19 =>
bareK (ld1 h19 t23) h19 fun t24 h20 =>
bareK (ixS 2 t24 (get tT 7)) h20 fun t26 h21 =>
bareK (fad 0 t26) h21 fun t27 h22 =>
bareK (ld1 h22 t27) h22 fun t28 h23 =>
bareK (xbin P .neq T.int (.tmp 28) (.tmp 29) t28 (get tT 1)) h23 fun t30 h24 =>
mc t30 (fun k5 => bareK (fad 1 (get tT 6)) h24 fun t31 h25 =>
bareK (ld1 h25 t31) h25 fun t32 h26 =>
bareK (fad 1 (get tT 2)) h26 fun t33 h27 =>
bareK (ld1 h27 t33) h27 fun t34 h28 =>
bareK (ixS 2 t34 (get tT 7)) h28 fun t36 h29 =>
bareK (ldN 2 h29 t36) h29 fun t37 h30 =>
bothK (bldL T.api_Alarm [(.int .i64 0), (.int .i64 0)] 1 [(0, t37)] h30) fun t38 h31 =>
bothK (app T.api_Alarm 2 16 t32 (srcS 2 t38 h31) h31) fun t39 h32 =>
bareK (fad 1 (get tT 6)) h32 fun t40 h33 =>
quietK (st1 h33 t40 t39) fun _ h34 =>
checkK true <|
k5 .normal [(1, (get tT 1)), (2, (get tT 2)), (4, (get tT 4)), (6, (get tT 6)), (7, (get tT 7))] h34) (fun k5 =>
k5 .normal [(1, (get tT 1)), (2, (get tT 2)), (4, (get tT 4)), (6, (get tT 6)), (7, (get tT 7))] h24) (blkK [1, 2, 4, 6, 7] 1 k4)) (seqK (fun tT_1 h35 =>
bareK (xbin P .add T.int (.tmp 21) (.const (.int .i64 1)) (get tT_1 7) (.int .i64 1)) h35 fun t22 h36 =>
k .normal [(1, (get tT_1 1)), (2, (get tT_1 2)), (4, (get tT_1 4)), (6, (get tT_1 6)), (7, t22)] h36) (afterK [1, 2, 4, 6, 7] k))) (afterK [1, 2, 4, 6, 7] k))

theorem s_ref02_Clock_Clear_eq (M : CombL) (C : CallF) (LP : LoopH) (a0 : Value) (a1 : Value) (H : AHeap) : dBodyL M Try.prog hints C LP F.ref02_Clock_Clear [a0, a1] H = s_ref02_Clock_Clear M.b.g M.c M.s Try.prog C (fun v1 v2 v4 v6 v7 H k => loopL M Try.prog hints C LP F.ref02_Clock_Clear 0 [(1, v1), (2, v2), (4, v4), (6, v6), (7, v7)] H k) a0 a1 H (endK Try.prog [.cell 4 T.ref02_Clock, .tmp 5]) := by kernel_rfl

theorem s_ref02_Clock_Clear_b0_eq (M : CombL) (C : CallF) (LP : LoopH) (v1 : Value) (v2 : Value) (v4 : Value) (v6 : Value) (v7 : Value) (H : AHeap) (k : K) : bodyL M Try.prog hints C LP F.ref02_Clock_Clear 0 [(1, v1), (2, v2), (4, v4), (6, v6), (7, v7)] H (afterK [1, 2, 4, 6, 7] k) = s_ref02_Clock_Clear_b0 M.b.g M.c M.s Try.prog C (fun v1 v2 v4 v6 v7 H k => loopL M Try.prog hints C LP F.ref02_Clock_Clear 0 [(1, v1), (2, v2), (4, v4), (6, v6), (7, v7)] H k) v1 v2 v4 v6 v7 H k := by kernel_rfl

/-! (ticketline.ticketlineref02.Clock).Pass -/

noncomputable def s_ref02_Clock_Pass (mg : GT) (mc : CT) (ms : ST) (P : Program) (C : CallF) (L0 : Value → Value → Value → Value → Value → AHeap → K → Res) (a0 : Value) (a1 : Value) (H : AHeap) (K0 : K) : Res :=
bothK (newv T.ref02_Clock a0 H) fun t2 h1 =>
bothK (newv T.ref02_Clock (.agg #[(.int .i64 0), (.slice none 0 0)]) h1) fun t4 h2 =>
bareK (xbin P .lss T.int (.tmp 10) (.const (.int .i64 0)) a1 (.int .i64 0)) h2 fun t11 h3 =>
mc t11 (fun k1 => bareK (ldN 2 h3 t2) h3 fun t12 h4 =>
quietK (stN 2 h4 t4 t12) fun _ h5 =>
k1 .ret [(4, t4), (5, (.slice none 0 0)), (6, (.int .i64 2))] h5) (fun k1 =>
k1 .normal [(1, a1), (2, t2), (4, t4)] h3) (seqK (fun tT h6 =>
bareK (fad 0 (get tT 2)) h6 fun t13 h7 =>
bareK (ld1 h7 t13) h7 fun t14 h8 =>
enterK C F.ref02_Due [t14, (get tT 1)] h8 fun t16 h9 =>
bareK (bldS #[(.int .i64 0), (.slice none 0 0)] [(0, 1), (1, 1)] [(0, t16)]) h9 fun t17 h10 =>
bothK (newv T.ref02_Clock (.agg #[(.int .i64 0), (.slice none 0 0)]) h10) fun t7 h11 =>
quietK (stN 2 h11 t7 t17) fun _ h12 =>
ms (fun k2 =>
L0 (get tT 2) (get tT 4) t7 (.slice none 0 0) (.int .i64 0) h12 (blkK [4, 7, 8] 0 k2)) (seqK (fun tT_1 h13 =>
bareK (ldN 2 h13 (get tT_1 7)) h13 fun t61 h14 =>
quietK (stN 2 h14 (get tT_1 4) t61) fun _ h15 =>
K0 .ret [(4, (get tT_1 4)), (5, (get tT_1 8)), (6, (.int .i64 0))] h15) K0)) K0)

noncomputable def s_ref02_Clock_Pass_b0 (mg : GT) (mc : CT) (ms : ST) (P : Program) (C : CallF) (L0 : Value → Value → Value → Value → Value → AHeap → K → Res) (v2 : Value) (v4 : Value) (v7 : Value) (v8 : Value) (v9 : Value) (H : AHeap) (k : K) : Res :=
bareK (fad 1 v2) H fun t19 h13 =>
bareK (ld1 h13 t19) h13 fun t20 h14 =>
bareK (lenS t20) h14 fun t21 h15 =>
bareK (xbin P .lss T.int (.tmp 18) (.tmp 21) v9 t21) h15 fun t22 h16 =>
mc t22 (fun k3 => k3 .normal [(2, v2), (4, v4), (7, v7), (8, v8), (9, v9)] h16) (fun k3 =>
k3 (.exit 0) [(22, t22), (21, t21), (20, t20), (19, t19), (18, v9), (2, v2), (4, v4), (7, v7), (8, v8), (9, v9)] h16) (seqK (fun tT h17 =>
ms (fun k4 =>
bareK (fad 1 (get tT 2)) h17 fun t25 h18 =>
bareK (ld1 h18 t25) h18 fun t26 h19 =>
bareK (ixS 2 t26 (get tT 9)) h19 fun t28 h20 =>
bareK (fad 1 t28) h20 fun t29 h21 =>
bareK (ld1 h21 t29) h21 fun t30 h22 =>
bareK (fad 0 (get tT 7)) h22 fun t31 h23 =>
bareK (ld1 h23 t31) h23 fun t32 h24 =>
bareK (xbin P .leq T.int (.tmp 30) (.tmp 32) t30 t32) h24 fun t33 h25 =>
mg t33 true (fun o5 => bareK (fad 1 (get tT 2)) h25 o5) h25 fun t35 h26 =>
mg t33 true (fun o6 => bareK (ld1 h26 t35) h26 o6) h26 fun t36 h27 =>
mg t33 true (fun o7 => o7 (get tT 9) h27) h27 fun t37 h28 =>
mg t33 true (fun o8 => bareK (ixS 2 t36 t37) h28 o8) h28 fun t38 h29 =>
mg t33 true (fun o9 => bareK (fad 1 t38) h29 o9) h29 fun t39 h30 =>
mg t33 true (fun o10 => bareK (ld1 h30 t39) h30 o10) h30 fun t40 h31 =>
mg t33 true (fun o11 => bareK (xbin P .lss T.int (.tmp 40) (.const (.int .i64 4611686018427387904)) t40 (.int .i64 4611686018427387904)) h31 o11) h31 fun t41 h32 =>
pickK t33 t41 (.bool false) fun t42 =>
checkK true <|
mc t42 (fun k12 => bareK (fad 1 (get tT 2)) h32 fun t44 h33 =>
bareK (ld1 h33 t44) h33 fun t45 h34 =>
bareK (ixS 2 t45 (get tT 9)) h34 fun t47 h35 =>
bareK (ldN 2 h35 t47) h35 fun t48 h36 =>
bothK (bldL T.api_Alarm [(.int .i64 0), (.int .i64 0)] 1 [(0, t48)] h36) fun t49 h37 =>
bothK (app T.api_Alarm 2 16 (get tT 8) (srcS 2 t49 h37) h37) fun t50 h38 =>
k12 .normal [(2, (get tT 2)), (4, (get tT 4)), (7, (get tT 7)), (8, t50), (9, (get tT 9))] h38) (fun k12 =>
bareK (fad 1 (get tT 7)) h32 fun t51 h39 =>
bareK (ld1 h39 t51) h39 fun t52 h40 =>
bareK (fad 1 (get tT 2)) h40 fun t53 h41 =>
bareK (ld1 h41 t53) h41 fun t54 h42 =>
bareK (ixS 2 t54 (get tT 9)) h42 fun t56 h43 =>
bareK (ldN 2 h43 t56) h43 fun t57 h44 =>
bothK (bldL T.api_Alarm [(.int .i64 0), (.int .i64 0)] 1 [(0, t57)] h44) fun t58 h45 =>
bothK (app T.api_Alarm 2 16 t52 (srcS 2 t58 h45) h45) fun t59 h46 =>
bareK (fad 1 (get tT 7)) h46 fun t60 h47 =>
quietK (st1 h47 t60 t59) fun _ h48 =>
checkK true <|
k12 .normal [(2, (get tT 2)), (4, (get tT 4)), (7, (get tT 7)), (8, (get tT 8)), (9, (get tT 9))] h48) (blkK [2, 4, 7, 8, 9] 1 k4)) (seqK (fun tT_1 h49 =>
bareK (xbin P .add T.int (.tmp 23) (.const (.int .i64 1)) (get tT_1 9) (.int .i64 1)) h49 fun t24 h50 =>
k .normal [(2, (get tT_1 2)), (4, (get tT_1 4)), (7, (get tT_1 7)), (8, (get tT_1 8)), (9, t24)] h50) (afterK [2, 4, 7, 8, 9] k))) (afterK [2, 4, 7, 8, 9] k))

theorem s_ref02_Clock_Pass_eq (M : CombL) (C : CallF) (LP : LoopH) (a0 : Value) (a1 : Value) (H : AHeap) : dBodyL M Try.prog hints C LP F.ref02_Clock_Pass [a0, a1] H = s_ref02_Clock_Pass M.b.g M.c M.s Try.prog C (fun v2 v4 v7 v8 v9 H k => loopL M Try.prog hints C LP F.ref02_Clock_Pass 0 [(2, v2), (4, v4), (7, v7), (8, v8), (9, v9)] H k) a0 a1 H (endK Try.prog [.cell 4 T.ref02_Clock, .tmp 5, .tmp 6]) := by kernel_rfl

theorem s_ref02_Clock_Pass_b0_eq (M : CombL) (C : CallF) (LP : LoopH) (v2 : Value) (v4 : Value) (v7 : Value) (v8 : Value) (v9 : Value) (H : AHeap) (k : K) : bodyL M Try.prog hints C LP F.ref02_Clock_Pass 0 [(2, v2), (4, v4), (7, v7), (8, v8), (9, v9)] H (afterK [2, 4, 7, 8, 9] k) = s_ref02_Clock_Pass_b0 M.b.g M.c M.s Try.prog C (fun v2 v4 v7 v8 v9 H k => loopL M Try.prog hints C LP F.ref02_Clock_Pass 0 [(2, v2), (4, v4), (7, v7), (8, v8), (9, v9)] H k) v2 v4 v7 v8 v9 H k := by kernel_rfl

/-! (ticketline.ticketlineref02.Clock).Next -/

noncomputable def s_ref02_Clock_Next (mg : GT) (mc : CT) (ms : ST) (P : Program) (C : CallF) (a0 : Value) (H : AHeap) (K0 : K) : Res :=
bothK (newv T.ref02_Clock a0 H) fun t1 h1 =>
bareK (fad 1 t1) h1 fun t3 h2 =>
bareK (ld1 h2 t3) h2 fun t4 h3 =>
bareK (lenS t4) h3 fun t5 h4 =>
bareK (xbin P .eql T.int (.tmp 5) (.const (.int .i64 0)) t5 (.int .i64 0)) h4 fun t6 h5 =>
mc t6 (fun k1 => k1 .ret [(2, (.int .i64 4611686018427387904))] h5) (fun k1 =>
k1 .normal [(1, t1)] h5) (seqK (fun tT h6 =>
bareK (fad 1 (get tT 1)) h6 fun t7 h7 =>
bareK (ld1 h7 t7) h7 fun t8 h8 =>
bareK (ixS 2 t8 (.int .i64 0)) h8 fun t9 h9 =>
bareK (fad 1 t9) h9 fun t10 h10 =>
bareK (ld1 h10 t10) h10 fun t11 h11 =>
K0 .ret [(2, t11)] h11) K0)

theorem s_ref02_Clock_Next_eq (M : CombL) (C : CallF) (LP : LoopH) (a0 : Value) (H : AHeap) : dBodyL M Try.prog hints C LP F.ref02_Clock_Next [a0] H = s_ref02_Clock_Next M.b.g M.c M.s Try.prog C a0 H (endK Try.prog [.tmp 2]) := by kernel_rfl

/-! slices.IndexFunc[[]ticketline.clock.alarm,ticketline.clock.alarm] -/

noncomputable def s_slices_IndexFunc_alarm (mg : GT) (mc : CT) (ms : ST) (P : Program) (C : CallF) (L0 : Value → Value → Value → Value → AHeap → K → Res) (a0 : Value) (a1 : Value) (H : AHeap) (K0 : K) : Res :=
bareK (lenS a0) H fun t7 h1 =>
ms (fun k1 =>
L0 a0 a1 t7 (.int .i64 0) h1 (blkK [] 0 k1)) (seqK (fun tT h2 =>
K0 .ret [(4, (.int .i64 (-1)))] h2) K0)

noncomputable def s_slices_IndexFunc_alarm_b0 (mg : GT) (mc : CT) (ms : ST) (P : Program) (C : CallF) (L0 : Value → Value → Value → Value → AHeap → K → Res) (v0 : Value) (v1 : Value) (v7 : Value) (v8 : Value) (H : AHeap) (k : K) : Res :=
bareK (xbin P .lss T.int (.tmp 8) (.tmp 7) v8 v7) H fun t9 h2 =>
mc t9 (fun k2 => k2 .normal [(0, v0), (1, v1), (7, v7), (8, v8)] h2) (fun k2 =>
k2 (.exit 0) [(9, t9), (0, v0), (1, v1), (7, v7), (8, v8)] h2) (seqK (fun tT h3 =>
ms (fun k3 =>
bareK (ixS 2 (get tT 0) (get tT 8)) h3 fun t14 h4 =>
bareK (ldN 2 h4 t14) h4 fun t15 h5 =>
callK P C (get tT 1) [t15] h5 fun t16 h6 =>
mc t16 (fun k4 => k4 .ret [(4, (get tT 8))] h6) (fun k4 =>
k4 .normal [(0, (get tT 0)), (1, (get tT 1)), (7, (get tT 7)), (8, (get tT 8))] h6) (blkK [0, 1, 7, 8] 1 k3)) (seqK (fun tT_1 h7 =>
bareK (xbin P .add T.int (.tmp 8) (.const (.int .i64 1)) (get tT_1 8) (.int .i64 1)) h7 fun t18 h8 =>
k .normal [(0, (get tT_1 0)), (1, (get tT_1 1)), (7, (get tT_1 7)), (8, t18)] h8) (afterK [0, 1, 7, 8] k))) (afterK [0, 1, 7, 8] k))

theorem s_slices_IndexFunc_alarm_eq (M : CombL) (C : CallF) (LP : LoopH) (a0 : Value) (a1 : Value) (H : AHeap) : dBodyL M Try.prog hints C LP F.slices_IndexFunc_alarm [a0, a1] H = s_slices_IndexFunc_alarm M.b.g M.c M.s Try.prog C (fun v0 v1 v7 v8 H k => loopL M Try.prog hints C LP F.slices_IndexFunc_alarm 0 [(0, v0), (1, v1), (7, v7), (8, v8)] H k) a0 a1 H (endK Try.prog [.tmp 4]) := by kernel_rfl

theorem s_slices_IndexFunc_alarm_b0_eq (M : CombL) (C : CallF) (LP : LoopH) (v0 : Value) (v1 : Value) (v7 : Value) (v8 : Value) (H : AHeap) (k : K) : bodyL M Try.prog hints C LP F.slices_IndexFunc_alarm 0 [(0, v0), (1, v1), (7, v7), (8, v8)] H (afterK [0, 1, 7, 8] k) = s_slices_IndexFunc_alarm_b0 M.b.g M.c M.s Try.prog C (fun v0 v1 v7 v8 H k => loopL M Try.prog hints C LP F.slices_IndexFunc_alarm 0 [(0, v0), (1, v1), (7, v7), (8, v8)] H k) v0 v1 v7 v8 H k := by kernel_rfl

/-! (*ticketline.clock.Clock).find$1 -/

noncomputable def s_clock_Clock_find_1 (mg : GT) (mc : CT) (ms : ST) (P : Program) (C : CallF) (a0 : Value) (a1 : Value) (H : AHeap) (K0 : K) : Res :=
bothK (newv T.clock_alarm a0 H) fun t2 h1 =>
bareK (fad 0 t2) h1 fun t4 h2 =>
bareK (ld1 h2 t4) h2 fun t5 h3 =>
bareK (ld1 h3 a1) h3 fun t6 h4 =>
bareK (xbin P .eql T.int (.tmp 5) (.tmp 6) t5 t6) h4 fun t7 h5 =>
K0 .ret [(3, t7)] h5

theorem s_clock_Clock_find_1_eq (M : CombL) (C : CallF) (LP : LoopH) (a0 : Value) (a1 : Value) (H : AHeap) : dBodyL M Try.prog hints C LP F.clock_Clock_find_1 [a0, a1] H = s_clock_Clock_find_1 M.b.g M.c M.s Try.prog C a0 a1 H (endK Try.prog [.tmp 3]) := by kernel_rfl

/-! cmp.Or[int] -/

noncomputable def s_cmp_Or_int (mg : GT) (mc : CT) (ms : ST) (P : Program) (C : CallF) (L0 : Value → Value → Value → Value → AHeap → K → Res) (a0 : Value) (H : AHeap) (K0 : K) : Res :=
bareK (lenS a0) H fun t7 h1 =>
ms (fun k1 =>
L0 (.int .i64 0) a0 t7 (.int .i64 0) h1 (blkK [3] 0 k1)) (seqK (fun tT h2 =>
K0 .ret [(2, (get tT 3))] h2) K0)

noncomputable def s_cmp_Or_int_b0 (mg : GT) (mc : CT) (ms : ST) (P : Program) (C : CallF) (L0 : Value → Value → Value → Value → AHeap → K → Res) (v3 : Value) (v6 : Value) (v7 : Value) (v8 : Value) (H : AHeap) (k : K) : Res :=
bareK (xbin P .lss T.int (.tmp 8) (.tmp 7) v8 v7) H fun t9 h2 =>
mc t9 (fun k2 => k2 .normal [(3, v3), (6, v6), (7, v7), (8, v8)] h2) (fun k2 =>
k2 (.exit 0) [(9, t9), (3, v3), (6, v6), (7, v7), (8, v8)] h2) (seqK (fun tT h3 =>
ms (fun k3 =>
bareK (ixS 1 (get tT 6) (get tT 8)) h3 fun t10 h4 =>
bareK (ld1 h4 t10) h4 fun t11 h5 =>
bareK (xbin P .neq T.int (.tmp 12) (.tmp 13) t11 (get tT 3)) h5 fun t14 h6 =>
mc t14 (fun k4 => k4 .ret [(2, t11)] h6) (fun k4 =>
k4 .normal [(3, (get tT 3)), (6, (get tT 6)), (7, (get tT 7)), (8, (get tT 8))] h6) (blkK [3, 6, 7, 8] 1 k3)) (seqK (fun tT_1 h7 =>
bareK (xbin P .add T.int (.tmp 8) (.const (.int .i64 1)) (get tT_1 8) (.int .i64 1)) h7 fun t16 h8 =>
k .normal [(3, (get tT_1 3)), (6, (get tT_1 6)), (7, (get tT_1 7)), (8, t16)] h8) (afterK [3, 6, 7, 8] k))) (afterK [3, 6, 7, 8] k))

theorem s_cmp_Or_int_eq (M : CombL) (C : CallF) (LP : LoopH) (a0 : Value) (H : AHeap) : dBodyL M Try.prog hints C LP F.cmp_Or_int [a0] H = s_cmp_Or_int M.b.g M.c M.s Try.prog C (fun v3 v6 v7 v8 H k => loopL M Try.prog hints C LP F.cmp_Or_int 0 [(3, v3), (6, v6), (7, v7), (8, v8)] H k) a0 H (endK Try.prog [.tmp 2]) := by kernel_rfl

theorem s_cmp_Or_int_b0_eq (M : CombL) (C : CallF) (LP : LoopH) (v3 : Value) (v6 : Value) (v7 : Value) (v8 : Value) (H : AHeap) (k : K) : bodyL M Try.prog hints C LP F.cmp_Or_int 0 [(3, v3), (6, v6), (7, v7), (8, v8)] H (afterK [3, 6, 7, 8] k) = s_cmp_Or_int_b0 M.b.g M.c M.s Try.prog C (fun v3 v6 v7 v8 H k => loopL M Try.prog hints C LP F.cmp_Or_int 0 [(3, v3), (6, v6), (7, v7), (8, v8)] H k) v3 v6 v7 v8 H k := by kernel_rfl

/-! cmp.Compare[int] -/

noncomputable def s_cmp_Compare_int (mg : GT) (mc : CT) (ms : ST) (P : Program) (C : CallF) (a0 : Value) (a1 : Value) (H : AHeap) (K0 : K) : Res :=
enterK C F.cmp_isNaN_int [a0] H fun t8 h1 =>
enterK C F.cmp_isNaN_int [a1] h1 fun t10 h2 =>
mc t8 (fun k1 => mc t10 (fun k2 => k2 .ret [(4, (.int .i64 0))] h2) (fun k2 =>
k2 .normal [] h2) (seqK (fun tT h3 =>
k1 .ret [(4, (.int .i64 (-1)))] h3) (afterK [0, 1, 6] k1))) (fun k1 =>
k1 .normal [(0, a0), (1, a1), (6, t10)] h2) (seqK (fun tT_1 h4 =>
mc (get tT_1 6) (fun k3 => k3 .ret [(4, (.int .i64 1))] h4) (fun k3 =>
k3 .normal [(0, (get tT_1 0)), (1, (get tT_1 1))] h4) (seqK (fun tT_2 h5 =>
bareK (xbin P .lss T.int (.tmp 14) (.tmp 15) (get tT_2 0) (get tT_2 1)) h5 fun t16 h6 =>
mc t16 (fun k4 => k4 .ret [(4, (.int .i64 (-1)))] h6) (fun k4 =>
k4 .normal [(0, (get tT_2 0)), (1, (get tT_2 1))] h6) (seqK (fun tT_3 h7 =>
bareK (xbin P .gtr T.int (.tmp 17) (.tmp 18) (get tT_3 0) (get tT_3 1)) h7 fun t19 h8 =>
mc t19 (fun k5 => k5 .ret [(4, (.int .i64 1))] h8) (fun k5 =>
k5 .normal [] h8) (seqK (fun tT_4 h9 =>
K0 .ret [(4, (.int .i64 0))] h9) K0)) K0)) K0)) K0)

theorem s_cmp_Compare_int_eq (M : CombL) (C : CallF) (LP : LoopH) (a0 : Value) (a1 : Value) (H : AHeap) : dBodyL M Try.prog hints C LP F.cmp_Compare_int [a0, a1] H = s_cmp_Compare_int M.b.g M.c M.s Try.prog C a0 a1 H (endK Try.prog [.tmp 4]) := by kernel_rfl

/-! slices.rotateRight[ticketline.clock.alarm] -/

noncomputable def s_slices_rotateRight_alarm (mg : GT) (mc : CT) (ms : ST) (P : Program) (C : CallF) (a0 : Value) (a1 : Value) (H : AHeap) (K0 : K) : Res :=
bareK (lenS a0) H fun t6 h1 =>
bareK (xbin P .sub T.int (.tmp 6) (.tmp 7) t6 a1) h1 fun t8 h2 =>
enterK C F.slices_rotateLeft_alarm [a0, t8] h2 fun t9 h3 =>
K0 .normal [(9, t9), (8, t8), (7, a1), (6, t6), (5, a0), (4, a0), (0, a0), (1, a1)] h3

theorem s_slices_rotateRight_alarm_eq (M : CombL) (C : CallF) (LP : LoopH) (a0 : Value) (a1 : Value) (H : AHeap) : dBodyL M Try.prog hints C LP F.slices_rotateRight_alarm [a0, a1] H = s_slices_rotateRight_alarm M.b.g M.c M.s Try.prog C a0 a1 H (endK Try.prog []) := by kernel_rfl

/-! (ticketline.ticketlineref02.Clock).has -/

noncomputable def s_ref02_Clock_has (mg : GT) (mc : CT) (ms : ST) (P : Program) (C : CallF) (L0 : Value → Value → Value → AHeap → K → Res) (a0 : Value) (a1 : Value) (H : AHeap) (K0 : K) : Res :=
bothK (newv T.ref02_Clock a0 H) fun t2 h1 =>
ms (fun k1 =>
L0 a1 t2 (.int .i64 0) h1 (blkK [] 0 k1)) (seqK (fun tT h2 =>
K0 .ret [(4, (.bool false))] h2) K0)

noncomputable def s_ref02_Clock_has_b0 (mg : GT) (mc : CT) (ms : ST) (P : Program) (C : CallF) (L0 : Value → Value → Value → AHeap → K → Res) (v1 : Value) (v2 : Value) (v5 : Value) (H : AHeap) (k : K) : Res :=
bareK (fad 1 v2) H fun t7 h2 =>
bareK (ld1 h2 t7) h2 fun t8 h3 =>
bareK (lenS t8) h3 fun t9 h4 =>
bareK (xbin P .lss T.int (.tmp 6) (.tmp 9) v5 t9) h4 fun t10 h5 =>
mc t10 (fun k2 => k2 .normal [(1, v1), (2, v2), (5, v5)] h5) (fun k2 =>
k2 (.exit 0) [(10, t10), (9, t9), (8, t8), (7, t7), (6, v5), (1, v1), (2, v2), (5, v5)] h5) (seqK (fun tT h6 =>
ms (fun k3 =>
bareK (fad 1 (get tT 2)) h6 fun t13 h7 =>
bareK (ld1 h7 t13) h7 fun t14 h8 =>
bareK (ixS 2 t14 (get tT 5)) h8 fun t16 h9 =>
bareK (fad 0 t16) h9 fun t17 h10 =>
bareK (ld1 h10 t17) h10 fun t18 h11 =>
bareK (xbin P .eql T.int (.tmp 18) (.tmp 19) t18 (get tT 1)) h11 fun t20 h12 =>
mc t20 (fun k4 => k4 .ret [(4, (.bool true))] h12) (fun k4 =>
k4 .normal [(1, (get tT 1)), (2, (get tT 2)), (5, (get tT 5))] h12) (blkK [1, 2, 5] 1 k3)) (seqK (fun tT_1 h13 =>
bareK (xbin P .add T.int (.tmp 11) (.const (.int .i64 1)) (get tT_1 5) (.int .i64 1)) h13 fun t12 h14 =>
k .normal [(1, (get tT_1 1)), (2, (get tT_1 2)), (5, t12)] h14) (afterK [1, 2, 5] k))) (afterK [1, 2, 5] k))

theorem s_ref02_Clock_has_eq (M : CombL) (C : CallF) (LP : LoopH) (a0 : Value) (a1 : Value) (H : AHeap) : dBodyL M Try.prog hints C LP F.ref02_Clock_has [a0, a1] H = s_ref02_Clock_has M.b.g M.c M.s Try.prog C (fun v1 v2 v5 H k => loopL M Try.prog hints C LP F.ref02_Clock_has 0 [(1, v1), (2, v2), (5, v5)] H k) a0 a1 H (endK Try.prog [.tmp 4]) := by kernel_rfl

theorem s_ref02_Clock_has_b0_eq (M : CombL) (C : CallF) (LP : LoopH) (v1 : Value) (v2 : Value) (v5 : Value) (H : AHeap) (k : K) : bodyL M Try.prog hints C LP F.ref02_Clock_has 0 [(1, v1), (2, v2), (5, v5)] H (afterK [1, 2, 5] k) = s_ref02_Clock_has_b0 M.b.g M.c M.s Try.prog C (fun v1 v2 v5 H k => loopL M Try.prog hints C LP F.ref02_Clock_has 0 [(1, v1), (2, v2), (5, v5)] H k) v1 v2 v5 H k := by kernel_rfl

/-! cmp.isNaN[int] -/

noncomputable def s_cmp_isNaN_int (mg : GT) (mc : CT) (ms : ST) (P : Program) (C : CallF) (a0 : Value) (H : AHeap) (K0 : K) : Res :=
bareK (xbin P .neq T.int (.tmp 3) (.tmp 4) a0 a0) H fun t5 h1 =>
K0 .ret [(2, t5)] h1

theorem s_cmp_isNaN_int_eq (M : CombL) (C : CallF) (LP : LoopH) (a0 : Value) (H : AHeap) : dBodyL M Try.prog hints C LP F.cmp_isNaN_int [a0] H = s_cmp_isNaN_int M.b.g M.c M.s Try.prog C a0 H (endK Try.prog [.tmp 2]) := by kernel_rfl

/-! slices.rotateLeft[ticketline.clock.alarm] -/

noncomputable def s_slices_rotateLeft_alarm (mg : GT) (mc : CT) (ms : ST) (P : Program) (C : CallF) (a0 : Value) (a1 : Value) (H : AHeap) (K0 : K) : Res :=
bareK (slS T.clock_alarm 2 a0 none (some a1) none H) H fun t6 h1 =>
enterK C F.slices_Reverse_alarm [t6] h1 fun t7 h2 =>
bareK (slS T.clock_alarm 2 a0 (some a1) none none h2) h2 fun t10 h3 =>
enterK C F.slices_Reverse_alarm [t10] h3 fun t11 h4 =>
enterK C F.slices_Reverse_alarm [a0] h4 fun t13 h5 =>
K0 .normal [(13, t13), (12, a0), (11, t11), (10, t10), (9, a1), (8, a0), (7, t7), (6, t6), (5, a1), (4, a0), (0, a0), (1, a1)] h5

theorem s_slices_rotateLeft_alarm_eq (M : CombL) (C : CallF) (LP : LoopH) (a0 : Value) (a1 : Value) (H : AHeap) : dBodyL M Try.prog hints C LP F.slices_rotateLeft_alarm [a0, a1] H = s_slices_rotateLeft_alarm M.b.g M.c M.s Try.prog C a0 a1 H (endK Try.prog []) := by kernel_rfl

/-! slices.Reverse[[]ticketline.clock.alarm,ticketline.clock.alarm] -/

noncomputable def s_slices_Reverse_alarm (mg : GT) (mc : CT) (ms : ST) (P : Program) (C : CallF) (L0 : Value → Value → Value → AHeap → K → Res) (a0 : Value) (H : AHeap) (K0 : K) : Res :=
bareK (lenS a0) H fun t5 h1 =>
bareK (xbin P .sub T.int (.tmp 5) (.const (.int .i64 1)) t5 (.int .i64 1)) h1 fun t6 h2 =>
ms (fun k1 =>
L0 a0 (.int .i64 0) t6 h2 (blkK [] 0 k1)) K0

noncomputable def s_slices_Reverse_alarm_b0 (mg : GT) (mc : CT) (ms : ST) (P : Program) (C : CallF) (L0 : Value → Value → Value → AHeap → K → Res) (v0 : Value) (v2 : Value) (v3 : Value) (H : AHeap) (k : K) : Res :=
bareK (xbin P .lss T.int (.tmp 7) (.tmp 8) v2 v3) H fun t9 h3 =>
mc t9 (fun k2 => k2 .normal [(0, v0), (2, v2), (3, v3)] h3) (fun k2 =>
k2 (.exit 0) [(9, t9), (8, v3), (7, v2), (0, v0), (2, v2), (3, v3)] h3) (seqK (fun tT h4 =>
ms (fun k3 =>
bareK (ixS 2 (get tT 0) (get tT 3)) h4 fun t20 h5 =>
bareK (ldN 2 h5 t20) h5 fun t21 h6 =>
bareK (ixS 2 (get tT 0) (get tT 2)) h6 fun t24 h7 =>
bareK (ldN 2 h7 t24) h7 fun t25 h8 =>
bareK (ixS 2 (get tT 0) (get tT 2)) h8 fun t26 h9 =>
quietK (stN 2 h9 t26 t21) fun _ h10 =>
bareK (ixS 2 (get tT 0) (get tT 3)) h10 fun t27 h11 =>
quietK (stN 2 h11 t27 t25) fun _ h12 =>
checkK (okV (some true) none h9 h10 h4 h4 && (okV (some true) none h9 h10 h4 h4 && true)) <|
k3 .normal [(0, (get tT 0)), (2, (get tT 2)), (3, (get tT 3))] h12) (seqK (fun tT_1 h13 =>
bareK (xbin P .add T.int (.tmp 10) (.const (.int .i64 1)) (get tT_1 2) (.int .i64 1)) h13 fun t11 h14 =>
bareK (xbin P .sub T.int (.tmp 12) (.const (.int .i64 1)) (get tT_1 3) (.int .i64 1)) h14 fun t13 h15 =>
k .normal [(0, (get tT_1 0)), (2, t11), (3, t13)] h15) (afterK [0, 2, 3] k))) (afterK [0, 2, 3] k))

theorem s_slices_Reverse_alarm_eq (M : CombL) (C : CallF) (LP : LoopH) (a0 : Value) (H : AHeap) : dBodyL M Try.prog hints C LP F.slices_Reverse_alarm [a0] H = s_slices_Reverse_alarm M.b.g M.c M.s Try.prog C (fun v0 v2 v3 H k => loopL M Try.prog hints C LP F.slices_Reverse_alarm 0 [(0, v0), (2, v2), (3, v3)] H k) a0 H (endK Try.prog []) := by kernel_rfl

theorem s_slices_Reverse_alarm_b0_eq (M : CombL) (C : CallF) (LP : LoopH) (v0 : Value) (v2 : Value) (v3 : Value) (H : AHeap) (k : K) : bodyL M Try.prog hints C LP F.slices_Reverse_alarm 0 [(0, v0), (2, v2), (3, v3)] H (afterK [0, 2, 3] k) = s_slices_Reverse_alarm_b0 M.b.g M.c M.s Try.prog C (fun v0 v2 v3 H k => loopL M Try.prog hints C LP F.slices_Reverse_alarm 0 [(0, v0), (2, v2), (3, v3)] H k) v0 v2 v3 H k := by kernel_rfl

end Go.Proofs.Ytldgonjihhndgaa

/-
  The engine, part 19: slices.Insert: what the engine's run of its text comes to, where the capacity is known: room, or none.
  Conditions: none. By an AI agent.
-/
set_option linter.unusedVariables false
namespace Go.Proofs.Ytldgonjihhndgaa.Eng
open Go

variable {P : Program} {H H' : AHeap}

theorem bareK_step {x : Option Value} {v : Value} {k : Value → AHeap → Res} {r : Res} (h : x = some v) (hk : k v H = r) : bareK x H k = r := by rw [h]; exact hk
theorem bothK_step {x : Option (Value × AHeap)} {v : Value} {k : Value → AHeap → Res} {r : Res} (h : x = some (v, H')) (hk : k v H' = r) : bothK x k = r := by rw [h]; exact hk
theorem c_true {x y : K → Res} {keep : List Nat} {k : K} {r : Res} (h : x (afterK keep k) = r) : std.c (.bool true) x y keep k = r := h
theorem c_false {x y : K → Res} {keep : List Nat} {k : K} {r : Res} (h : y (afterK keep k) = r) : std.c (.bool false) x y keep k = r := h
theorem after_n {keep : List Nat} {T : Env} {f : Env → AHeap → Res} {k : K} {r : Res} (h : f (clr keep T) H = r) : afterK keep (seqK f k) .normal T H = r := h
theorem after_r {keep : List Nat} {T : Env} {f : Env → AHeap → Res} {k : K} {r : Res} (h : k .ret T H = r) : afterK keep (seqK f k) .ret T H = r := h

/-- x[i:] of a slice of known capacity. -/
theorem sl_from {t e : TypeId} {sz b o l c i : Nat} {q : IntKind} (hS : P.underlying t = some (.slice e)) (hq : sizeQ P e = some sz) (hi : i ≤ l) (hl : l ≤ c) :
    xslice P t (.slice (some ⟨b, o, none⟩) l (2 * c)) (some (.int q i)) none none H = some (.slice (some ⟨b, if c = i then o else o + i * sz, none⟩) (l - i) (2 * (c - i))) := by
  have h1 : 2 * c / 2 = c := by omega
  have h2 : 2 * c % 2 = 0 := by omega
  have h3 : (i : Int) ≤ l := by omega
  simp [xslice, hS, hq, slS, highOf, lowOf, bnd, h1, h2, hl, hi]

/-- x[:h]. -/
theorem sl_to {t e : TypeId} {sz b o l c h : Nat} {q : IntKind} (hS : P.underlying t = some (.slice e)) (hq : sizeQ P e = some sz) (hh : h ≤ c) (h0 : c ≠ 0) :
    xslice P t (.slice (some ⟨b, o, none⟩) l (2 * c)) none (some (.int q h)) none H = some (.slice (some ⟨b, o, none⟩) h (2 * c)) := by
  have h1 : 2 * c / 2 = c := by omega
  have h2 : 2 * c % 2 = 0 := by omega
  simp [xslice, hS, hq, slS, highOf, lowOf, bnd, h1, h2, h0, hh]

/-- x[i:] of a row that was appended to. -/
theorem sl_from' {t e : TypeId} {sz b o l c i : Nat} {q : IntKind} {xs : List Value} (hS : P.underlying t = some (.slice e)) (hq : sizeQ P e = some sz) (hi : i ≤ l) (hl : l ≤ c) (hb : H.f b = .cells xs e true) :
    xslice P t (.slice (some ⟨b, o, none⟩) l (2 * c + 1)) (some (.int q i)) none none H = some (.slice (some ⟨b, o + i * sz, none⟩) (l - i) (2 * (c - i) + 1)) := by
  have h1 : (2 * c + 1) / 2 = c := by omega
  have h2 : (2 * c + 1) % 2 = 1 := by omega
  have h3 : (i : Int) ≤ l := by omega
  simp [xslice, hS, hq, slS, highOf, lowOf, bnd, h1, h2, hl, hi, hb, rowOf]

theorem len_sl {t e : TypeId} {a : Option Addr} {l c : Nat} (hS : P.underlying t = some (.slice e)) {ts : List TypeId} : xlen P (t :: ts) (.slice a l c) = some (goInt l) := by
  simp [xlen, hS]

theorem copy_sl {t e : TypeId} {sz b o dl dc b' o' sl sc m : Nat} {ts : List TypeId} {l : List Value} (hS : P.underlying t = some (.slice e)) (hq : sizeQ P e = some sz) (hm : Nat.min sl dl = m) (h0 : m ≠ 0)
    (hc : cut H b' o' (m * sz) = some l) (hs : stL H b o l = some H') : xcopy P (t :: ts) (.slice (some ⟨b, o, none⟩) dl dc) (.slice (some ⟨b', o', none⟩) sl sc) H = some (goInt m, H') := by
  simp [xcopy, hS, hq, cpy, hm, h0, hc, hs]

/-- slices.overlaps, as it stands in the program. -/
structure Ovl (P : Program) (tS : TypeId) (fO : FuncId) : Prop where
  fn : ∃ fn, P.funcs[fO]? = some fn ∧ fn.name ≠ "runtime.NumGoroutine" ∧ fn.body.isSome = false ∧ fn.origin = "slices.overlaps" ∧ noRow fn.name = true ∧ fn.params.toList = [tS, tS]

theorem ovl_call {C : CallF} {tS el ev : TypeId} {fO : FuncId} (hO : Ovl P tS fO) (hS : P.underlying tS = some (.slice el)) {sz : Nat} (hq : sizeQ P el = some sz) {b o l c b' o' l' c' : Nat} {xs ys : List Value} {e' : TypeId} {rw' : Bool}
    (hb : H.f b = .cells xs ev true) (hb' : H.f b' = .cells ys e' rw') (hy : ys ≠ []) (hne : b ≠ b') (ht : tailQ P ev = 1) (ho : o ≤ xs.length) (h0 : l ≠ 0) (h1 : l' ≠ 0) {k : Value → AHeap → Res} :
    callK P C (.func (.func fO) #[] #[]) [.slice (some ⟨b, o, none⟩) l c, .slice (some ⟨b', o', none⟩) l' c'] H k = k (.bool false) H := by
  obtain ⟨fn, h2, h3, h4, h5, h6, h7⟩ := hO.fn
  cases ys with
  | nil => exact absurd rfl hy
  | cons y ys =>
    simp [callK, h2, h3, h4, xext, h5, h6, h0, h1, hb, hb', h7, hS, hne, ht, hq, ho, bareK]

def insK (M : Comb) (P : Program) (C : CallF) (n : Nat) (tS tI : TypeId) (fO fR : FuncId) (a0 : Value) (a1 : Value) (a2 : Value) (H : AHeap) (K0 : K) : Res :=
bareK (xslice P tS a0 (some a1) none none H) H fun t12 h1 =>
bareK (xlen P [tS] a2) h1 fun t14 h2 =>
bareK (xbin P .eql tI (.tmp 15) (.const (.int .i64 0)) t14 (.int .i64 0)) h2 fun t16 h3 =>
M.c t16 (fun k1 => k1 .ret [(6, a0)] h3) (fun k1 => k1 .normal [(16, t16), (15, t14), (7, t14), (14, t14), (13, a2), (12, t12), (11, a1), (10, a0), (6, (.slice none 0 0)), (0, a0), (1, a1), (2, a2)] h3) [0, 1, 2, 7] (seqK (fun tT h4 =>
bareK (xlen P [tS] (get tT 0)) h4 fun t19 h5 =>
bareK (xbin P .eql tI (.tmp 20) (.tmp 21) (get tT 1) t19) h5 fun t22 h6 =>
M.c t22 (fun k2 => bothK (xappend P [tS, tS] (get tT 0) (get tT 2) h6) fun t25 h7 =>
k2 .ret [(6, t25)] h7) (fun k2 => k2 .normal ((22, t22) :: (21, t19) :: (20, (get tT 1)) :: (8, t19) :: (19, t19) :: (18, (get tT 0)) :: tT) h6) [0, 1, 2, 7, 8] (seqK (fun tT_1 h8 =>
bareK (xbin P .add tI (.tmp 26) (.tmp 27) (get tT_1 8) (get tT_1 7)) h8 fun t28 h9 =>
nextK C h9 (xbuiltin P .cap [tS] [(get tT_1 0)] h9) fun t30 h10 =>
bareK (xbin P .gtr tI (.tmp 28) (.tmp 30) t28 t30) h10 fun t31 h11 =>
M.c t31 (fun k3 => bareK (xslice P tS (get tT_1 0) none (some (get tT_1 1)) none h11) h11 fun t34 h12 =>
bareK (xbin P .add tI (.tmp 35) (.tmp 36) (get tT_1 8) (get tT_1 7)) h12 fun t37 h13 =>
bareK (xbin P .sub tI (.tmp 37) (.tmp 38) t37 (get tT_1 1)) h13 fun t39 h14 =>
bothK (xappend P [tS, tI] t34 t39 h14) fun t40 h15 =>
bareK (xslice P tS t40 (some (get tT_1 1)) none none h15) h15 fun t43 h16 =>
bothK (xcopy P [tS, tS] t43 (get tT_1 2) h16) fun t45 h17 =>
bareK (xbin P .add tI (.tmp 47) (.tmp 48) (get tT_1 1) (get tT_1 7)) h17 fun t49 h18 =>
bareK (xslice P tS t40 (some t49) none none h18) h18 fun t50 h19 =>
bareK (xslice P tS (get tT_1 0) (some (get tT_1 1)) none none h19) h19 fun t53 h20 =>
bothK (xcopy P [tS, tS] t50 t53 h20) fun t54 h21 =>
checkK true <|
k3 .ret [(6, t40)] h21) (fun k3 => k3 .normal ((31, t31) :: (30, t30) :: (29, (get tT_1 0)) :: (28, t28) :: (27, (get tT_1 7)) :: (26, (get tT_1 8)) :: tT_1) h11) [0, 1, 2, 7, 8] (seqK (fun tT_2 h22 =>
bareK (xbin P .add tI (.tmp 57) (.tmp 58) (get tT_2 8) (get tT_2 7)) h22 fun t59 h23 =>
bareK (xslice P tS (get tT_2 0) none (some t59) none h23) h23 fun t60 h24 =>
bareK (xbin P .add tI (.tmp 63) (.tmp 64) (get tT_2 1) (get tT_2 7)) h24 fun t65 h25 =>
bareK (xslice P tS t60 (some t65) none none h25) h25 fun t66 h26 =>
callK P C (.func (.func fO) #[] #[]) [(get tT_2 2), t66] h26 fun t67 h27 =>
bareK (xun P .not t67) h27 fun t68 h28 =>
M.c t68 (fun k4 => bareK (xbin P .add tI (.tmp 70) (.tmp 71) (get tT_2 1) (get tT_2 7)) h28 fun t72 h29 =>
bareK (xslice P tS t60 (some t72) none none h29) h29 fun t73 h30 =>
bareK (xslice P tS t60 (some (get tT_2 1)) none none h30) h30 fun t76 h31 =>
bothK (xcopy P [tS, tS] t73 t76 h31) fun t77 h32 =>
checkK true <|
bareK (xslice P tS t60 (some (get tT_2 1)) none none h32) h32 fun t80 h33 =>
bothK (xcopy P [tS, tS] t80 (get tT_2 2) h33) fun t82 h34 =>
k4 .ret [(6, t60)] h34) (fun k4 => k4 .normal ((68, t68) :: (67, t67) :: (66, t66) :: (65, t65) :: (64, (get tT_2 7)) :: (63, (get tT_2 1)) :: (62, t60) :: (61, (get tT_2 2)) :: (0, t60) :: (60, t60) :: (59, t59) :: (58, (get tT_2 7)) :: (57, (get tT_2 8)) :: (56, (get tT_2 0)) :: tT_2) h28) [0, 1, 2, 7, 8] (seqK (fun tT_3 h35 =>
bareK (xslice P tS (get tT_3 0) (some (get tT_3 8)) none none h35) h35 fun t86 h36 =>
bothK (xcopy P [tS, tS] t86 (get tT_3 2) h36) fun t88 h37 =>
bareK (xslice P tS (get tT_3 0) (some (get tT_3 1)) none none h37) h37 fun t91 h38 =>
enterK C fR [t91, (get tT_3 7)] h38 fun t93 h39 =>
K0 .ret [(6, (get tT_3 0))] h39) K0)) K0)) K0)) K0)
/-- THERE IS ROOM: in place. -/
theorem insK_room {C : CallF} {n : Nat} {tS tI el ev : TypeId} {fO fR : FuncId} {K0 : K} (hS : P.underlying tS = some (.slice el)) {sz : Nat} (hq : sizeQ P el = some sz) (hO : Ovl P tS fO)
    {b o l c i m bv ov cv : Nat} {xs ys new old : List Value} (hi : i < l) (hm : m ≠ 0) (hroom : l + m ≤ c) (hbig : l + m < 4611686018427387904) (hH : H.f b = .cells xs el true) (hne : bv ≠ b)
    (hv : H.f bv = .cells ys ev true) (hov : ov ≤ ys.length) (htl : tailQ P ev = 1) (hxs : xs ≠ [])
    (hcut : cut H b (o + i * sz) ((l - i) * sz) = some old) (hst : stL H b (o + (i + m) * sz) old = some H')
    (hcut2 : cut H' bv ov (m * sz) = some new) {H2 : AHeap} (hst2 : stL H' b (o + i * sz) new = some H2) :
    insK std P C n tS tI fO fR (.slice (some ⟨b, o, none⟩) l (2 * c)) (.int .i64 i) (.slice (some ⟨bv, ov, none⟩) m cv) H K0 = K0 .ret [(6, .slice (some ⟨b, o, none⟩) (l + m) (2 * c))] H2 := by
  have w1 : IntKind.wrap .i64 ((l : Int) + m) = ((l + m : Nat) : Int) := by rw [wrap64 (by omega) (by omega)]; simp
  have w2 : IntKind.wrap .i64 ((i : Int) + m) = ((i + m : Nat) : Int) := by rw [wrap64 (by omega) (by omega)]; simp
  unfold insK
  refine bareK_step (sl_from hS hq (by omega) (by omega)) ?_
  refine bareK_step (len_sl hS) ?_
  refine bareK_step (v := .bool false) (by rw [goInt, xbin_eql]; simp; omega) ?_
  refine c_false ?_
  refine after_n ?_
  refine bareK_step (len_sl (l := l) (c := 2 * c) (a := some ⟨b, o, none⟩) hS) ?_
  refine bareK_step (v := .bool false) (by refine Eq.trans (xbin_eql (a := (i : Int)) (b := (l : Int))) ?_; simp; omega) ?_
  refine c_false ?_
  refine after_n ?_
  refine bareK_step (v := .int .i64 ((l + m : Nat) : Int)) (by refine Eq.trans (xbin_add (a := (l : Int)) (b := (m : Int))) ?_; rw [w1]) ?_
  refine Eq.trans (b := nextK C H (some (.val (goInt c) H)) _) (by
    have : xbuiltin P .cap [tS] [.slice (some ⟨b, o, none⟩) l (2 * c)] H = some (.val (goInt c) H) := by
      simp [xbuiltin, bare, xcap, hS]
    exact congrArg (fun x => nextK C H x _) this) ?_
  refine Eq.trans nextK_val ?_
  refine bareK_step (v := .bool false) (by refine Eq.trans (xbin_gtr (a := ((l + m : Nat) : Int)) (b := (c : Int))) ?_; simp; omega) ?_
  refine c_false ?_
  refine after_n ?_
  refine bareK_step (v := .int .i64 ((l + m : Nat) : Int)) (by refine Eq.trans (xbin_add (a := (l : Int)) (b := (m : Int))) ?_; rw [w1]) ?_
  refine bareK_step (sl_to (l := l) (b := b) (o := o) (c := c) (h := l + m) hS hq (by omega) (by omega)) ?_
  refine bareK_step (v := .int .i64 ((i + m : Nat) : Int)) (by refine Eq.trans (xbin_add (a := (i : Int)) (b := (m : Int))) ?_; rw [w2]) ?_
  refine bareK_step (sl_from hS hq (by omega) (by omega)) ?_
  refine Eq.trans (ovl_call hO hS hq hv hH hxs hne htl hov hm (by omega)) ?_
  refine bareK_step xun_not ?_
  refine c_true ?_
  refine bareK_step (v := .int .i64 ((i + m : Nat) : Int)) (by refine Eq.trans (xbin_add (a := (i : Int)) (b := (m : Int))) ?_; rw [w2]) ?_
  refine bareK_step (sl_from hS hq (by omega) (by omega)) ?_
  refine bareK_step (sl_from (i := i) hS hq (by omega) (by omega)) ?_
  have e1 : (if c = i + m then o else o + (i + m) * sz) = o + (i + m) * sz := by rw [if_neg (by omega)]
  have e2 : (if c = i then o else o + i * sz) = o + i * sz := by rw [if_neg (by omega)]
  rw [e1, e2]
  refine bothK_step (copy_sl (m := l - i) hS hq (by show min _ _ = _; omega) (by omega) hcut hst) ?_
  refine Eq.trans checkK_true ?_
  refine bareK_step (sl_from (i := i) hS hq (by omega) (by omega)) ?_
  rw [e2]
  refine bothK_step (copy_sl (m := m) hS hq (by show min _ _ = _; omega) hm hcut2 hst2) ?_
  exact after_r rfl

/-- append(s[:i], make(S, k)...) where there is no room: a new row. -/
theorem app_zeros {tS tI el : TypeId} (hS : P.underlying tS = some (.slice el)) (hI : P.underlying tI = some (.int .i64)) {z : List Value} (hz : zrow P el = some z) {b o c i k : Nat} {old : List Value}
    (hk : k ≠ 0) (hno : c < i + k) (hb1 : (i + k) * P.bytesOf el ≤ 140737488355328) (hb2 : i + k ≤ 140737488355328) (h1 : (zeros z k).all one = true) (ho : oldOf z.length i H (some ⟨b, o, none⟩) = some old) :
    xappend P [tS, tI] (.slice (some ⟨b, o, none⟩) i (2 * c)) (.int .i64 k) H = some (.slice (some ⟨H.n, 0, none⟩) (i + k) (2 * (i + k) + 1), H.push (.cells (old ++ zeros z k) el true)) := by
  have h2 : 2 * c / 2 = c := by omega
  have h3 : 2 * c % 2 = 0 := by omega
  have h4 : k * P.bytesOf el ≤ 140737488355328 := Nat.le_trans (Nat.mul_le_mul_right _ (by omega)) hb1
  have h5 : ¬ (140737488355328 < (i + k) * P.bytesOf el ∨ 140737488355328 < i + k) := by omega
  have h6 : ¬ (i + k ≤ c) := by omega
  have h4' : (k : Int) * (P.bytesOf el : Int) ≤ 140737488355328 := by
    rw [← Int.natCast_mul]
    omega
  have h7 : (k : Int) ≤ 140737488355328 := by omega
  simp [xappend, hS, hz, app, srcOf, hI, srcZ, h4', h7, hk, h5, h2, h3, h6, ho]
  simpa using h1

/-- THERE IS NO ROOM: a new row. -/
theorem insK_new {C : CallF} {n : Nat} {tS tI el : TypeId} {fO fR : FuncId} {K0 : K} (hS : P.underlying tS = some (.slice el)) (hI : P.underlying tI = some (.int .i64)) {z : List Value} (hz : zrow P el = some z) (hq : sizeQ P el = some z.length)
    {b o l c i m bv ov cv : Nat} {old new tail : List Value} (hi : i < l) (hl : l ≤ c) (hm : m ≠ 0) (hno : c < l + m) (hb1 : (l + m) * P.bytesOf el ≤ 140737488355328) (hb2 : l + m ≤ 140737488355328)
    (h1 : (zeros z (l + m - i)).all one = true) (ho : oldOf z.length i H (some ⟨b, o, none⟩) = some old)
    {H1 H2 H3 : AHeap} (hH1 : H1 = H.push (.cells (old ++ zeros z (l + m - i)) el true))
    (hcut : cut H1 bv ov (m * z.length) = some new) (hst : stL H1 H.n (i * z.length) new = some H2)
    (hcut2 : cut H2 b (o + i * z.length) ((l - i) * z.length) = some tail) (hst2 : stL H2 H.n ((i + m) * z.length) tail = some H3) {xs2 : List Value} (hrow : H2.f H.n = .cells xs2 el true) :
    insK std P C n tS tI fO fR (.slice (some ⟨b, o, none⟩) l (2 * c)) (.int .i64 i) (.slice (some ⟨bv, ov, none⟩) m cv) H K0 = K0 .ret [(6, .slice (some ⟨H.n, 0, none⟩) (l + m) (2 * (l + m) + 1))] H3 := by
  have w1 : IntKind.wrap .i64 ((l : Int) + m) = ((l + m : Nat) : Int) := by rw [wrap64 (by omega) (by omega)]; simp
  have w2 : IntKind.wrap .i64 ((i : Int) + m) = ((i + m : Nat) : Int) := by rw [wrap64 (by omega) (by omega)]; simp
  have w3 : IntKind.wrap .i64 (((l + m : Nat) : Int) - i) = ((l + m - i : Nat) : Int) := by rw [wrap64 (by omega) (by omega)]; omega
  unfold insK
  refine bareK_step (sl_from hS hq (by omega) (by omega)) ?_
  refine bareK_step (len_sl hS) ?_
  refine bareK_step (v := .bool false) (by rw [goInt, xbin_eql]; simp; omega) ?_
  refine c_false ?_
  refine after_n ?_
  refine bareK_step (len_sl (l := l) (c := 2 * c) (a := some ⟨b, o, none⟩) hS) ?_
  refine bareK_step (v := .bool false) (by refine Eq.trans (xbin_eql (a := (i : Int)) (b := (l : Int))) ?_; simp; omega) ?_
  refine c_false ?_
  refine after_n ?_
  refine bareK_step (v := .int .i64 ((l + m : Nat) : Int)) (by refine Eq.trans (xbin_add (a := (l : Int)) (b := (m : Int))) ?_; rw [w1]) ?_
  refine Eq.trans (b := nextK C H (some (.val (goInt c) H)) _) (by
    have : xbuiltin P .cap [tS] [.slice (some ⟨b, o, none⟩) l (2 * c)] H = some (.val (goInt c) H) := by
      simp [xbuiltin, bare, xcap, hS]
    exact congrArg (fun x => nextK C H x _) this) ?_
  refine Eq.trans nextK_val ?_
  refine bareK_step (v := .bool true) (by refine Eq.trans (xbin_gtr (a := ((l + m : Nat) : Int)) (b := (c : Int))) ?_; simp; omega) ?_
  refine c_true ?_
  refine bareK_step (sl_to (l := l) (b := b) (o := o) (c := c) (h := i) hS hq (by omega) (by omega)) ?_
  refine bareK_step (v := .int .i64 ((l + m : Nat) : Int)) (by refine Eq.trans (xbin_add (a := (l : Int)) (b := (m : Int))) ?_; rw [w1]) ?_
  refine bareK_step (v := .int .i64 ((l + m - i : Nat) : Int)) (by refine Eq.trans (xbin_sub (a := ((l + m : Nat) : Int)) (b := (i : Int))) ?_; rw [w3]) ?_
  have e0 : i + (l + m - i) = l + m := by omega
  have happ := app_zeros (tS := tS) (tI := tI) (b := b) (o := o) (c := c) (i := i) (k := l + m - i) hS hI hz (by omega) (by omega) (by rw [e0]; exact hb1) (by omega) h1 ho
  rw [e0, ← hH1] at happ
  refine bothK_step happ ?_
  have hr1 : H1.f H.n = .cells (old ++ zeros z (l + m - i)) el true := by rw [hH1]; exact AHeap.push_new _ _
  refine bareK_step (sl_from' (i := i) hS hq (by omega) (by omega) hr1) ?_
  rw [Nat.zero_add]
  refine bothK_step (copy_sl (m := m) hS hq (by show min _ _ = _; omega) hm hcut hst) ?_
  refine bareK_step (v := .int .i64 ((i + m : Nat) : Int)) (by refine Eq.trans (xbin_add (a := (i : Int)) (b := (m : Int))) ?_; rw [w2]) ?_
  refine bareK_step (sl_from' (i := i + m) hS hq (by omega) (by omega) hrow) ?_
  refine bareK_step (sl_from (b := b) (o := o) (l := l) (c := c) (i := i) hS hq (by omega) (by omega)) ?_
  have e2 : (if c = i then o else o + i * z.length) = o + i * z.length := by rw [if_neg (by omega)]
  rw [e2, Nat.zero_add]
  refine bothK_step (copy_sl (m := l - i) hS hq (by show min _ _ = _; omega) (by omega) hcut2 hst2) ?_
  refine Eq.trans checkK_true ?_
  exact after_r rfl

end Go.Proofs.Ytldgonjihhndgaa.Eng

/-
  The engine, part 20: slices.Insert, taken as a whole.
  Conditions: none. By an AI agent.
-/
namespace Go.Proofs.Ytldgonjihhndgaa.Eng
open Go
set_option linter.unusedVariables false
set_option linter.unusedSimpArgs false

/-- slices.Insert where the capacity is not known: in place if there is room for sure; else the row that comes of it is one that nobody else names. -/
def insS (P : Program) (el : TypeId) (z : List Value) (args : List Value) (H : AHeap) : Res :=
  match args with
  | [.slice (some ⟨b, o, none⟩) l code, .int .i64 (.ofNat i), .slice (some ⟨bv, ov, none⟩) m _] =>
    match H.f b, H.f bv with
    | .cells xs e true, .cells ys ev true =>
      if code % 2 = 1 ∧ e = el ∧ i < l ∧ l ≤ code / 2 ∧ m ≠ 0 ∧ (l + m) * P.bytesOf el ≤ 140737488355328 ∧ l + m ≤ 140737488355328 ∧ bv ≠ b ∧ tailQ P ev = 1 ∧ o + code / 2 * z.length = xs.length ∧
          ov + m * z.length ≤ ys.length ∧ 0 < xs.length ∧ ((ys.drop ov).take (m * z.length)).all one = true ∧ ((xs.drop (o + i * z.length)).take ((l - i) * z.length)).all one = true ∧ (zeros z (l + m - i)).all one = true then
        if l + m ≤ code / 2 then
          some (.slice (some ⟨b, o, none⟩) (l + m) code,
            (H.set b (.cells (spl xs (o + (i + m) * z.length) ((xs.drop (o + i * z.length)).take ((l - i) * z.length))) el true)).set b
              (.cells (spl (spl xs (o + (i + m) * z.length) ((xs.drop (o + i * z.length)).take ((l - i) * z.length))) (o + i * z.length) ((ys.drop ov).take (m * z.length))) el true))
        else some (.slice (some ⟨H.n, 0, none⟩) (l + m) (2 * (l + m) + 1),
            (H.set b .dead).push (.cells ((xs.drop o).take (i * z.length) ++ ((ys.drop ov).take (m * z.length) ++ (xs.drop (o + i * z.length)).take ((l - i) * z.length))) el true))
      else none
    | _, _ => none
  | _ => none

/-- The whole: first its text as it stands, where the engine can run it. -/
def insP (P : Program) (hints : Hints) (f : FuncId) (el : TypeId) (z : List Value) : List Value → AHeap → Res := fun args H =>
  match dBody P hints (fun _ _ _ => none) 1 f args H with
  | some r => some r
  | none => insS P el z args H

theorem spl_get : ∀ (vs xs : List Value) (o j : Nat), o + vs.length ≤ xs.length → (spl xs o vs)[j]? = if o ≤ j ∧ j < o + vs.length then vs[j - o]? else xs[j]?
  | [], xs, o, j, _ => by simp [spl]; intro h1 h2; omega
  | v :: vs, xs, o, j, h => by
    rw [spl, spl_get vs (xs.set o v) (o + 1) j (by simp at h ⊢; omega)]
    simp only [List.length_cons] at h ⊢
    by_cases h1 : o + 1 ≤ j ∧ j < o + 1 + vs.length
    · rw [if_pos h1, if_pos (by omega)]
      obtain ⟨d, hd⟩ : ∃ d, j - o = d + 1 := ⟨j - o - 1, by omega⟩
      rw [hd, show j - (o + 1) = d by omega]
      simp
    · rw [if_neg h1]
      by_cases h2 : j = o
      · subst h2
        rw [if_pos (by omega)]
        simp [show j < xs.length by omega]
      · rw [if_neg (by omega), List.getElem?_set_ne (by omega)]

/-- In place: what stands there then. -/
theorem ins_cells {xs new : List Value} {o A M T : Nat} (hx : o + A + M + T ≤ xs.length) (hM : new.length = M) {j : Nat} (hj : j < A + M + T) :
    (spl (spl xs (o + (A + M)) ((xs.drop (o + A)).take T)) (o + A) new)[o + j]? = ((xs.drop o).take A ++ (new ++ (xs.drop (o + A)).take T))[j]? := by
  have hT : ((xs.drop (o + A)).take T).length = T := by simp; omega
  have hA : ((xs.drop o).take A).length = A := by simp; omega
  rw [spl_get _ _ _ _ (by rw [spl_length]; omega), spl_get _ _ _ _ (by omega)]
  rw [List.getElem?_append, hA, List.getElem?_append, hM, hT]
  by_cases h1 : j < A
  · rw [if_neg (by omega), if_neg (by omega), if_pos h1, List.getElem?_take_of_lt h1, List.getElem?_drop]
  · by_cases h2 : j < A + M
    · rw [if_pos (by omega), if_neg h1, if_pos (by omega), show o + j - (o + A) = j - A by omega]
    · rw [if_neg (by omega), if_pos (by omega), if_neg h1, if_neg (by omega), show o + j - (o + (A + M)) = j - A - M by omega]

/-- In a new row. -/
theorem ins_row {old zs new tail : List Value} (hz : zs.length = new.length + tail.length) : spl (spl (old ++ zs) old.length new) (old.length + new.length) tail = old ++ (new ++ tail) := by
  apply List.ext_getElem?
  intro j
  rw [spl_get _ _ _ _ (by rw [spl_length]; simp; omega), spl_get _ _ _ _ (by simp; omega)]
  rw [List.getElem?_append (l₁ := old) (l₂ := new ++ tail), List.getElem?_append (l₁ := new) (l₂ := tail), List.getElem?_append (l₁ := old) (l₂ := zs)]
  by_cases h1 : j < old.length
  · rw [if_neg (by omega), if_neg (by omega), if_pos h1, if_pos h1]
  · by_cases h2 : j < old.length + new.length
    · rw [if_neg (by omega), if_pos (by omega), if_neg h1, if_pos (by omega)]
    · by_cases h3 : j < old.length + new.length + tail.length
      · rw [if_pos (by omega), if_neg h1, if_neg (by omega), show j - old.length - new.length = j - (old.length + new.length) by omega]
      · rw [if_neg (by omega), if_neg (by omega), if_neg h1, if_neg h1, if_neg (by omega), List.getElem?_eq_none (by omega), List.getElem?_eq_none (by omega)]

variable {P : Program} {B : Nat} {ι : Emb} {H : AHeap} {w : World}

/-- Blocks may be forgotten, and stamps turned. -/
theorem Rel.less {H' : AHeap} (r : Rel P B ι H w) (hn : H'.n = H.n) (hf : ∀ b, H'.f b = H.f b ∨ H'.f b = .dead) (hv : ∀ b, H'.ver b < H'.clk) : Rel P B ι H' w := by
  have hown : ∀ b, owned (H'.f b) = true → owned (H.f b) = true := fun b h => by
    rcases hf b with e | e
    · rwa [e] at h
    · rw [e] at h; simp [owned] at h
  have hal : ∀ b, alive (H'.f b) = true → alive (H.f b) = true := fun b h => by
    rcases hf b with e | e
    · rwa [e] at h
    · rw [e] at h; simp [alive] at h
  refine ⟨fun b L h => ?_, fun b L h => by rw [hn]; exact r.lt b L h, fun b c L M h1 h2 hne ho ha => r.inj b c L M h1 h2 hne (hown b ho) (hal c ha), r.base, hv⟩
  rcases hf b with e | e
  · rw [e]; exact r.blk b L h
  · rw [e]; trivial

theorem Stp.less {ι' : Emb} {H1 H2 : AHeap} {w' : World} (s : Stp ι H w ι' H1 w') (hn : H2.n = H1.n) (hf : ∀ b, H2.f b = H1.f b ∨ H2.f b = .dead) (hv : VO H H2) : Stp ι H w ι' H2 w' :=
  ⟨s.ext, hv.n, s.wn, s.os, s.tape, s.output, s.fr, s.new, fun b L hb hl ho => s.own b L hb hl (by
    rcases hf b with e | e
    · rwa [e] at ho
    · rw [e] at ho; simp [owned] at ho), hv⟩

theorem cut_ok {b o n : Nat} {xs : List Value} {e : TypeId} {rw' : Bool} (h : H.f b = .cells xs e rw') (hf : o + n ≤ xs.length) : cut H b o n = some ((xs.drop o).take n) := by
  unfold cut
  simp [h, hf]

theorem stL_ok {b o : Nat} {xs vs : List Value} {e : TypeId} (h : H.f b = .cells xs e true) (hf : o + vs.length ≤ xs.length) (h1 : vs.all one = true) : stL H b o vs = some (H.set b (.cells (spl xs o vs) e true)) := by
  unfold stL
  simp only [h, hf, if_true, h1]

theorem insS_ad {el : TypeId} {z : List Value} {args : List Value} {v : Value} {H' : AHeap} (h : insS P el z args H = some (v, H')) (hc : Cl H) (ha : ADs H.n args) : OkV H H' v := by
  unfold insS at h
  split at h
  · rename_i b o l code i bv ov m cv
    split at h
    · rename_i xs e ys ev hf1 hf2
      split at h
      · rename_i hcond
        have hxs := hc.cells _ _ _ _ hf1
        have hys := hc.cells _ _ _ _ hf2
        have hb : b < H.n := by
          have := ha (.slice (some ⟨b, o, none⟩) l code) (by simp)
          cases this
          assumption
        split at h
        · cases h
          have h1 : Cl (H.set b (.cells (spl xs (o + (i + m) * z.length) ((xs.drop (o + i * z.length)).take ((l - i) * z.length))) el true)) :=
            hc.set b (fun _ _ _ hk => by cases hk; exact ADs.spl ((hxs.drop _).take _) hxs) (fun _ hk => by cases hk)
          refine ⟨h1.set b (fun _ _ _ hk => by cases hk; exact ADs.spl ((hys.drop _).take _) (ADs.spl ((hxs.drop _).take _) hxs)) (fun _ hk => by cases hk), .sl hb, ?_⟩
          exact (VO.set _ _ _ (by simp [hf1, alive])).trans (VO.set _ _ _ (by simp [alive]))
        · cases h
          have h1 : Cl (H.set b .dead) := hc.kill b
          refine ⟨h1.row ?_, .sl (by simp), (VO.set _ _ _ (by simp [alive])).trans (VO.push _ _)⟩
          have hm : H.n ≤ (H.set b .dead).n + 1 := by simp
          exact (((hxs.drop _).take _).append (((hys.drop _).take _).append ((hxs.drop _).take _))).mono hm
      · cases h
    · cases h
  · cases h

theorem none_ok : CallOK P fun _ _ _ => none := by intro f args H v H' h; cases h
theorem none_ad : CallAd fun _ _ _ => none := by intro f args H v H' h; cases h

/-- What is asked of the program. -/
structure InsOK (P : Program) (hints : Hints) (f : FuncId) (tS tI el : TypeId) (z : List Value) (fO fR : FuncId) : Prop where
  mixed : P.follows .mixedOrders = true
  body : ∀ (C : CallF) (n : Nat) (a0 a1 a2 : Value) (H : AHeap), dBodyK std P hints C n f [a0, a1, a2] H = insK std P C n tS tI fO fR a0 a1 a2 H (endK P [.tmp 6])
  hS : P.underlying tS = some (.slice el)
  hI : P.underlying tI = some (.int .i64)
  hz : zrow P el = some z
  hsz : sizeQ P el = some z.length
  ovl : Ovl P tS fO

theorem InsOK.run {hints : Hints} {f : FuncId} {tS tI el : TypeId} {z : List Value} {fO fR : FuncId} (I : InsOK P hints f tS tI el z fO fR) {n : Nat} {a0 a1 a2 v : Value} {H' : AHeap}
    (h : ∀ C K0, insK std P C n tS tI fO fR a0 a1 a2 H K0 = K0 .ret [(6, v)] H') : dBody P hints (fun _ _ _ => none) n f [a0, a1, a2] H = some (v, H') := by
  rw [← dBodyK_eq, I.body, h]
  rfl

theorem rv_even {ι : Emb} {b o l cc q : Nat} {v' : Value} (h : RV ι (.slice (some ⟨b, o, none⟩) l q) v') (hq : q = 2 * cc) (hl : l ≠ 0) : ∃ L, ι b = some L ∧ v' = .slice (some ⟨L.cb, L.base + o, none⟩) l cc ∧ l ≤ cc := by
  cases h with
  | sle h1 h2 =>
    have := Nat.eq_of_mul_eq_mul_left (by omega : 0 < 2) hq
    subst this
    exact ⟨_, h1, rfl, h2⟩
  | sli h1 _ _ _ => omega
  | sl0 h1 => exact absurd rfl hl

/-- THE PRIM. -/
theorem ins_prim {hints : Hints} {f : FuncId} {tS tI el : TypeId} {z : List Value} {fO fR : FuncId} (I : InsOK P hints f tS tI el z fO fR) :
    (CallAd fun _ args H => insP P hints f el z args H) ∧ CallOK P fun g args H => if g = f then insP P hints f el z args H else none := by
  constructor
  · intro g args H v H' h hl ha
    replace h : insP P hints f el z args H = some (v, H') := h
    unfold insP at h
    split at h
    · rename_i r hr
      cases h
      exact body_ad none_ad 1 f args H v H' hr hl ha
    · exact insS_ad h hl ha
  · intro g args H v H' h2 hl had B ι w args' r ha
    by_cases hg : g = f
    · subst hg
      simp only [if_true] at h2
      unfold insP at h2
      split at h2
      · rename_i r0 hr
        cases h2
        exact body_sound none_ok none_ad I.mixed 1 g args H v H' hr hl had B ι w args' r ha
      · have hOk := insS_ad h2 hl had
        unfold insS at h2
        split at h2
        · rename_i b o l code i bv ov m cv _
          split at h2
          · rename_i xs e ys ev hf1 hf2
            split at h2
            · rename_i hcond
              obtain ⟨hodd, rfl, hil, hlc, hm0, hb1, hb2, hne, htl, hend, hvfit, hx0, hn1, ht1, hz1⟩ := hcond
              cases ha with | cons ha1 t => cases t with | cons ha2 t => cases t with | cons ha3 t => cases t with | nil =>
              cases ha2
              cases ha1 with
              | sle hL hn => omega
              | sl0 hk => omega
              | sli hL hc hn ht =>
                rename_i c cc L _
                have hcode : (2 * c + 1) / 2 = c := by omega
                rw [hcode] at hlc hend h2
                have hblk := r.blk b L hL
                rw [hf1] at hblk
                obtain ⟨cs, e', fr, g1, g2, g3, g4, g5⟩ := hblk
                obtain ⟨gB, rfl, gsz, gfr⟩ := g5 rfl
                have hsz : L.sz = z.length := by rw [gsz]; exact sizeQ_cells I.hsz
                rw [hsz] at ht
                have hA : (i + m) * z.length = i * z.length + m * z.length := Nat.add_mul _ _ _
                have hT : (l - i) * z.length + i * z.length = l * z.length := by rw [← Nat.add_mul]; congr 1; omega
                have hlcz : l * z.length ≤ c * z.length := Nat.mul_le_mul_right _ hlc
                have hvl : ((ys.drop ov).take (m * z.length)).length = m * z.length := by simp; omega
                have htll : ((xs.drop (o + i * z.length)).take ((l - i) * z.length)).length = (l - i) * z.length := by simp; omega
                have hval : ∀ {Hx : AHeap}, Hx.n = H.n → ADs Hx.n [.slice (some ⟨b, o, none⟩) l (2 * cc), .int .i64 (.ofNat i), .slice (some ⟨bv, ov, none⟩) m cv] := by
                  intro Hx hn
                  rw [hn]
                  have k1 := had (.slice (some ⟨b, o, none⟩) l (2 * c + 1)) (by simp)
                  have k3 := had (.slice (some ⟨bv, ov, none⟩) m cv) (by simp)
                  refine ADs.cons ?_ (ADs.cons (.int _ _) (ADs.cons k3 ADs.nil))
                  cases k1; exact .sl (by assumption)
                have hargs : RVs ι [.slice (some ⟨b, o, none⟩) l (2 * cc), .int .i64 (.ofNat i), .slice (some ⟨bv, ov, none⟩) m cv] _ := .cons (.sle hL hn) (.cons (.int _ _) (.cons ha3 .nil))
                by_cases hroom : l + m ≤ cc
                · have hrm : (l + m) * z.length ≤ cc * z.length := Nat.mul_le_mul_right _ hroom
                  have hlm : (l + m) * z.length = l * z.length + m * z.length := Nat.add_mul _ _ _
                  by_cases hsure : l + m ≤ c
                  · rw [if_pos hsure] at h2
                    cases h2
                    have hrm' : (l + m) * z.length ≤ c * z.length := Nat.mul_le_mul_right _ hsure
                    have hrun := I.run (n := 1) (H := H) (fun C K0 => insK_room (C := C) (n := 1) (K0 := K0) (fR := fR) (tI := tI) (cv := cv) I.hS I.hsz I.ovl hil hm0 hroom (by omega) hf1 hne hf2 (by omega) htl (by intro h; subst h; simp at hx0)
                      (cut_ok hf1 (by omega)) (stL_ok hf1 (by rw [htll]; omega) ht1)
                      (cut_ok (xs := ys) (by rw [AHeap.set_other _ _ hne]; exact hf2) (by omega)) (stL_ok (AHeap.set_same _ _ _) (by rw [spl_length, hvl]; omega) hn1))
                    refine (body_sound none_ok none_ad I.mixed 1 g _ H _ _ hrun hl (hval rfl) B ι w _ r hargs).mono ?_
                    rintro e w' ⟨v', ι', rfl, k1, k2, k3⟩
                    refine ⟨v', ι', rfl, ?_, k2, k3⟩
                    have hL' : ι' b = some L := by rw [k3.ext b (r.dom b L hL)]; exact hL
                    obtain ⟨L', e1, rfl, _⟩ := rv_even k1 rfl (by omega)
                    rw [hL'] at e1
                    cases e1
                    exact .sli hL' hc hroom (by rw [hsz]; omega)
                  · rw [if_neg hsure] at h2
                    cases h2
                    have hbn : b < H.n := r.dom b L hL
                    have hcz : (cc - c) * z.length + c * z.length = cc * z.length := by rw [← Nat.add_mul]; congr 1; omega
                    have hxl : (xs ++ List.replicate ((cc - c) * z.length) top).length = o + cc * z.length := by rw [List.length_append, List.length_replicate]; omega
                    have hk : RB P B ι w L (.cells (xs ++ List.replicate ((cc - c) * z.length) top) e' true) := by
                      refine ⟨cs, e', fr, g1, g2, by rw [hxl]; omega, fun j u hj => ?_, fun _ => ⟨gB, rfl, gsz, gfr⟩⟩
                      by_cases hjx : j < xs.length
                      · rw [List.getElem?_append_left hjx] at hj
                        exact g4 j u hj
                      · have hjl := (List.getElem?_eq_some_iff.1 hj).1
                        rw [List.getElem?_append_right (by omega), List.getElem?_replicate] at hj
                        split at hj
                        · cases hj
                          exact ⟨_, Array.getElem?_eq_getElem (by omega), .unk _⟩
                        · cases hj
                    obtain ⟨rx, sx⟩ := r.turn hL (by rw [hf1]; rfl) _ (w' := w) hk rfl (fun _ _ => rfl) rfl rfl rfl
                    have htx : ((xs ++ List.replicate ((cc - c) * z.length) top).drop (o + i * z.length)).take ((l - i) * z.length) = (xs.drop (o + i * z.length)).take ((l - i) * z.length) := by
                      rw [List.drop_append_of_le_length (by omega), List.take_append_of_le_length (by rw [List.length_drop]; omega)]
                    have hclx : Cl (H.set b (.cells (xs ++ List.replicate ((cc - c) * z.length) top) e' true)) := by
                      refine hl.set b (fun _ _ _ hk => ?_) (fun _ hk => by cases hk)
                      cases hk
                      refine ADs.append (hl.cells _ _ _ _ hf1) fun u hu => ?_
                      rw [List.mem_replicate] at hu
                      rw [hu.2]
                      exact .unk
                    have hfit : o + i * z.length + (l - i) * z.length ≤ (xs ++ List.replicate ((cc - c) * z.length) top).length := by rw [hxl]; omega
                    have hfit2 : o + (i + m) * z.length + (l - i) * z.length ≤ (xs ++ List.replicate ((cc - c) * z.length) top).length := by rw [hxl]; omega
                    have hrun := I.run (n := 1) (H := H.set b (.cells (xs ++ List.replicate ((cc - c) * z.length) top) e' true)) (fun C K0 => insK_room (C := C) (n := 1) (K0 := K0) (fR := fR) (tI := tI) (cv := cv) I.hS I.hsz I.ovl hil hm0 hroom (by omega)
                      (AHeap.set_same _ _ _) hne (by rw [AHeap.set_other _ _ hne]; exact hf2) (by omega) htl (by intro h; rw [h] at hxl; simp at hxl; omega)
                      (cut_ok (AHeap.set_same _ _ _) hfit) (stL_ok (AHeap.set_same _ _ _) (by rw [htx, htll]; exact hfit2) (by rw [htx]; exact ht1))
                      (cut_ok (xs := ys) (by rw [AHeap.set_other _ _ hne, AHeap.set_other _ _ hne]; exact hf2) (by omega)) (stL_ok (AHeap.set_same _ _ _) (by rw [spl_length, hvl, hxl]; omega) hn1))
                    refine (body_sound none_ok none_ad I.mixed 1 g _ _ _ _ hrun hclx (hval rfl) B ι w _ rx hargs).mono ?_
                    rintro en w' ⟨v', ι', rfl, k1, k2, k3⟩
                    have k3 := sx.trans k3
                    have hL' : ι' b = some L := by rw [k3.ext b hbn]; exact hL
                    obtain ⟨L', e1, rfl, _⟩ := rv_even k1 rfl (by omega)
                    rw [hL'] at e1
                    cases e1
                    have hblk2 := k2.blk b L hL'
                    rw [AHeap.set_same] at hblk2
                    obtain ⟨cs2, e2, fr2, q1, q2, q3, q4, q5⟩ := hblk2
                    have q5 := q5 rfl
                    rw [spl_length, spl_length, hxl] at q3
                    have hnone : ι' H.n = none := by
                      cases hq : ι' H.n with
                      | none => rfl
                      | some M =>
                        have := (k2.lt _ M hq).1
                        simp at this
                    have hup : ∀ x M, ι' x = some M → up ι' H.n ⟨L.cb, L.base + o, L.sz, L.total⟩ x = some M := by
                      intro x M hx
                      have : x ≠ H.n := by rintro rfl; rw [hnone] at hx; cases hx
                      simp [up, this, hx]
                    have hnew : up ι' H.n ⟨L.cb, L.base + o, L.sz, L.total⟩ H.n = some ⟨L.cb, L.base + o, L.sz, L.total⟩ := by simp [up]
                    have hoth : ∀ x, x ≠ H.n → up ι' H.n ⟨L.cb, L.base + o, L.sz, L.total⟩ x = ι' x := fun x hx => by simp [up, hx]
                    have hfold : ∀ {k : Blk} {x : Nat}, x ≠ H.n → x ≠ b → ((H.set b .dead).push k).f x = H.f x := by
                      intro k x hx hxb
                      rw [AHeap.push_old (H.set b .dead) _ (show x ≠ (H.set b .dead).n from hx), AHeap.set_other _ _ hxb]
                    have hfb : ∀ {k : Blk}, ((H.set b .dead).push k).f b = .dead := by
                      intro k
                      rw [AHeap.push_old (H.set b .dead) _ (show b ≠ (H.set b .dead).n from Nat.ne_of_lt hbn), AHeap.set_same]
                    have hfn : ∀ {k : Blk}, ((H.set b .dead).push k).f H.n = k := fun {k} => AHeap.push_new (H.set b .dead) k
                    refine ⟨_, up ι' H.n ⟨L.cb, L.base + o, L.sz, L.total⟩, rfl, ?_, ⟨fun x M hx => ?_, fun x M hx => ?_, fun x y M M' hx hy hxy hox hay => ?_, k2.base, hOk.1.ver⟩,
                      ⟨fun x hx => ?_, hOk.2.2.n, k3.wn, k3.os, k3.tape, k3.output, k3.fr, fun x M hx hM => ?_, fun x M hx hM ho => ?_, hOk.2.2⟩⟩
                    · have := RV.sli (ι := up ι' H.n ⟨L.cb, L.base + o, L.sz, L.total⟩) (o := 0) (n := l + m) (c := l + m) (cc := cc) hnew hroom hroom (by simp only [hsz]; omega)
                      simpa using this
                    · by_cases hxn : x = H.n
                      · subst hxn
                        rw [hnew] at hx
                        cases hx
                        rw [hfn]
                        refine ⟨cs2, e2, fr2, q1, q2, ?_, fun j u hj => ?_, fun _ => q5⟩
                        · have holdl : ((xs.drop o).take (i * z.length)).length = i * z.length := by rw [List.length_take, List.length_drop]; omega
                          rw [List.length_append, List.length_append, hvl, htll, holdl]
                          show L.base + o + _ ≤ _
                          omega
                        · have hjl := (List.getElem?_eq_some_iff.1 hj).1
                          have holdl : ((xs.drop o).take (i * z.length)).length = i * z.length := by rw [List.length_take, List.length_drop]; omega
                          rw [List.length_append, List.length_append, hvl, htll, holdl] at hjl
                          have hic := ins_cells (xs := xs ++ List.replicate ((cc - c) * z.length) top) (new := (ys.drop ov).take (m * z.length)) (o := o) (A := i * z.length) (M := m * z.length) (T := (l - i) * z.length) (by rw [hxl]; omega) hvl (j := j) (by omega)
                          rw [htx, show ((xs ++ List.replicate ((cc - c) * z.length) top).drop o).take (i * z.length) = (xs.drop o).take (i * z.length) by
                            rw [List.drop_append_of_le_length (by omega), List.take_append_of_le_length (by rw [List.length_drop]; omega)]] at hic
                          rw [← hA] at hic
                          rw [← hic] at hj
                          obtain ⟨u', c1, c2⟩ := q4 (o + j) u (by rw [htx]; exact hj)
                          exact ⟨u', by rw [Nat.add_assoc]; exact c1, c2.mono hup⟩
                      · rw [hoth x hxn] at hx
                        by_cases hxb : x = b
                        · subst hxb
                          rw [hfb]
                          trivial
                        · rw [hfold hxn hxb]
                          have := k2.blk x M hx
                          rw [AHeap.set_other _ _ hxb, AHeap.set_other _ _ hxb, AHeap.set_other _ _ hxb] at this
                          exact this.mono hup
                    · by_cases hxn : x = H.n
                      · subst hxn
                        rw [hnew] at hx
                        cases hx
                        exact ⟨by simp, (k2.lt b L hL').2⟩
                      · rw [hoth x hxn] at hx
                        have := k2.lt x M hx
                        exact ⟨by have := this.1; simp at this ⊢; omega, this.2⟩
                    · have hob : owned (.cells (spl (spl (xs ++ List.replicate ((cc - c) * z.length) top) (o + (i + m) * z.length) (((xs ++ List.replicate ((cc - c) * z.length) top).drop (o + i * z.length)).take ((l - i) * z.length))) (o + i * z.length) ((ys.drop ov).take (m * z.length))) e' true) = true := rfl
                      by_cases hxn : x = H.n
                      · have hyn : y ≠ H.n := by rintro rfl; exact hxy hxn
                        subst hxn
                        rw [hnew] at hx
                        cases hx
                        rw [hoth y hyn] at hy
                        have hyb : y ≠ b := by rintro rfl; rw [hfb] at hay; simp [alive] at hay
                        rw [hfold hyn hyb] at hay
                        exact k2.inj b y L M' hL' hy (Ne.symm hyb) (by rw [AHeap.set_same]; rfl) (by rw [AHeap.set_other _ _ hyb, AHeap.set_other _ _ hyb, AHeap.set_other _ _ hyb]; exact hay)
                      · rw [hoth x hxn] at hx
                        have hxb : x ≠ b := by rintro rfl; rw [hfb] at hox; simp [owned] at hox
                        rw [hfold hxn hxb] at hox
                        by_cases hyn : y = H.n
                        · subst hyn
                          rw [hnew] at hy
                          cases hy
                          exact k2.inj x b M L hx hL' hxb (by rw [AHeap.set_other _ _ hxb, AHeap.set_other _ _ hxb, AHeap.set_other _ _ hxb]; exact hox) (by rw [AHeap.set_same]; rfl)
                        · rw [hoth y hyn] at hy
                          have hyb : y ≠ b := by rintro rfl; rw [hfb] at hay; simp [alive] at hay
                          rw [hfold hyn hyb] at hay
                          exact k2.inj x y M M' hx hy hxy (by rw [AHeap.set_other _ _ hxb, AHeap.set_other _ _ hxb, AHeap.set_other _ _ hxb]; exact hox) (by rw [AHeap.set_other _ _ hyb, AHeap.set_other _ _ hyb, AHeap.set_other _ _ hyb]; exact hay)
                    · rw [hoth x (Nat.ne_of_lt hx)]; exact k3.ext x hx
                    · by_cases hxn : x = H.n
                      · subst hxn
                        rw [hnew] at hM
                        cases hM
                        exact .inr ⟨b, L, hbn, hL, by rw [hf1]; rfl, rfl⟩
                      · rw [hoth x hxn] at hM
                        have := (k2.lt x M hM).1
                        simp at this
                        omega
                    · have hxn : x ≠ H.n := Nat.ne_of_lt hx
                      have hxb : x ≠ b := by rintro rfl; rw [hfb] at ho; simp [owned] at ho
                      rwa [hfold hxn hxb] at ho
                · have hsure : ¬ l + m ≤ c := by omega
                  rw [if_neg hsure] at h2
                  cases h2
                  have hbn : b < H.n := r.dom b L hL
                  have hbvn : bv < H.n := by
                    have k3 := had (.slice (some ⟨bv, ov, none⟩) m cv) (by simp)
                    cases k3
                    assumption
                  have holdl : ((xs.drop o).take (i * z.length)).length = i * z.length := by rw [List.length_take, List.length_drop]; omega
                  have hkk : (l + m - i) * z.length = (l - i) * z.length + m * z.length := by rw [← Nat.add_mul]; congr 1; omega
                  have hzl : (zeros z (l + m - i)).length = (l + m - i) * z.length := zeros_length _ _
                  have ho : oldOf z.length i H (some ⟨b, o, none⟩) = some ((xs.drop o).take (i * z.length)) := by
                    unfold oldOf
                    split
                    · rename_i h0; subst h0; simp
                    · exact cut_ok hf1 (by omega)
                  have hrun := I.run (n := 1) (H := H) (fun C K0 => insK_new (C := C) (n := 1) (K0 := K0) (fO := fO) (fR := fR) (cv := cv) I.hS I.hI I.hz I.hsz hil hn hm0 (by omega) hb1 hb2 hz1 ho rfl
                    (cut_ok (xs := ys) (by rw [AHeap.push_old _ _ (Nat.ne_of_lt hbvn)]; exact hf2) (by omega)) (stL_ok (AHeap.push_new _ _) (by rw [List.length_append, holdl, hzl, hvl]; omega) hn1)
                    (cut_ok (xs := xs) (by rw [AHeap.set_other _ _ (Nat.ne_of_lt hbn), AHeap.push_old _ _ (Nat.ne_of_lt hbn)]; exact hf1) (by omega))
                    (stL_ok (AHeap.set_same _ _ _) (by rw [spl_length, List.length_append, holdl, hzl, htll]; omega) ht1) (AHeap.set_same _ _ _))
                  refine (body_sound none_ok none_ad I.mixed 1 g _ H _ _ hrun hl (hval rfl) B ι w _ r hargs).mono ?_
                  rintro en w' ⟨v', ι', rfl, k1, k2, k3⟩
                  have hrow := ins_row (old := (xs.drop o).take (i * z.length)) (zs := zeros z (l + m - i)) (new := (ys.drop ov).take (m * z.length)) (tail := (xs.drop (o + i * z.length)).take ((l - i) * z.length)) (by rw [hzl, hvl, htll]; omega)
                  rw [holdl, hvl, ← hA] at hrow
                  refine ⟨v', ι', rfl, k1, k2.less rfl (fun x => ?_) hOk.1.ver, k3.less rfl (fun x => ?_) hOk.2.2⟩
                  all_goals
                    by_cases hx : x = H.n
                    · left
                      subst hx
                      rw [AHeap.set_same, ← hrow]
                      exact AHeap.push_new (H.set b .dead) _
                    · by_cases hxb : x = b
                      · right
                        subst hxb
                        rw [AHeap.push_old (H.set x .dead) _ (show x ≠ (H.set x .dead).n from hx), AHeap.set_same]
                      · left
                        rw [AHeap.set_other _ _ hx, AHeap.set_other _ _ hx, AHeap.push_old H _ hx, AHeap.push_old (H.set b .dead) _ (show x ≠ (H.set b .dead).n from hx), AHeap.set_other _ _ hxb]
            · cases h2
          · cases h2
        · cases h2
    · simp [hg] at h2

end Go.Proofs.Ytldgonjihhndgaa.Eng

/-
  Chapter 02: slices.Insert as a Prim; known() returns true.
  Conditions: none. By an AI agent.
-/
namespace Go.Proofs.Ytldgonjihhndgaa
open Go Eng

def zAlarm : List Value := [.int .i64 0, .int .i64 0]

theorem mixed : Try.prog.follows .mixedOrders = true := by kernel_rfl

theorem insOK : InsOK Try.prog hints 31 51 3 62 zAlarm 43 44 where
  mixed := mixed
  body := fun C n a0 a1 a2 H => by kernel_rfl
  hS := Try.underlying51
  hI := Try.underlying3
  hz := by kernel_rfl
  hsz := by kernel_rfl
  ovl := ⟨Try.f43, by kernel_rfl, by decide, by kernel_rfl, by kernel_rfl, by kernel_rfl, by kernel_rfl⟩

noncomputable def prims0 : Prims := fun f => if f = 31 then some (insP Try.prog hints 31 62 zAlarm) else none

theorem prims0_ok : PrimsOK Try.prog prims0 := by
  intro f p h
  unfold prims0 at h
  split at h
  · rename_i hf
    cases h
    subst hf
    exact ins_prim insOK
  · cases h

theorem known_run : dCall Try.prog prims0 hints 60 11 [] H0 = some (.bool true, H0) := by kernel_rfl

noncomputable def prims1 : Prims := fun f => if f = 11 then some trueP else prims0 f

theorem prims1_ok : PrimsOK Try.prog prims1 := by
  intro f p h
  unfold prims1 at h
  split at h
  · rename_i hf
    cases h
    subst hf
    exact true_prim prims0_ok mixed ⟨60, _, known_run⟩
  · exact prims0_ok f p h

/-- What a call gives. -/
noncomputable def CC : CallF := D Try.prog prims1 hints

end Go.Proofs.Ytldgonjihhndgaa

/-
  The equations of the seat's functions over calls in the limit (a program of ours printed it).
  Conditions: none. By an AI agent.
-/
set_option linter.unusedVariables false
namespace Go.Proofs.Ytldgonjihhndgaa
open Go Eng

theorem u_int : Try.prog.underlying T.int = Try.prog.underlying 3 := rfl
theorem u_api_Errno : Try.prog.underlying T.api_Errno = Try.prog.underlying 25 := rfl
theorem u_p_clock_Clock : Try.prog.underlying T.p_clock_Clock = Try.prog.underlying 29 := rfl
theorem u_api_Alarm : Try.prog.underlying T.api_Alarm = Try.prog.underlying 39 := rfl
theorem u_ref02_Clock : Try.prog.underlying T.ref02_Clock = Try.prog.underlying 43 := rfl
theorem u_law_Act : Try.prog.underlying T.law_Act = Try.prog.underlying 45 := rfl
theorem u_sl_clock_alarm : Try.prog.underlying T.sl_clock_alarm = Try.prog.underlying 51 := rfl
theorem u_clock_Clock : Try.prog.underlying T.clock_Clock = Try.prog.underlying 53 := rfl
theorem u_clock_alarm : Try.prog.underlying T.clock_alarm = Try.prog.underlying 62 := rfl
theorem u_uint : Try.prog.underlying T.uint = Try.prog.underlying 78 := rfl
@[go_sem] theorem x_int_uint {n : Int} {H : AHeap} : xconv Try.prog T.int T.uint (.int .i64 n) H = some (.int .u64 (IntKind.wrap .u64 n), H) := xconv_int (P := Try.prog) (s := 3) (t := 78) Try.underlying3 Try.underlying78
@[go_sem] theorem x_uint_int {n : Int} {H : AHeap} : xconv Try.prog T.uint T.int (.int .u64 n) H = some (.int .i64 (IntKind.wrap .i64 n), H) := xconv_int (P := Try.prog) (s := 78) (t := 3) Try.underlying78 Try.underlying3
theorem c_clock_alarm_compare {call : CallF} {x c : Array Value} {args : List Value} {H : AHeap} {k : Value → AHeap → Res} : callK Try.prog call (.func (.func F.clock_alarm_compare) x c) args H k = enterK call F.clock_alarm_compare (x.toList ++ args ++ c.toList) H k := by kernel_rfl
theorem c_clock_Clock_find_1 {call : CallF} {x c : Array Value} {args : List Value} {H : AHeap} {k : Value → AHeap → Res} : callK Try.prog call (.func (.func F.clock_Clock_find_1) x c) args H k = enterK call F.clock_Clock_find_1 (x.toList ++ args ++ c.toList) H k := by kernel_rfl

theorem d_clock_Passed (a0 : Value) (a1 : Value) (H : AHeap) {r : Value × AHeap} (h : s_clock_Passed guardK condL shareL Try.prog CC a0 a1 H (endK Try.prog [.tmp 4]) = some r) : CC F.clock_Passed [a0, a1] H = some (tidy H r) := D_body (by kernel_rfl) ((s_clock_Passed_eq stdL CC limLP a0 a1 H).trans (Eq.trans (show s_clock_Passed stdL.b.g stdL.c stdL.s Try.prog CC a0 a1 H (endK Try.prog [.tmp 4]) = s_clock_Passed guardK condL shareL Try.prog CC a0 a1 H (endK Try.prog [.tmp 4]) by kernel_rfl) h))

theorem d_ref02_Tick (a0 : Value) (H : AHeap) {r : Value × AHeap} (h : s_ref02_Tick guardK condL shareL Try.prog CC a0 H (endK Try.prog [.tmp 2]) = some r) : CC F.ref02_Tick [a0] H = some (tidy H r) := D_body (by kernel_rfl) ((s_ref02_Tick_eq stdL CC limLP a0 H).trans (Eq.trans (show s_ref02_Tick stdL.b.g stdL.c stdL.s Try.prog CC a0 H (endK Try.prog [.tmp 2]) = s_ref02_Tick guardK condL shareL Try.prog CC a0 H (endK Try.prog [.tmp 2]) by kernel_rfl) h))

theorem d_law_due (a0 : Value) (a1 : Value) (a2 : Value) (a3 : Value) (H : AHeap) {r : Value × AHeap} (h : s_law_due guardK condL shareL Try.prog CC a0 a1 a2 a3 H (endK Try.prog [.tmp 8]) = some r) : CC F.law_due [a0, a1, a2, a3] H = some (tidy H r) := D_body (by kernel_rfl) ((s_law_due_eq stdL CC limLP a0 a1 a2 a3 H).trans (Eq.trans (show s_law_due stdL.b.g stdL.c stdL.s Try.prog CC a0 a1 a2 a3 H (endK Try.prog [.tmp 8]) = s_law_due guardK condL shareL Try.prog CC a0 a1 a2 a3 H (endK Try.prog [.tmp 8]) by kernel_rfl) h))

theorem d_ref02_Due (a0 : Value) (a1 : Value) (H : AHeap) {r : Value × AHeap} (h : s_ref02_Due guardK condL shareL Try.prog CC a0 a1 H (endK Try.prog [.tmp 4]) = some r) : CC F.ref02_Due [a0, a1] H = some (tidy H r) := D_body (by kernel_rfl) ((s_ref02_Due_eq stdL CC limLP a0 a1 H).trans (Eq.trans (show s_ref02_Due stdL.b.g stdL.c stdL.s Try.prog CC a0 a1 H (endK Try.prog [.tmp 4]) = s_ref02_Due guardK condL shareL Try.prog CC a0 a1 H (endK Try.prog [.tmp 4]) by kernel_rfl) h))

theorem d_clock_New (a0 : Value) (H : AHeap) {r : Value × AHeap} (h : s_clock_New guardK condL shareL Try.prog CC a0 H (endK Try.prog [.tmp 2, .tmp 3]) = some r) : CC F.clock_New [a0] H = some (tidy H r) := D_body (by kernel_rfl) ((s_clock_New_eq stdL CC limLP a0 H).trans (Eq.trans (show s_clock_New stdL.b.g stdL.c stdL.s Try.prog CC a0 H (endK Try.prog [.tmp 2, .tmp 3]) = s_clock_New guardK condL shareL Try.prog CC a0 H (endK Try.prog [.tmp 2, .tmp 3]) by kernel_rfl) h))

theorem d_clock_Clock_Set (a0 : Value) (a1 : Value) (a2 : Value) (H : AHeap) {r : Value × AHeap} (h : s_clock_Clock_Set guardK condL shareL Try.prog CC a0 a1 a2 H (endK Try.prog [.tmp 6]) = some r) : CC F.clock_Clock_Set [a0, a1, a2] H = some (tidy H r) := D_body (by kernel_rfl) ((s_clock_Clock_Set_eq stdL CC limLP a0 a1 a2 H).trans (Eq.trans (show s_clock_Clock_Set stdL.b.g stdL.c stdL.s Try.prog CC a0 a1 a2 H (endK Try.prog [.tmp 6]) = s_clock_Clock_Set guardK condL shareL Try.prog CC a0 a1 a2 H (endK Try.prog [.tmp 6]) by kernel_rfl) h))

theorem d_clock_Clock_Clear (a0 : Value) (a1 : Value) (H : AHeap) {r : Value × AHeap} (h : s_clock_Clock_Clear guardK condL shareL Try.prog CC a0 a1 H (endK Try.prog [.tmp 4]) = some r) : CC F.clock_Clock_Clear [a0, a1] H = some (tidy H r) := D_body (by kernel_rfl) ((s_clock_Clock_Clear_eq stdL CC limLP a0 a1 H).trans (Eq.trans (show s_clock_Clock_Clear stdL.b.g stdL.c stdL.s Try.prog CC a0 a1 H (endK Try.prog [.tmp 4]) = s_clock_Clock_Clear guardK condL shareL Try.prog CC a0 a1 H (endK Try.prog [.tmp 4]) by kernel_rfl) h))

theorem d_clock_Clock_Next (a0 : Value) (H : AHeap) {r : Value × AHeap} (h : s_clock_Clock_Next guardK condL shareL Try.prog CC a0 H (endK Try.prog [.tmp 2]) = some r) : CC F.clock_Clock_Next [a0] H = some (tidy H r) := D_body (by kernel_rfl) ((s_clock_Clock_Next_eq stdL CC limLP a0 H).trans (Eq.trans (show s_clock_Clock_Next stdL.b.g stdL.c stdL.s Try.prog CC a0 H (endK Try.prog [.tmp 2]) = s_clock_Clock_Next guardK condL shareL Try.prog CC a0 H (endK Try.prog [.tmp 2]) by kernel_rfl) h))

theorem d_clock_Clock_Tick (a0 : Value) (a1 : Value) (H : AHeap) {r : Value × AHeap} (h : s_clock_Clock_Tick guardK condL shareL Try.prog CC a0 a1 H (endK Try.prog [.tmp 4, .tmp 5]) = some r) : CC F.clock_Clock_Tick [a0, a1] H = some (tidy H r) := D_body (by kernel_rfl) ((s_clock_Clock_Tick_eq stdL CC limLP a0 a1 H).trans (Eq.trans (show s_clock_Clock_Tick stdL.b.g stdL.c stdL.s Try.prog CC a0 a1 H (endK Try.prog [.tmp 4, .tmp 5]) = s_clock_Clock_Tick guardK condL shareL Try.prog CC a0 a1 H (endK Try.prog [.tmp 4, .tmp 5]) by kernel_rfl) h))

theorem d_clock_Clock_Alarms (a0 : Value) (H : AHeap) {r : Value × AHeap} (h : s_clock_Clock_Alarms guardK condL shareL Try.prog CC a0 H (endK Try.prog [.tmp 2]) = some r) : CC F.clock_Clock_Alarms [a0] H = some (tidy H r) := D_body (by kernel_rfl) ((s_clock_Clock_Alarms_eq stdL CC limLP a0 H).trans (Eq.trans (show s_clock_Clock_Alarms stdL.b.g stdL.c stdL.s Try.prog CC a0 H (endK Try.prog [.tmp 2]) = s_clock_Clock_Alarms guardK condL shareL Try.prog CC a0 H (endK Try.prog [.tmp 2]) by kernel_rfl) h))

theorem d_clock_Clock_Copy (a0 : Value) (H : AHeap) {r : Value × AHeap} (h : s_clock_Clock_Copy guardK condL shareL Try.prog CC a0 H (endK Try.prog [.tmp 2]) = some r) : CC F.clock_Clock_Copy [a0] H = some (tidy H r) := D_body (by kernel_rfl) ((s_clock_Clock_Copy_eq stdL CC limLP a0 H).trans (Eq.trans (show s_clock_Clock_Copy stdL.b.g stdL.c stdL.s Try.prog CC a0 H (endK Try.prog [.tmp 2]) = s_clock_Clock_Copy guardK condL shareL Try.prog CC a0 H (endK Try.prog [.tmp 2]) by kernel_rfl) h))

theorem d_law_acts (a0 : Value) (a1 : Value) (a2 : Value) (H : AHeap) {r : Value × AHeap} (h : s_law_acts guardK condL shareL Try.prog CC a0 a1 a2 H (endK Try.prog [.cell 6 T.ref02_Clock, .tmp 7]) = some r) : CC F.law_acts [a0, a1, a2] H = some (tidy H r) := D_body (by kernel_rfl) ((s_law_acts_eq stdL CC limLP a0 a1 a2 H).trans (Eq.trans (show s_law_acts stdL.b.g stdL.c stdL.s Try.prog CC a0 a1 a2 H (endK Try.prog [.cell 6 T.ref02_Clock, .tmp 7]) = s_law_acts guardK condL shareL Try.prog CC a0 a1 a2 H (endK Try.prog [.cell 6 T.ref02_Clock, .tmp 7]) by kernel_rfl) h))

theorem d_law_looks (a0 : Value) (a1 : Value) (H : AHeap) {r : Value × AHeap} (h : s_law_looks guardK condL shareL Try.prog CC a0 a1 H (endK Try.prog [.tmp 4]) = some r) : CC F.law_looks [a0, a1] H = some (tidy H r) := D_body (by kernel_rfl) ((s_law_looks_eq stdL CC limLP a0 a1 H).trans (Eq.trans (show s_law_looks stdL.b.g stdL.c stdL.s Try.prog CC a0 a1 H (endK Try.prog [.tmp 4]) = s_law_looks guardK condL shareL Try.prog CC a0 a1 H (endK Try.prog [.tmp 4]) by kernel_rfl) h))

theorem d_clock_Clock_Now (a0 : Value) (H : AHeap) {r : Value × AHeap} (h : s_clock_Clock_Now guardK condL shareL Try.prog CC a0 H (endK Try.prog [.tmp 2]) = some r) : CC F.clock_Clock_Now [a0] H = some (tidy H r) := D_body (by kernel_rfl) ((s_clock_Clock_Now_eq stdL CC limLP a0 H).trans (Eq.trans (show s_clock_Clock_Now stdL.b.g stdL.c stdL.s Try.prog CC a0 H (endK Try.prog [.tmp 2]) = s_clock_Clock_Now guardK condL shareL Try.prog CC a0 H (endK Try.prog [.tmp 2]) by kernel_rfl) h))

theorem d_law_ticks (a0 : Value) (a1 : Value) (a2 : Value) (a3 : Value) (H : AHeap) {r : Value × AHeap} (h : s_law_ticks guardK condL shareL Try.prog CC a0 a1 a2 a3 H (endK Try.prog [.tmp 8]) = some r) : CC F.law_ticks [a0, a1, a2, a3] H = some (tidy H r) := D_body (by kernel_rfl) ((s_law_ticks_eq stdL CC limLP a0 a1 a2 a3 H).trans (Eq.trans (show s_law_ticks stdL.b.g stdL.c stdL.s Try.prog CC a0 a1 a2 a3 H (endK Try.prog [.tmp 8]) = s_law_ticks guardK condL shareL Try.prog CC a0 a1 a2 a3 H (endK Try.prog [.tmp 8]) by kernel_rfl) h))

theorem d_clock_Due (a0 : Value) (a1 : Value) (H : AHeap) {r : Value × AHeap} (h : s_clock_Due guardK condL shareL Try.prog CC a0 a1 H (endK Try.prog [.tmp 4, .tmp 5]) = some r) : CC F.clock_Due [a0, a1] H = some (tidy H r) := D_body (by kernel_rfl) ((s_clock_Due_eq stdL CC limLP a0 a1 H).trans (Eq.trans (show s_clock_Due stdL.b.g stdL.c stdL.s Try.prog CC a0 a1 H (endK Try.prog [.tmp 4, .tmp 5]) = s_clock_Due guardK condL shareL Try.prog CC a0 a1 H (endK Try.prog [.tmp 4, .tmp 5]) by kernel_rfl) h))

noncomputable def l_ref02_Same_0 (v0 : Value) (v1 : Value) (v5 : Value) (H : AHeap) (k : K) : Res := loopL stdL Try.prog hints CC limLP F.ref02_Same 0 [(0, v0), (1, v1), (5, v5)] H k
theorem r_ref02_Same_0 (v0 : Value) (v1 : Value) (v5 : Value) (H : AHeap) (k : K) : l_ref02_Same_0 v0 v1 v5 H k = s_ref02_Same_b0 guardK condL shareL Try.prog CC l_ref02_Same_0 v0 v1 v5 H (seqK (fun T H => l_ref02_Same_0 (get T 0) (get T 1) (get T 5) H k) k) := ((loopL_next (by kernel_rfl) rfl H k).trans (s_ref02_Same_b0_eq stdL CC limLP v0 v1 v5 H _)).trans (by kernel_rfl)
theorem d_ref02_Same (a0 : Value) (a1 : Value) (H : AHeap) {r : Value × AHeap} (h : s_ref02_Same guardK condL shareL Try.prog CC l_ref02_Same_0 a0 a1 H (endK Try.prog [.tmp 4]) = some r) : CC F.ref02_Same [a0, a1] H = some (tidy H r) := D_body (by kernel_rfl) ((s_ref02_Same_eq stdL CC limLP a0 a1 H).trans (Eq.trans (show s_ref02_Same stdL.b.g stdL.c stdL.s Try.prog CC (fun v0 v1 v5 H k => loopL stdL Try.prog hints CC limLP F.ref02_Same 0 [(0, v0), (1, v1), (5, v5)] H k) a0 a1 H (endK Try.prog [.tmp 4]) = s_ref02_Same guardK condL shareL Try.prog CC l_ref02_Same_0 a0 a1 H (endK Try.prog [.tmp 4]) by kernel_rfl) h))

theorem d_clock_tick (a0 : Value) (H : AHeap) {r : Value × AHeap} (h : s_clock_tick guardK condL shareL Try.prog CC a0 H (endK Try.prog [.tmp 2]) = some r) : CC F.clock_tick [a0] H = some (tidy H r) := D_body (by kernel_rfl) ((s_clock_tick_eq stdL CC limLP a0 H).trans (Eq.trans (show s_clock_tick stdL.b.g stdL.c stdL.s Try.prog CC a0 H (endK Try.prog [.tmp 2]) = s_clock_tick guardK condL shareL Try.prog CC a0 H (endK Try.prog [.tmp 2]) by kernel_rfl) h))

theorem d_clock_Clock_zero (a0 : Value) (H : AHeap) {r : Value × AHeap} (h : s_clock_Clock_zero guardK condL shareL Try.prog CC a0 H (endK Try.prog [.tmp 2]) = some r) : CC F.clock_Clock_zero [a0] H = some (tidy H r) := D_body (by kernel_rfl) ((s_clock_Clock_zero_eq stdL CC limLP a0 H).trans (Eq.trans (show s_clock_Clock_zero stdL.b.g stdL.c stdL.s Try.prog CC a0 H (endK Try.prog [.tmp 2]) = s_clock_Clock_zero guardK condL shareL Try.prog CC a0 H (endK Try.prog [.tmp 2]) by kernel_rfl) h))

theorem d_clock_Clock_find (a0 : Value) (a1 : Value) (H : AHeap) {r : Value × AHeap} (h : s_clock_Clock_find guardK condL shareL Try.prog CC a0 a1 H (endK Try.prog [.tmp 4]) = some r) : CC F.clock_Clock_find [a0, a1] H = some (tidy H r) := D_body (by kernel_rfl) ((s_clock_Clock_find_eq stdL CC limLP a0 a1 H).trans (Eq.trans (show s_clock_Clock_find stdL.b.g stdL.c stdL.s Try.prog CC a0 a1 H (endK Try.prog [.tmp 4]) = s_clock_Clock_find guardK condL shareL Try.prog CC a0 a1 H (endK Try.prog [.tmp 4]) by kernel_rfl) h))

noncomputable def l_slices_BinarySearchFunc_alarm_0 (v0 : Value) (v2 : Value) (v4 : Value) (v8 : Value) (v9 : Value) (v10 : Value) (H : AHeap) (k : K) : Res := loopL stdL Try.prog hints CC limLP F.slices_BinarySearchFunc_alarm 0 [(0, v0), (2, v2), (4, v4), (8, v8), (9, v9), (10, v10)] H k
theorem r_slices_BinarySearchFunc_alarm_0 (v0 : Value) (v2 : Value) (v4 : Value) (v8 : Value) (v9 : Value) (v10 : Value) (H : AHeap) (k : K) : l_slices_BinarySearchFunc_alarm_0 v0 v2 v4 v8 v9 v10 H k = s_slices_BinarySearchFunc_alarm_b0 guardK condL shareL Try.prog CC l_slices_BinarySearchFunc_alarm_0 v0 v2 v4 v8 v9 v10 H (seqK (fun T H => l_slices_BinarySearchFunc_alarm_0 (get T 0) (get T 2) (get T 4) (get T 8) (get T 9) (get T 10) H k) k) := ((loopL_next (by kernel_rfl) rfl H k).trans (s_slices_BinarySearchFunc_alarm_b0_eq stdL CC limLP v0 v2 v4 v8 v9 v10 H _)).trans (by kernel_rfl)
theorem d_slices_BinarySearchFunc_alarm (a0 : Value) (a1 : Value) (a2 : Value) (H : AHeap) {r : Value × AHeap} (h : s_slices_BinarySearchFunc_alarm guardK condL shareL Try.prog CC l_slices_BinarySearchFunc_alarm_0 a0 a1 a2 H (endK Try.prog [.tmp 6, .tmp 7]) = some r) : CC F.slices_BinarySearchFunc_alarm [a0, a1, a2] H = some (tidy H r) := D_body (by kernel_rfl) ((s_slices_BinarySearchFunc_alarm_eq stdL CC limLP a0 a1 a2 H).trans (Eq.trans (show s_slices_BinarySearchFunc_alarm stdL.b.g stdL.c stdL.s Try.prog CC (fun v0 v2 v4 v8 v9 v10 H k => loopL stdL Try.prog hints CC limLP F.slices_BinarySearchFunc_alarm 0 [(0, v0), (2, v2), (4, v4), (8, v8), (9, v9), (10, v10)] H k) a0 a1 a2 H (endK Try.prog [.tmp 6, .tmp 7]) = s_slices_BinarySearchFunc_alarm guardK condL shareL Try.prog CC l_slices_BinarySearchFunc_alarm_0 a0 a1 a2 H (endK Try.prog [.tmp 6, .tmp 7]) by kernel_rfl) h))

theorem d_clock_alarm_compare (a0 : Value) (a1 : Value) (H : AHeap) {r : Value × AHeap} (h : s_clock_alarm_compare guardK condL shareL Try.prog CC a0 a1 H (endK Try.prog [.tmp 4]) = some r) : CC F.clock_alarm_compare [a0, a1] H = some (tidy H r) := D_body (by kernel_rfl) ((s_clock_alarm_compare_eq stdL CC limLP a0 a1 H).trans (Eq.trans (show s_clock_alarm_compare stdL.b.g stdL.c stdL.s Try.prog CC a0 a1 H (endK Try.prog [.tmp 4]) = s_clock_alarm_compare guardK condL shareL Try.prog CC a0 a1 H (endK Try.prog [.tmp 4]) by kernel_rfl) h))

theorem d_slices_Clone_alarm (a0 : Value) (H : AHeap) {r : Value × AHeap} (h : s_slices_Clone_alarm guardK condL shareL Try.prog CC a0 H (endK Try.prog [.tmp 2]) = some r) : CC F.slices_Clone_alarm [a0] H = some (tidy H r) := D_body (by kernel_rfl) ((s_slices_Clone_alarm_eq stdL CC limLP a0 H).trans (Eq.trans (show s_slices_Clone_alarm stdL.b.g stdL.c stdL.s Try.prog CC a0 H (endK Try.prog [.tmp 2]) = s_slices_Clone_alarm guardK condL shareL Try.prog CC a0 H (endK Try.prog [.tmp 2]) by kernel_rfl) h))

theorem d_slices_Delete_alarm (a0 : Value) (a1 : Value) (a2 : Value) (H : AHeap) {r : Value × AHeap} (h : s_slices_Delete_alarm guardK condL shareL Try.prog CC a0 a1 a2 H (endK Try.prog [.tmp 6]) = some r) : CC F.slices_Delete_alarm [a0, a1, a2] H = some (tidy H r) := D_body (by kernel_rfl) ((s_slices_Delete_alarm_eq stdL CC limLP a0 a1 a2 H).trans (Eq.trans (show s_slices_Delete_alarm stdL.b.g stdL.c stdL.s Try.prog CC a0 a1 a2 H (endK Try.prog [.tmp 6]) = s_slices_Delete_alarm guardK condL shareL Try.prog CC a0 a1 a2 H (endK Try.prog [.tmp 6]) by kernel_rfl) h))

noncomputable def l_clock_out_0 (v3 : Value) (v6 : Value) (v7 : Value) (v8 : Value) (H : AHeap) (k : K) : Res := loopL stdL Try.prog hints CC limLP F.clock_out 0 [(3, v3), (6, v6), (7, v7), (8, v8)] H k
theorem r_clock_out_0 (v3 : Value) (v6 : Value) (v7 : Value) (v8 : Value) (H : AHeap) (k : K) : l_clock_out_0 v3 v6 v7 v8 H k = s_clock_out_b0 guardK condL shareL Try.prog CC l_clock_out_0 v3 v6 v7 v8 H (seqK (fun T H => l_clock_out_0 (get T 3) (get T 6) (get T 7) (get T 8) H k) k) := ((loopL_next (by kernel_rfl) rfl H k).trans (s_clock_out_b0_eq stdL CC limLP v3 v6 v7 v8 H _)).trans (by kernel_rfl)
theorem d_clock_out (a0 : Value) (H : AHeap) {r : Value × AHeap} (h : s_clock_out guardK condL shareL Try.prog CC l_clock_out_0 a0 H (endK Try.prog [.tmp 2]) = some r) : CC F.clock_out [a0] H = some (tidy H r) := D_body (by kernel_rfl) ((s_clock_out_eq stdL CC limLP a0 H).trans (Eq.trans (show s_clock_out stdL.b.g stdL.c stdL.s Try.prog CC (fun v3 v6 v7 v8 H k => loopL stdL Try.prog hints CC limLP F.clock_out 0 [(3, v3), (6, v6), (7, v7), (8, v8)] H k) a0 H (endK Try.prog [.tmp 2]) = s_clock_out guardK condL shareL Try.prog CC l_clock_out_0 a0 H (endK Try.prog [.tmp 2]) by kernel_rfl) h))

noncomputable def l_ref02_Clock_Set_0 (v1 : Value) (v2 : Value) (v3 : Value) (v6 : Value) (v8 : Value) (H : AHeap) (k : K) : Res := loopL stdL Try.prog hints CC limLP F.ref02_Clock_Set 0 [(1, v1), (2, v2), (3, v3), (6, v6), (8, v8)] H k
theorem r_ref02_Clock_Set_0 (v1 : Value) (v2 : Value) (v3 : Value) (v6 : Value) (v8 : Value) (H : AHeap) (k : K) : l_ref02_Clock_Set_0 v1 v2 v3 v6 v8 H k = s_ref02_Clock_Set_b0 guardK condL shareL Try.prog CC l_ref02_Clock_Set_0 v1 v2 v3 v6 v8 H (seqK (fun T H => l_ref02_Clock_Set_0 (get T 1) (get T 2) (get T 3) (get T 6) (get T 8) H k) k) := ((loopL_next (by kernel_rfl) rfl H k).trans (s_ref02_Clock_Set_b0_eq stdL CC limLP v1 v2 v3 v6 v8 H _)).trans (by kernel_rfl)
theorem d_ref02_Clock_Set (a0 : Value) (a1 : Value) (a2 : Value) (H : AHeap) {r : Value × AHeap} (h : s_ref02_Clock_Set guardK condL shareL Try.prog CC l_ref02_Clock_Set_0 a0 a1 a2 H (endK Try.prog [.cell 6 T.ref02_Clock, .tmp 7]) = some r) : CC F.ref02_Clock_Set [a0, a1, a2] H = some (tidy H r) := D_body (by kernel_rfl) ((s_ref02_Clock_Set_eq stdL CC limLP a0 a1 a2 H).trans (Eq.trans (show s_ref02_Clock_Set stdL.b.g stdL.c stdL.s Try.prog CC (fun v1 v2 v3 v6 v8 H k => loopL stdL Try.prog hints CC limLP F.ref02_Clock_Set 0 [(1, v1), (2, v2), (3, v3), (6, v6), (8, v8)] H k) a0 a1 a2 H (endK Try.prog [.cell 6 T.ref02_Clock, .tmp 7]) = s_ref02_Clock_Set guardK condL shareL Try.prog CC l_ref02_Clock_Set_0 a0 a1 a2 H (endK Try.prog [.cell 6 T.ref02_Clock, .tmp 7]) by kernel_rfl) h))

noncomputable def l_ref02_Clock_Clear_0 (v1 : Value) (v2 : Value) (v4 : Value) (v6 : Value) (v7 : Value) (H : AHeap) (k : K) : Res := loopL stdL Try.prog hints CC limLP F.ref02_Clock_Clear 0 [(1, v1), (2, v2), (4, v4), (6, v6), (7, v7)] H k
theorem r_ref02_Clock_Clear_0 (v1 : Value) (v2 : Value) (v4 : Value) (v6 : Value) (v7 : Value) (H : AHeap) (k : K) : l_ref02_Clock_Clear_0 v1 v2 v4 v6 v7 H k = s_ref02_Clock_Clear_b0 guardK condL shareL Try.prog CC l_ref02_Clock_Clear_0 v1 v2 v4 v6 v7 H (seqK (fun T H => l_ref02_Clock_Clear_0 (get T 1) (get T 2) (get T 4) (get T 6) (get T 7) H k) k) := ((loopL_next (by kernel_rfl) rfl H k).trans (s_ref02_Clock_Clear_b0_eq stdL CC limLP v1 v2 v4 v6 v7 H _)).trans (by kernel_rfl)
theorem d_ref02_Clock_Clear (a0 : Value) (a1 : Value) (H : AHeap) {r : Value × AHeap} (h : s_ref02_Clock_Clear guardK condL shareL Try.prog CC l_ref02_Clock_Clear_0 a0 a1 H (endK Try.prog [.cell 4 T.ref02_Clock, .tmp 5]) = some r) : CC F.ref02_Clock_Clear [a0, a1] H = some (tidy H r) := D_body (by kernel_rfl) ((s_ref02_Clock_Clear_eq stdL CC limLP a0 a1 H).trans (Eq.trans (show s_ref02_Clock_Clear stdL.b.g stdL.c stdL.s Try.prog CC (fun v1 v2 v4 v6 v7 H k => loopL stdL Try.prog hints CC limLP F.ref02_Clock_Clear 0 [(1, v1), (2, v2), (4, v4), (6, v6), (7, v7)] H k) a0 a1 H (endK Try.prog [.cell 4 T.ref02_Clock, .tmp 5]) = s_ref02_Clock_Clear guardK condL shareL Try.prog CC l_ref02_Clock_Clear_0 a0 a1 H (endK Try.prog [.cell 4 T.ref02_Clock, .tmp 5]) by kernel_rfl) h))

noncomputable def l_ref02_Clock_Pass_0 (v2 : Value) (v4 : Value) (v7 : Value) (v8 : Value) (v9 : Value) (H : AHeap) (k : K) : Res := loopL stdL Try.prog hints CC limLP F.ref02_Clock_Pass 0 [(2, v2), (4, v4), (7, v7), (8, v8), (9, v9)] H k
theorem r_ref02_Clock_Pass_0 (v2 : Value) (v4 : Value) (v7 : Value) (v8 : Value) (v9 : Value) (H : AHeap) (k : K) : l_ref02_Clock_Pass_0 v2 v4 v7 v8 v9 H k = s_ref02_Clock_Pass_b0 guardK condL shareL Try.prog CC l_ref02_Clock_Pass_0 v2 v4 v7 v8 v9 H (seqK (fun T H => l_ref02_Clock_Pass_0 (get T 2) (get T 4) (get T 7) (get T 8) (get T 9) H k) k) := ((loopL_next (by kernel_rfl) rfl H k).trans (s_ref02_Clock_Pass_b0_eq stdL CC limLP v2 v4 v7 v8 v9 H _)).trans (by kernel_rfl)
theorem d_ref02_Clock_Pass (a0 : Value) (a1 : Value) (H : AHeap) {r : Value × AHeap} (h : s_ref02_Clock_Pass guardK condL shareL Try.prog CC l_ref02_Clock_Pass_0 a0 a1 H (endK Try.prog [.cell 4 T.ref02_Clock, .tmp 5, .tmp 6]) = some r) : CC F.ref02_Clock_Pass [a0, a1] H = some (tidy H r) := D_body (by kernel_rfl) ((s_ref02_Clock_Pass_eq stdL CC limLP a0 a1 H).trans (Eq.trans (show s_ref02_Clock_Pass stdL.b.g stdL.c stdL.s Try.prog CC (fun v2 v4 v7 v8 v9 H k => loopL stdL Try.prog hints CC limLP F.ref02_Clock_Pass 0 [(2, v2), (4, v4), (7, v7), (8, v8), (9, v9)] H k) a0 a1 H (endK Try.prog [.cell 4 T.ref02_Clock, .tmp 5, .tmp 6]) = s_ref02_Clock_Pass guardK condL shareL Try.prog CC l_ref02_Clock_Pass_0 a0 a1 H (endK Try.prog [.cell 4 T.ref02_Clock, .tmp 5, .tmp 6]) by kernel_rfl) h))

theorem d_ref02_Clock_Next (a0 : Value) (H : AHeap) {r : Value × AHeap} (h : s_ref02_Clock_Next guardK condL shareL Try.prog CC a0 H (endK Try.prog [.tmp 2]) = some r) : CC F.ref02_Clock_Next [a0] H = some (tidy H r) := D_body (by kernel_rfl) ((s_ref02_Clock_Next_eq stdL CC limLP a0 H).trans (Eq.trans (show s_ref02_Clock_Next stdL.b.g stdL.c stdL.s Try.prog CC a0 H (endK Try.prog [.tmp 2]) = s_ref02_Clock_Next guardK condL shareL Try.prog CC a0 H (endK Try.prog [.tmp 2]) by kernel_rfl) h))

noncomputable def l_slices_IndexFunc_alarm_0 (v0 : Value) (v1 : Value) (v7 : Value) (v8 : Value) (H : AHeap) (k : K) : Res := loopL stdL Try.prog hints CC limLP F.slices_IndexFunc_alarm 0 [(0, v0), (1, v1), (7, v7), (8, v8)] H k
theorem r_slices_IndexFunc_alarm_0 (v0 : Value) (v1 : Value) (v7 : Value) (v8 : Value) (H : AHeap) (k : K) : l_slices_IndexFunc_alarm_0 v0 v1 v7 v8 H k = s_slices_IndexFunc_alarm_b0 guardK condL shareL Try.prog CC l_slices_IndexFunc_alarm_0 v0 v1 v7 v8 H (seqK (fun T H => l_slices_IndexFunc_alarm_0 (get T 0) (get T 1) (get T 7) (get T 8) H k) k) := ((loopL_next (by kernel_rfl) rfl H k).trans (s_slices_IndexFunc_alarm_b0_eq stdL CC limLP v0 v1 v7 v8 H _)).trans (by kernel_rfl)
theorem d_slices_IndexFunc_alarm (a0 : Value) (a1 : Value) (H : AHeap) {r : Value × AHeap} (h : s_slices_IndexFunc_alarm guardK condL shareL Try.prog CC l_slices_IndexFunc_alarm_0 a0 a1 H (endK Try.prog [.tmp 4]) = some r) : CC F.slices_IndexFunc_alarm [a0, a1] H = some (tidy H r) := D_body (by kernel_rfl) ((s_slices_IndexFunc_alarm_eq stdL CC limLP a0 a1 H).trans (Eq.trans (show s_slices_IndexFunc_alarm stdL.b.g stdL.c stdL.s Try.prog CC (fun v0 v1 v7 v8 H k => loopL stdL Try.prog hints CC limLP F.slices_IndexFunc_alarm 0 [(0, v0), (1, v1), (7, v7), (8, v8)] H k) a0 a1 H (endK Try.prog [.tmp 4]) = s_slices_IndexFunc_alarm guardK condL shareL Try.prog CC l_slices_IndexFunc_alarm_0 a0 a1 H (endK Try.prog [.tmp 4]) by kernel_rfl) h))

theorem d_clock_Clock_find_1 (a0 : Value) (a1 : Value) (H : AHeap) {r : Value × AHeap} (h : s_clock_Clock_find_1 guardK condL shareL Try.prog CC a0 a1 H (endK Try.prog [.tmp 3]) = some r) : CC F.clock_Clock_find_1 [a0, a1] H = some (tidy H r) := D_body (by kernel_rfl) ((s_clock_Clock_find_1_eq stdL CC limLP a0 a1 H).trans (Eq.trans (show s_clock_Clock_find_1 stdL.b.g stdL.c stdL.s Try.prog CC a0 a1 H (endK Try.prog [.tmp 3]) = s_clock_Clock_find_1 guardK condL shareL Try.prog CC a0 a1 H (endK Try.prog [.tmp 3]) by kernel_rfl) h))

noncomputable def l_cmp_Or_int_0 (v3 : Value) (v6 : Value) (v7 : Value) (v8 : Value) (H : AHeap) (k : K) : Res := loopL stdL Try.prog hints CC limLP F.cmp_Or_int 0 [(3, v3), (6, v6), (7, v7), (8, v8)] H k
theorem r_cmp_Or_int_0 (v3 : Value) (v6 : Value) (v7 : Value) (v8 : Value) (H : AHeap) (k : K) : l_cmp_Or_int_0 v3 v6 v7 v8 H k = s_cmp_Or_int_b0 guardK condL shareL Try.prog CC l_cmp_Or_int_0 v3 v6 v7 v8 H (seqK (fun T H => l_cmp_Or_int_0 (get T 3) (get T 6) (get T 7) (get T 8) H k) k) := ((loopL_next (by kernel_rfl) rfl H k).trans (s_cmp_Or_int_b0_eq stdL CC limLP v3 v6 v7 v8 H _)).trans (by kernel_rfl)
theorem d_cmp_Or_int (a0 : Value) (H : AHeap) {r : Value × AHeap} (h : s_cmp_Or_int guardK condL shareL Try.prog CC l_cmp_Or_int_0 a0 H (endK Try.prog [.tmp 2]) = some r) : CC F.cmp_Or_int [a0] H = some (tidy H r) := D_body (by kernel_rfl) ((s_cmp_Or_int_eq stdL CC limLP a0 H).trans (Eq.trans (show s_cmp_Or_int stdL.b.g stdL.c stdL.s Try.prog CC (fun v3 v6 v7 v8 H k => loopL stdL Try.prog hints CC limLP F.cmp_Or_int 0 [(3, v3), (6, v6), (7, v7), (8, v8)] H k) a0 H (endK Try.prog [.tmp 2]) = s_cmp_Or_int guardK condL shareL Try.prog CC l_cmp_Or_int_0 a0 H (endK Try.prog [.tmp 2]) by kernel_rfl) h))

theorem d_cmp_Compare_int (a0 : Value) (a1 : Value) (H : AHeap) {r : Value × AHeap} (h : s_cmp_Compare_int guardK condL shareL Try.prog CC a0 a1 H (endK Try.prog [.tmp 4]) = some r) : CC F.cmp_Compare_int [a0, a1] H = some (tidy H r) := D_body (by kernel_rfl) ((s_cmp_Compare_int_eq stdL CC limLP a0 a1 H).trans (Eq.trans (show s_cmp_Compare_int stdL.b.g stdL.c stdL.s Try.prog CC a0 a1 H (endK Try.prog [.tmp 4]) = s_cmp_Compare_int guardK condL shareL Try.prog CC a0 a1 H (endK Try.prog [.tmp 4]) by kernel_rfl) h))

theorem d_slices_rotateRight_alarm (a0 : Value) (a1 : Value) (H : AHeap) {r : Value × AHeap} (h : s_slices_rotateRight_alarm guardK condL shareL Try.prog CC a0 a1 H (endK Try.prog []) = some r) : CC F.slices_rotateRight_alarm [a0, a1] H = some (tidy H r) := D_body (by kernel_rfl) ((s_slices_rotateRight_alarm_eq stdL CC limLP a0 a1 H).trans (Eq.trans (show s_slices_rotateRight_alarm stdL.b.g stdL.c stdL.s Try.prog CC a0 a1 H (endK Try.prog []) = s_slices_rotateRight_alarm guardK condL shareL Try.prog CC a0 a1 H (endK Try.prog []) by kernel_rfl) h))

noncomputable def l_ref02_Clock_has_0 (v1 : Value) (v2 : Value) (v5 : Value) (H : AHeap) (k : K) : Res := loopL stdL Try.prog hints CC limLP F.ref02_Clock_has 0 [(1, v1), (2, v2), (5, v5)] H k
theorem r_ref02_Clock_has_0 (v1 : Value) (v2 : Value) (v5 : Value) (H : AHeap) (k : K) : l_ref02_Clock_has_0 v1 v2 v5 H k = s_ref02_Clock_has_b0 guardK condL shareL Try.prog CC l_ref02_Clock_has_0 v1 v2 v5 H (seqK (fun T H => l_ref02_Clock_has_0 (get T 1) (get T 2) (get T 5) H k) k) := ((loopL_next (by kernel_rfl) rfl H k).trans (s_ref02_Clock_has_b0_eq stdL CC limLP v1 v2 v5 H _)).trans (by kernel_rfl)
theorem d_ref02_Clock_has (a0 : Value) (a1 : Value) (H : AHeap) {r : Value × AHeap} (h : s_ref02_Clock_has guardK condL shareL Try.prog CC l_ref02_Clock_has_0 a0 a1 H (endK Try.prog [.tmp 4]) = some r) : CC F.ref02_Clock_has [a0, a1] H = some (tidy H r) := D_body (by kernel_rfl) ((s_ref02_Clock_has_eq stdL CC limLP a0 a1 H).trans (Eq.trans (show s_ref02_Clock_has stdL.b.g stdL.c stdL.s Try.prog CC (fun v1 v2 v5 H k => loopL stdL Try.prog hints CC limLP F.ref02_Clock_has 0 [(1, v1), (2, v2), (5, v5)] H k) a0 a1 H (endK Try.prog [.tmp 4]) = s_ref02_Clock_has guardK condL shareL Try.prog CC l_ref02_Clock_has_0 a0 a1 H (endK Try.prog [.tmp 4]) by kernel_rfl) h))

theorem d_cmp_isNaN_int (a0 : Value) (H : AHeap) {r : Value × AHeap} (h : s_cmp_isNaN_int guardK condL shareL Try.prog CC a0 H (endK Try.prog [.tmp 2]) = some r) : CC F.cmp_isNaN_int [a0] H = some (tidy H r) := D_body (by kernel_rfl) ((s_cmp_isNaN_int_eq stdL CC limLP a0 H).trans (Eq.trans (show s_cmp_isNaN_int stdL.b.g stdL.c stdL.s Try.prog CC a0 H (endK Try.prog [.tmp 2]) = s_cmp_isNaN_int guardK condL shareL Try.prog CC a0 H (endK Try.prog [.tmp 2]) by kernel_rfl) h))

theorem d_slices_rotateLeft_alarm (a0 : Value) (a1 : Value) (H : AHeap) {r : Value × AHeap} (h : s_slices_rotateLeft_alarm guardK condL shareL Try.prog CC a0 a1 H (endK Try.prog []) = some r) : CC F.slices_rotateLeft_alarm [a0, a1] H = some (tidy H r) := D_body (by kernel_rfl) ((s_slices_rotateLeft_alarm_eq stdL CC limLP a0 a1 H).trans (Eq.trans (show s_slices_rotateLeft_alarm stdL.b.g stdL.c stdL.s Try.prog CC a0 a1 H (endK Try.prog []) = s_slices_rotateLeft_alarm guardK condL shareL Try.prog CC a0 a1 H (endK Try.prog []) by kernel_rfl) h))

noncomputable def l_slices_Reverse_alarm_0 (v0 : Value) (v2 : Value) (v3 : Value) (H : AHeap) (k : K) : Res := loopL stdL Try.prog hints CC limLP F.slices_Reverse_alarm 0 [(0, v0), (2, v2), (3, v3)] H k
theorem r_slices_Reverse_alarm_0 (v0 : Value) (v2 : Value) (v3 : Value) (H : AHeap) (k : K) : l_slices_Reverse_alarm_0 v0 v2 v3 H k = s_slices_Reverse_alarm_b0 guardK condL shareL Try.prog CC l_slices_Reverse_alarm_0 v0 v2 v3 H (seqK (fun T H => l_slices_Reverse_alarm_0 (get T 0) (get T 2) (get T 3) H k) k) := ((loopL_next (by kernel_rfl) rfl H k).trans (s_slices_Reverse_alarm_b0_eq stdL CC limLP v0 v2 v3 H _)).trans (by kernel_rfl)
theorem d_slices_Reverse_alarm (a0 : Value) (H : AHeap) {r : Value × AHeap} (h : s_slices_Reverse_alarm guardK condL shareL Try.prog CC l_slices_Reverse_alarm_0 a0 H (endK Try.prog []) = some r) : CC F.slices_Reverse_alarm [a0] H = some (tidy H r) := D_body (by kernel_rfl) ((s_slices_Reverse_alarm_eq stdL CC limLP a0 H).trans (Eq.trans (show s_slices_Reverse_alarm stdL.b.g stdL.c stdL.s Try.prog CC (fun v0 v2 v3 H k => loopL stdL Try.prog hints CC limLP F.slices_Reverse_alarm 0 [(0, v0), (2, v2), (3, v3)] H k) a0 H (endK Try.prog []) = s_slices_Reverse_alarm guardK condL shareL Try.prog CC l_slices_Reverse_alarm_0 a0 H (endK Try.prog []) by kernel_rfl) h))

end Go.Proofs.Ytldgonjihhndgaa

/-
  The engine, part 23: lists that lie in rows of cells: reading, slicing, appending.
  Conditions: none. By an AI agent.
-/
namespace Go.Proofs.Ytldgonjihhndgaa.Eng
open Go
set_option linter.unusedVariables false
set_option linter.unusedSimpArgs false

/-- How an element lies in cells. -/
structure Enc (α : Type) where
  w : Nat
  enc : α → List Value
  len : ∀ a, (enc a).length = w
  pos : 0 < w
  one : ∀ a, (enc a).all one = true

namespace Enc
variable {α : Type} (E : Enc α)

def cells (l : List α) : List Value := l.flatMap E.enc
@[simp] theorem cells_nil : E.cells [] = [] := rfl
@[simp] theorem cells_cons (a : α) (l : List α) : E.cells (a :: l) = E.enc a ++ E.cells l := rfl
theorem cells_append (l m : List α) : E.cells (l ++ m) = E.cells l ++ E.cells m := by simp [cells]
@[simp] theorem cells_len : ∀ (l : List α), (E.cells l).length = l.length * E.w
  | [] => by simp
  | a :: l => by simp [E.len, cells_len l, Nat.add_mul]; omega
theorem cells_one : ∀ (l : List α), (E.cells l).all Eng.one = true
  | [] => rfl
  | a :: l => by rw [cells_cons, List.all_append, E.one, cells_one l]; rfl
theorem cells_drop : ∀ (l : List α) (i : Nat), (E.cells l).drop (i * E.w) = E.cells (l.drop i)
  | l, 0 => by simp
  | [], i + 1 => by simp
  | a :: l, i + 1 => by
    rw [cells_cons, List.drop_append, E.len, List.drop_eq_nil_of_le (by rw [E.len, Nat.add_mul]; omega)]
    rw [show (i + 1) * E.w - E.w = i * E.w by rw [Nat.add_mul]; omega, cells_drop l i]
    simp
theorem cells_take : ∀ (l : List α) (i : Nat), (E.cells l).take (i * E.w) = E.cells (l.take i)
  | l, 0 => by simp
  | [], i + 1 => by simp
  | a :: l, i + 1 => by
    rw [cells_cons, List.take_append, E.len, List.take_of_length_le (by rw [E.len, Nat.add_mul]; omega)]
    rw [show (i + 1) * E.w - E.w = i * E.w by rw [Nat.add_mul]; omega, cells_take l i]
    simp
theorem cells_elem (l : List α) (i : Nat) (h : i < l.length) : ((E.cells l).drop (i * E.w)).take E.w = E.enc l[i] := by
  rw [cells_drop, List.drop_eq_getElem_cons h, cells_cons, List.take_append, E.len, Nat.sub_self, List.take_zero, List.append_nil, List.take_of_length_le (by rw [E.len]; exact Nat.le_refl _)]
end Enc

variable {P : Program} {α : Type} {E : Enc α} {H H' : AHeap} {v : Value} {l : List α} {e : TypeId}

/-- A slice that reads as a list. -/
def Rd (E : Enc α) (H : AHeap) (v : Value) (l : List α) : Prop :=
  (l = [] ∧ v = .slice none 0 0) ∨ (l = [] ∧ ∃ a k, v = .slice (some a) 0 k ∧ a.spot = none) ∨
  ∃ b o c, v = .slice (some ⟨b, o, none⟩) l.length c ∧ l ≠ [] ∧ b < H.n ∧ cutB (H.f b) o (l.length * E.w) = some (E.cells l)

/-- The block of a slice that has elements. -/
def Off (S : Nat → Prop) (v : Value) : Prop := ∀ b, blockOf v = some b → ¬ S b

theorem Rd.keep {S : Nat → Prop} (r : Rd E H v l) (h : Fr S H H') (hs : Off S v) : Rd E H' v l := by
  rcases r with r | r | ⟨b, o, c, rfl, hl, hb, hc⟩
  · exact .inl r
  · exact .inr (.inl r)
  · exact .inr (.inr ⟨b, o, c, rfl, hl, Nat.lt_of_lt_of_le hb h.n, by rw [h.f hb (hs b rfl)]; exact hc⟩)
theorem Rd.still (r : Rd E H v l) (h : Still H H') : Rd E H' v l := r.keep h fun _ _ h => h

theorem cutB_sub {k : Blk} {o n : Nat} {xs : List Value} (h : cutB k o n = some xs) {i m : Nat} (hi : i + m ≤ n) : cutB k (o + i) m = some ((xs.drop i).take m) := by
  unfold cutB at h ⊢
  cases k with
  | cells ys e rw =>
    simp only at h ⊢
    split at h
    · cases h
      rw [if_pos (by omega), List.drop_take, List.take_take, List.drop_drop, Nat.min_eq_left (by omega)]
    · cases h
  | _ => cases h

theorem cutB_len {k : Blk} {o n : Nat} {xs : List Value} (h : cutB k o n = some xs) : xs.length = n := by
  unfold cutB at h
  cases k with
  | cells ys e rw =>
    simp only at h
    split at h
    · cases h
      simp; omega
    · cases h
  | _ => cases h

theorem cutB_cell {k : Blk} {o n : Nat} {xs : List Value} (h : cutB k o n = some xs) {i : Nat} (hi : i < n) : cellB k (o + i) = xs[i]? := by
  unfold cutB at h
  unfold cellB
  cases k with
  | cells ys e rw =>
    simp only at h ⊢
    split at h
    · cases h
      rw [List.getElem?_take_of_lt hi, List.getElem?_drop]
    · cases h
  | _ => cases h

/-- Its elements, one by one. -/
theorem Rd.elem (r : Rd E H v l) {i : Nat} (hi : i < l.length) : ∃ b o c, v = .slice (some ⟨b, o, none⟩) l.length c ∧ b < H.n ∧ cutB (H.f b) (o + i * E.w) E.w = some (E.enc l[i]) := by
  rcases r with ⟨rfl, _⟩ | ⟨rfl, _⟩ | ⟨b, o, c, hv, hl, hb, hc⟩
  · simp at hi
  · simp at hi
  · refine ⟨b, o, c, hv, hb, ?_⟩
    rw [cutB_sub hc (i := i * E.w) (m := E.w) (by have := Nat.mul_le_mul_right E.w hi; rw [Nat.succ_mul] at this; exact this), E.cells_elem l i hi]

theorem Rd.shape (r : Rd E H v l) : ∃ a c, v = .slice a l.length c := by
  rcases r with ⟨rfl, rfl⟩ | ⟨rfl, a, k, rfl, _⟩ | ⟨b, o, c, rfl, hl, hb, hc⟩ <;> exact ⟨_, _, rfl⟩

theorem Rd.lenS (r : Rd E H v l) : Eng.lenS v = some (.int .i64 l.length) := by
  obtain ⟨a, c, rfl⟩ := r.shape
  rfl

/-- What append takes of it. -/
theorem Rd.src (r : Rd E H v l) {sz : Nat} (hsz : sz = E.w) : srcS sz v H = some (l.length, E.cells l) := by
  subst hsz
  rcases r with ⟨rfl, rfl⟩ | ⟨rfl, ⟨b, o, s⟩, k, rfl, hs⟩ | ⟨b, o, c, rfl, hl, hb, hc⟩
  · rfl
  · simp only at hs
    subst hs
    rfl
  · unfold srcS
    have h0 : l.length ≠ 0 := fun h => hl (List.length_eq_zero_iff.1 h)
    simp only [h0, if_false, cut_b, hc, Option.map_some]

@[go_sem] theorem ixS_int {sz b o len code : Nat} {i : Int} {q : IntKind} (h : 0 ≤ i ∧ i < (len : Int)) : ixS sz (.slice (some ⟨b, o, none⟩) len code) (.int q i) = some (.pointer (some ⟨b, o + i.toNat * sz, none⟩)) := by
  unfold ixS
  simp only
  rw [if_pos h]
theorem ixS_nat {sz b o len code k : Nat} {q : IntKind} (h : k < len) : ixS sz (.slice (some ⟨b, o, none⟩) len code) (.int q (k : Int)) = some (.pointer (some ⟨b, o + k * sz, none⟩)) := by
  rw [ixS_int ⟨by omega, by omega⟩, Int.toNat_natCast]
attribute [go_sem] Int.toNat_natCast Nat.zero_mul Nat.mul_one

theorem Rd.ix (r : Rd E H v l) {i : Nat} (hi : i < l.length) {q : IntKind} : ∃ b o, ixS E.w v (.int q (i : Int)) = some (.pointer (some ⟨b, o, none⟩)) ∧ b < H.n ∧ cutB (H.f b) o E.w = some (E.enc l[i]) ∧ blockOf v = some b := by
  obtain ⟨b, o, c, rfl, hb, hc⟩ := r.elem hi
  exact ⟨b, o + i * E.w, ixS_nat hi, hb, hc, rfl⟩

/-! ### Rows that are the function's own, and may grow -/

/-- A list in a row of its own that ends with the row's end; or an empty one. -/
def Own (E : Enc α) (H : AHeap) (e : TypeId) (v : Value) (l : List α) : Prop :=
  (l = [] ∧ v = .slice none 0 0) ∨ (l = [] ∧ ∃ a, v = .slice (some a) 0 0 ∧ a.spot = none ∧ a.block < H.n) ∨
  ∃ b o c xs, v = .slice (some ⟨b, o, none⟩) l.length (2 * c + 1) ∧ l.length ≤ c ∧ b < H.n ∧ H.f b = .cells xs e true ∧ o + c * E.w = xs.length ∧ (xs.drop o).take (l.length * E.w) = E.cells l

theorem Own.rd (r : Own E H e v l) : Rd E H v l := by
  rcases r with r | ⟨hl, a, h, hs, _⟩ | ⟨b, o, c, xs, rfl, hl, hb, hf, ho, hx⟩
  · exact .inl r
  · exact .inr (.inl ⟨hl, a, 0, h, hs⟩)
  · by_cases h0 : l = []
    · subst h0; exact .inr (.inl ⟨rfl, _, _, rfl, rfl⟩)
    · refine .inr (.inr ⟨b, o, _, rfl, h0, hb, ?_⟩)
      rw [hf]
      unfold cutB
      simp only
      rw [if_pos (by have := Nat.mul_le_mul_right E.w hl; omega), hx]

theorem Own.keep {S : Nat → Prop} (r : Own E H e v l) (h : Fr S H H') (hs : Off S v) : Own E H' e v l := by
  rcases r with r | ⟨hl, a, hv, hsp, hb⟩ | ⟨b, o, c, xs, rfl, hl, hb, hf, ho, hx⟩
  · exact .inl r
  · exact .inr (.inl ⟨hl, a, hv, hsp, Nat.lt_of_lt_of_le hb h.n⟩)
  · exact .inr (.inr ⟨b, o, c, xs, rfl, hl, Nat.lt_of_lt_of_le hb h.n, by rw [h.f hb (hs b rfl)]; exact hf, ho, hx⟩)
theorem Own.cell (r : Own E H e v l) : Eng.one v = true := by
  rcases r with ⟨_, rfl⟩ | ⟨_, a, rfl, _, hb⟩ | ⟨b', o, c, xs, rfl, _, hb, _⟩ <;> rfl
theorem Own.blk (r : Own E H e v l) {b : Nat} (h : blockOf v = some b) : b < H.n := by
  rcases r with ⟨_, rfl⟩ | ⟨_, a, rfl, _, hb⟩ | ⟨b', o, c, xs, rfl, _, hb, _⟩
  · cases h
  · cases h; exact hb
  · cases h; exact hb
theorem Own.still (r : Own E H e v l) (h : Still H H') : Own E H' e v l := r.keep h fun _ _ h => h

/-- Only its block, or one that is new, may be turned when it grows. -/
def OnlyOf (v : Value) : Nat → Prop := fun b => blockOf v = some b

theorem Fr.kill (H : AHeap) (b : Nat) : Fr (fun c => c = b) H (H.set b .dead) := (Fr.refl H).set b _ fun _ => rfl

/-- Appending to a list of its own. -/
theorem Own.app (r : Own E H e v l) {m : List α} (hm : m ≠ []) {sz bytes : Nat} (hsz : sz = E.w) (hb : (l.length + m.length) * bytes ≤ 140737488355328) (hn : l.length + m.length ≤ 140737488355328)
    {src : Option (Nat × List Value)} (hsrc : src = some (m.length, E.cells m)) :
    ∃ v' H', Eng.app e sz bytes v src H = some (v', H') ∧ Own E H' e v' (l ++ m) ∧ Fr (OnlyOf v) H H' ∧ (blockOf v' = blockOf v ∨ blockOf v' = some H.n) ∧ gr 9 v' = false := by
  subst hsz hsrc
  have hm0 : m.length ≠ 0 := fun h => hm (List.length_eq_zero_iff.1 h)
  have hbig : ¬ ((l.length + m.length) * bytes > 140737488355328 ∨ l.length + m.length > 140737488355328) := by omega
  have hone := E.cells_one m
  rcases r with ⟨rfl, rfl⟩ | ⟨rfl, ⟨b, o, s⟩, rfl, hs, hbb⟩ | ⟨b, o, c, xs, rfl, hl, hbn, hf, ho, hx⟩
  · refine ⟨.slice (some ⟨H.n, 0, none⟩) m.length (2 * m.length + 1), H.push (.cells (E.cells m) e true), ?_, ?_, (Fr.refl H).push _, .inr rfl, rfl⟩
    · simp only [List.length_nil, Nat.zero_add] at hbig
      simp only [Eng.app, Option.bind_some, hm0, if_false, Nat.zero_add, hbig, Nat.zero_div, Nat.le_zero_eq, hone, Bool.true_eq_false, oldOf, if_true, Nat.zero_mod, Option.map_some, List.nil_append]
    · refine .inr (.inr ⟨H.n, 0, m.length, E.cells m, by simp, by simp, by simp, by simp, by simp, ?_⟩)
      simp only [List.drop_zero, List.nil_append]
      rw [List.take_of_length_le (by simp)]
  · simp only at hs
    subst hs
    refine ⟨.slice (some ⟨H.n, 0, none⟩) m.length (2 * m.length + 1), H.push (.cells (E.cells m) e true), ?_, ?_, (Fr.refl H).push _, .inr rfl, rfl⟩
    · simp only [List.length_nil, Nat.zero_add] at hbig
      simp only [Eng.app, Option.bind_some, hm0, if_false, Nat.zero_add, hbig, Nat.zero_div, Nat.le_zero_eq, hone, Bool.true_eq_false, oldOf, if_true, Nat.zero_mod, Option.map_some, List.nil_append]
    · refine .inr (.inr ⟨H.n, 0, m.length, E.cells m, by simp, by simp, by simp, by simp, by simp, ?_⟩)
      simp only [List.drop_zero, List.nil_append]
      rw [List.take_of_length_le (by simp)]
  · have hc2 : (2 * c + 1) / 2 = c := by omega
    have hc3 : (2 * c + 1) % 2 = 1 := by omega
    have hmulc := Nat.mul_le_mul_right E.w hl
    by_cases hroom : l.length + m.length ≤ c
    · have hmul := Nat.mul_le_mul_right E.w hroom
      rw [Nat.add_mul] at hmul
      refine ⟨.slice (some ⟨b, o, none⟩) (l.length + m.length) (2 * c + 1), H.set b (.cells (spl xs (o + l.length * E.w) (E.cells m)) e true), ?_, ?_, (Fr.refl H).set b _ fun _ => rfl, .inl rfl, rfl⟩
      · simp only [Eng.app, Option.bind_some, hm0, if_false, hbig, hc2, hroom, if_true, stL_b, hf]
        rw [wrL_c (by simp; omega) hone]
        rfl
      · refine .inr (.inr ⟨b, o, c, _, by simp, by simp; omega, by simpa using hbn, set_f_eq, ?_, ?_⟩)
        · rw [spl_length, ho]
        · apply List.ext_getElem?
          intro j
          rw [List.length_append, Nat.add_mul]
          by_cases hj : j < l.length * E.w + m.length * E.w
          · rw [List.getElem?_take_of_lt hj, List.getElem?_drop, spl_get _ _ _ _ (by simp; omega), E.cells_append, List.getElem?_append, E.cells_len, E.cells_len]
            by_cases h1 : j < l.length * E.w
            · rw [if_neg (by omega), if_pos h1, ← hx, List.getElem?_take_of_lt h1, List.getElem?_drop]
            · rw [if_pos (by omega), if_neg h1, show o + j - (o + l.length * E.w) = j - l.length * E.w by omega]
          · rw [List.getElem?_eq_none (by simp; omega), List.getElem?_eq_none (by simp [Nat.add_mul]; omega)]
    · refine ⟨.slice (some ⟨H.n, 0, none⟩) (l.length + m.length) (2 * (l.length + m.length) + 1), (H.set b .dead).push (.cells (E.cells l ++ E.cells m) e true), ?_, ?_, Fr.push (Fr.set (S := OnlyOf (.slice (some ⟨b, o, none⟩) l.length (2 * c + 1))) (Fr.refl H) b _ (fun _ => rfl)) _, .inr rfl, rfl⟩
      · have hold : oldOf E.w l.length H (some ⟨b, o, none⟩) = some (E.cells l) := by
          unfold oldOf
          split
          · rename_i h0; rw [List.length_eq_zero_iff.1 h0]; rfl
          · simp only [cut_b, hf]
            rw [cutB_c (by omega), hx]
        have hkill : kill H e c E.w (some ⟨b, o, none⟩) = some (H.set b .dead) := by
          unfold kill
          simp only [hf, true_and, ho, if_true]
        simp only [Eng.app, Option.bind_some, hm0, if_false, hbig, hc2, hroom, hone, Bool.true_eq_false, hold, hc3, Nat.one_ne_zero, hkill, Option.map_some, set_n']
      · refine .inr (.inr ⟨H.n, 0, l.length + m.length, E.cells l ++ E.cells m, by simp, by simp, by simp, push_f_eq rfl, by simp [Nat.add_mul], ?_⟩)
        simp only [List.drop_zero]
        rw [List.take_of_length_le (by simp [Nat.add_mul]), E.cells_append]

/-- Cutting off the front. -/
theorem Own.drop (r : Own E H e v l) {sz : Nat} (hsz : sz = E.w) {i : Nat} (hi : i ≤ l.length) {q : IntKind} : ∃ v', slS e sz v (some (.int q (i : Int))) none none H = some v' ∧ Own E H e v' (l.drop i) ∧ blockOf v' = blockOf v := by
  subst hsz
  rcases r with ⟨rfl, rfl⟩ | ⟨rfl, ⟨b, o, s⟩, rfl, hs, hbb⟩ | ⟨b, o, c, xs, rfl, hl, hbn, hf, ho, hx⟩
  · simp only [List.length_nil, Nat.le_zero_eq] at hi
    subst hi
    exact ⟨.slice none 0 0, rfl, .inl ⟨by simp, rfl⟩, rfl⟩
  · simp only at hs
    subst hs
    simp only [List.length_nil, Nat.le_zero_eq] at hi
    subst hi
    exact ⟨.slice (some ⟨b, o, none⟩) 0 0, by simp [slS, highOf, lowOf, bnd], .inr (.inl ⟨by simp, _, rfl, rfl, hbb⟩), rfl⟩
  · have hc2 : (2 * c + 1) / 2 = c := by omega
    have hmul := Nat.mul_le_mul_right E.w hl
    have hmi := Nat.mul_le_mul_right E.w hi
    refine ⟨.slice (some ⟨b, o + i * E.w, none⟩) (l.length - i) (2 * (c - i) + 1), ?_, .inr (.inr ⟨b, o + i * E.w, c - i, xs, by simp, by simp; omega, hbn, hf, by rw [Nat.sub_mul]; omega, ?_⟩), rfl⟩
    · simp only [slS, highOf, lowOf, bnd, hc2, Option.bind_some, show (0 : Int) ≤ (i : Int) ∧ (i : Int) ≤ (l.length : Nat) from ⟨by omega, by omega⟩, Int.toNat_natCast, hl, hf, rowOf, show (2 * c + 1) % 2 = 1 by omega]
      simp
    · rw [List.length_drop, Nat.sub_mul, ← E.cells_drop, ← hx, List.drop_take, List.drop_drop]

/-- A front part that is only read. -/
theorem Own.front (r : Own E H e v l) {sz : Nat} (hsz : sz = E.w) {i : Nat} (hi : i ≤ l.length) {q : IntKind} : ∃ v', slS e sz v none (some (.int q (i : Int))) (some (.int q (i : Int))) H = some v' ∧ Rd E H v' (l.take i) ∧ blockOf v' = blockOf v := by
  subst hsz
  rcases r with ⟨rfl, rfl⟩ | ⟨rfl, ⟨b, o, s⟩, rfl, hs, hbb⟩ | ⟨b, o, c, xs, rfl, hl, hbn, hf, ho, hx⟩
  · simp only [List.length_nil, Nat.le_zero_eq] at hi
    subst hi
    exact ⟨.slice none 0 0, rfl, .inl ⟨by simp, rfl⟩, rfl⟩
  · simp only at hs
    subst hs
    simp only [List.length_nil, Nat.le_zero_eq] at hi
    subst hi
    exact ⟨.slice (some ⟨b, o, none⟩) 0 0, by simp [slS, lowOf, bnd], .inr (.inl ⟨by simp, _, _, rfl, rfl⟩), rfl⟩
  · have hc2 : (2 * c + 1) / 2 = c := by omega
    have hmul := Nat.mul_le_mul_right E.w hl
    have hmi := Nat.mul_le_mul_right E.w hi
    have hval : slS e E.w (.slice (some ⟨b, o, none⟩) l.length (2 * c + 1)) none (some (.int q (i : Int))) (some (.int q (i : Int))) H = some (.slice (some ⟨b, if i = 0 then o else o + 0 * E.w, none⟩) (i - 0) (2 * (i - 0))) := by
      simp only [slS, lowOf, bnd, hc2, Option.bind_some, show (0 : Int) ≤ (i : Int) ∧ (i : Int) ≤ (c : Nat) from ⟨by omega, by omega⟩, show (0 : Int) ≤ (i : Int) ∧ (i : Int) ≤ (i : Nat) from ⟨by omega, by omega⟩, Int.toNat_natCast, and_self, if_true, Option.map_some]
    refine ⟨_, hval, ?_, rfl⟩
    have e1 : (if i = 0 then o else o + 0 * E.w) = o := by split <;> omega
    rw [e1, Nat.sub_zero]
    by_cases h0 : i = 0
    · subst h0; exact .inr (.inl ⟨by simp, _, _, rfl, rfl⟩)
    · have hlen : (l.take i).length = i := by simp; omega
      refine .inr (.inr ⟨b, o, 2 * i, by rw [hlen], fun h => h0 (by rw [← hlen, h]; rfl), hbn, ?_⟩)
      rw [hlen, hf, cutB_c (by omega), ← E.cells_take, ← hx, List.take_take, Nat.min_eq_left hmi]

end Go.Proofs.Ytldgonjihhndgaa.Eng

/-
  Chapter 02: contracts of small functions.
  Conditions: none. By an AI agent.
-/
set_option maxRecDepth 10000
set_option linter.unusedSimpArgs false
set_option linter.unusedVariables false
namespace Go.Proofs.Ytldgonjihhndgaa
open Go Eng

def isTick (n : Int) : Bool := decide (0 ≤ n) && decide (n ≤ 4611686018427387904)

@[go_sem] theorem ptr_nil_eq {ox oy : Operand} : xbin Try.prog .eql T.p_clock_Clock ox oy (.pointer none) (.pointer none) = some (.bool true) := by kernel_rfl
@[go_sem] theorem ptr_some_eq {ox oy : Operand} {a : Addr} : xbin Try.prog .eql T.p_clock_Clock ox oy (.pointer (some a)) (.pointer none) = some (.bool false) := by kernel_rfl
@[go_sem] theorem sl_nil_eq {ox oy : Operand} : xbin Try.prog .eql T.sl_clock_alarm ox oy (.slice none 0 0) (.slice none 0 0) = some (.bool true) := by kernel_rfl
@[go_sem] theorem sl_some_eq {ox oy : Operand} {a : Addr} {n c : Nat} : xbin Try.prog .eql T.sl_clock_alarm ox oy (.slice (some a) n c) (.slice none 0 0) = some (.bool false) := by kernel_rfl

theorem k_known (H : AHeap) : CC F.law_known [] H = some (.bool true, H) := D_prim (show prims1 F.law_known = some trueP by kernel_rfl) rfl
@[go_sem, go_sem ↓] theorem e_known {H : AHeap} {k : Value → AHeap → Res} : enterK CC F.law_known [] H k = k (.bool true) H := enterK_eq (k_known H)
@[go_sem] theorem bool_ne {ox oy : Operand} {a b : Bool} : xbin Try.prog .neq T.bool ox oy (.bool a) (.bool b) = some (.bool (a != b)) := by
  cases a <;> cases b <;> kernel_rfl

theorem q_clock_tick (n : Int) (H : AHeap) : CC F.clock_tick [.int .i64 n] H = some (.bool (isTick n), H) := by
  unfold isTick
  by_cases h : 0 ≤ n
  all_goals
    apply pure_of _ (d_clock_tick _ H) rfl
    rotate_left 2
    · simp (disch := first | with_reducible rfl | assumption | omega | rfl | (simp only [go_sem]; first | done | omega)) only [go_sem, ↓reduceIte, reduceCtorEq, Nat.reduceEqDiff, Nat.reduceAdd, Nat.reduceSub, Nat.reduceMul, Nat.reduceDiv, Nat.reduceMod, Nat.reduceLeDiff, Nat.reduceLT, Nat.reduceBEq, Int.reduceEq, Int.reduceBEq, Int.reduceBNe, Int.reduceLT, Int.reduceLE, Int.reduceAdd, Int.reduceSub, Int.reduceNeg, Int.reduceToNat, Int.reducePow, Nat.reducePow, Int.reduceMul, Int.reduceDiv, ↓s_clock_tick, ge_iff_le, h, decide_true, decide_false]; rfl
    · (repeat (first | exact Fr.refl _ | refine Fr.push ?_ _ | refine Fr.set ?_ _ _ (by intro h; first | omega | (simp only [go_sem] at h; omega))))
@[go_sem, go_sem ↓] theorem e_clock_tick (n : Int) (H : AHeap) {k : Value → AHeap → Res} : enterK CC F.clock_tick [.int .i64 n] H k = k (.bool (isTick n)) H := enterK_eq (q_clock_tick n H)

theorem q_ref_Tick (n : Int) (H : AHeap) : CC F.ref02_Tick [.int .i64 n] H = some (.bool (isTick n), H) := by
  unfold isTick
  by_cases h : 0 ≤ n
  all_goals
    apply pure_of _ (d_ref02_Tick _ H) rfl
    rotate_left 2
    · simp (disch := first | with_reducible rfl | assumption | omega | rfl | (simp only [go_sem]; first | done | omega)) only [go_sem, ↓reduceIte, reduceCtorEq, Nat.reduceEqDiff, Nat.reduceAdd, Nat.reduceSub, Nat.reduceMul, Nat.reduceDiv, Nat.reduceMod, Nat.reduceLeDiff, Nat.reduceLT, Nat.reduceBEq, Int.reduceEq, Int.reduceBEq, Int.reduceBNe, Int.reduceLT, Int.reduceLE, Int.reduceAdd, Int.reduceSub, Int.reduceNeg, Int.reduceToNat, Int.reducePow, Nat.reducePow, Int.reduceMul, Int.reduceDiv, ↓s_ref02_Tick, ge_iff_le, h, decide_true, decide_false]; rfl
    · (repeat (first | exact Fr.refl _ | refine Fr.push ?_ _ | refine Fr.set ?_ _ _ (by intro h; first | omega | (simp only [go_sem] at h; omega))))
@[go_sem, go_sem ↓] theorem e_ref_Tick (n : Int) (H : AHeap) {k : Value → AHeap → Res} : enterK CC F.ref02_Tick [.int .i64 n] H k = k (.bool (isTick n)) H := enterK_eq (q_ref_Tick n H)

theorem q_clock_Passed (d n : Int) (H : AHeap) : CC F.clock_Passed [.int .i64 d, .int .i64 n] H = some (.bool (decide (d < 4611686018427387904) && decide (d < n)), H) := by
  by_cases h : d < 4611686018427387904
  all_goals
    apply pure_of _ (d_clock_Passed _ _ H) rfl
    rotate_left 2
    · simp (disch := first | with_reducible rfl | assumption | omega | rfl | (simp only [go_sem]; first | done | omega)) only [go_sem, ↓reduceIte, reduceCtorEq, Nat.reduceEqDiff, Nat.reduceAdd, Nat.reduceSub, Nat.reduceMul, Nat.reduceDiv, Nat.reduceMod, Nat.reduceLeDiff, Nat.reduceLT, Nat.reduceBEq, Int.reduceEq, Int.reduceBEq, Int.reduceBNe, Int.reduceLT, Int.reduceLE, Int.reduceAdd, Int.reduceSub, Int.reduceNeg, Int.reduceToNat, Int.reducePow, Nat.reducePow, Int.reduceMul, Int.reduceDiv, ↓s_clock_Passed, gt_iff_lt, h, decide_true, decide_false]; rfl
    · (repeat (first | exact Fr.refl _ | refine Fr.push ?_ _ | refine Fr.set ?_ _ _ (by intro h; first | omega | (simp only [go_sem] at h; omega))))
@[go_sem, go_sem ↓] theorem e_clock_Passed (d n : Int) (H : AHeap) {k : Value → AHeap → Res} : enterK CC F.clock_Passed [.int .i64 d, .int .i64 n] H k = k (.bool (decide (d < 4611686018427387904) && decide (d < n))) H := enterK_eq (q_clock_Passed d n H)

theorem q_clock_Due_bad (now n : Int) (H : AHeap) (h : ¬ (isTick now = true ∧ 0 ≤ n)) : CC F.clock_Due [.int .i64 now, .int .i64 n] H = some (.tuple #[.int .i64 0, .int .i64 2], H) := by
  by_cases h1 : isTick now = true
  · have h2 : n < 0 := by
      rcases Int.lt_or_le n 0 with h2 | h2
      · exact h2
      · exact absurd ⟨h1, h2⟩ h
    apply pure_of _ (d_clock_Due _ _ H) rfl
    rotate_left 2
    · simp (disch := first | with_reducible rfl | assumption | omega | rfl | (simp only [go_sem]; first | done | omega)) only [go_sem, ↓reduceIte, reduceCtorEq, Nat.reduceEqDiff, Nat.reduceAdd, Nat.reduceSub, Nat.reduceMul, Nat.reduceDiv, Nat.reduceMod, Nat.reduceLeDiff, Nat.reduceLT, Nat.reduceBEq, Int.reduceEq, Int.reduceBEq, Int.reduceBNe, Int.reduceLT, Int.reduceLE, Int.reduceAdd, Int.reduceSub, Int.reduceNeg, Int.reduceToNat, Int.reducePow, Nat.reducePow, Int.reduceMul, Int.reduceDiv, ↓s_clock_Due, e_clock_tick, h1, Bool.not_true, h2, decide_true]; rfl
    · (repeat (first | exact Fr.refl _ | refine Fr.push ?_ _ | refine Fr.set ?_ _ _ (by intro h; first | omega | (simp only [go_sem] at h; omega))))
  · have h1 : isTick now = false := by simpa using h1
    apply pure_of _ (d_clock_Due _ _ H) rfl
    rotate_left 2
    · simp (disch := first | with_reducible rfl | assumption | omega | rfl | (simp only [go_sem]; first | done | omega)) only [go_sem, ↓reduceIte, reduceCtorEq, Nat.reduceEqDiff, Nat.reduceAdd, Nat.reduceSub, Nat.reduceMul, Nat.reduceDiv, Nat.reduceMod, Nat.reduceLeDiff, Nat.reduceLT, Nat.reduceBEq, Int.reduceEq, Int.reduceBEq, Int.reduceBNe, Int.reduceLT, Int.reduceLE, Int.reduceAdd, Int.reduceSub, Int.reduceNeg, Int.reduceToNat, Int.reducePow, Nat.reducePow, Int.reduceMul, Int.reduceDiv, ↓s_clock_Due, e_clock_tick, h1, Bool.not_false]; rfl
    · (repeat (first | exact Fr.refl _ | refine Fr.push ?_ _ | refine Fr.set ?_ _ _ (by intro h; first | omega | (simp only [go_sem] at h; omega))))
@[go_sem, go_sem ↓] theorem e_clock_Due_bad (now n : Int) (H : AHeap) (h : ¬ (isTick now = true ∧ 0 ≤ n)) {k : Value → AHeap → Res} : enterK CC F.clock_Due [.int .i64 now, .int .i64 n] H k = k (.tuple #[.int .i64 0, .int .i64 2]) H := enterK_eq (q_clock_Due_bad now n H h)

def due (now n : Int) : Int := if 4611686018427387904 - now < n then 4611686018427387904 else now + n

theorem isTick_iff {n : Int} : isTick n = true ↔ 0 ≤ n ∧ n ≤ 4611686018427387904 := by simp [isTick]

theorem q_clock_Due (now n : Int) (H : AHeap) (h1 : isTick now = true) (h2 : 0 ≤ n) : CC F.clock_Due [.int .i64 now, .int .i64 n] H = some (.tuple #[.int .i64 (due now n), .int .i64 0], H) := by
  obtain ⟨ht1, ht2⟩ := isTick_iff.1 h1
  have h3 : ¬ n < 0 := by omega
  unfold due
  by_cases h : 4611686018427387904 - now < n
  all_goals
    apply pure_of _ (d_clock_Due _ _ H) rfl
    rotate_left 2
    · simp (disch := first | with_reducible rfl | assumption | omega | rfl | (simp only [go_sem]; first | done | omega)) only [go_sem, ↓reduceIte, reduceCtorEq, Nat.reduceEqDiff, Nat.reduceAdd, Nat.reduceSub, Nat.reduceMul, Nat.reduceDiv, Nat.reduceMod, Nat.reduceLeDiff, Nat.reduceLT, Nat.reduceBEq, Int.reduceEq, Int.reduceBEq, Int.reduceBNe, Int.reduceLT, Int.reduceLE, Int.reduceAdd, Int.reduceSub, Int.reduceNeg, Int.reduceToNat, Int.reducePow, Nat.reducePow, Int.reduceMul, Int.reduceDiv, ↓s_clock_Due, e_clock_tick, h1, Bool.not_true, h3, decide_false, gt_iff_lt, h, decide_true, if_true, if_false]; rfl
    · (repeat (first | exact Fr.refl _ | refine Fr.push ?_ _ | refine Fr.set ?_ _ _ (by intro h; first | omega | (simp only [go_sem] at h; omega))))
@[go_sem, go_sem ↓] theorem e_clock_Due (now n : Int) (H : AHeap) (h1 : isTick now = true) (h2 : 0 ≤ n) {k : Value → AHeap → Res} : enterK CC F.clock_Due [.int .i64 now, .int .i64 n] H k = k (.tuple #[.int .i64 (due now n), .int .i64 0]) H := enterK_eq (q_clock_Due now n H h1 h2)

theorem q_ref_Due (now n : Int) (H : AHeap) (h1 : isTick now = true) (h2 : 0 ≤ n) : CC F.ref02_Due [.int .i64 now, .int .i64 n] H = some (.int .i64 (due now n), H) := by
  obtain ⟨ht1, ht2⟩ := isTick_iff.1 h1
  unfold due
  by_cases h : 4611686018427387904 - now < n
  all_goals
    apply pure_of _ (d_ref02_Due _ _ H) rfl
    rotate_left 2
    · simp (disch := first | with_reducible rfl | assumption | omega | rfl | (simp only [go_sem]; first | done | omega)) only [go_sem, ↓reduceIte, reduceCtorEq, Nat.reduceEqDiff, Nat.reduceAdd, Nat.reduceSub, Nat.reduceMul, Nat.reduceDiv, Nat.reduceMod, Nat.reduceLeDiff, Nat.reduceLT, Nat.reduceBEq, Int.reduceEq, Int.reduceBEq, Int.reduceBNe, Int.reduceLT, Int.reduceLE, Int.reduceAdd, Int.reduceSub, Int.reduceNeg, Int.reduceToNat, Int.reducePow, Nat.reducePow, Int.reduceMul, Int.reduceDiv, ↓s_ref02_Due, gt_iff_lt, h, decide_true, decide_false, if_true, if_false]; rfl
    · (repeat (first | exact Fr.refl _ | refine Fr.push ?_ _ | refine Fr.set ?_ _ _ (by intro h; first | omega | (simp only [go_sem] at h; omega))))
@[go_sem, go_sem ↓] theorem e_ref_Due (now n : Int) (H : AHeap) (h1 : isTick now = true) (h2 : 0 ≤ n) {k : Value → AHeap → Res} : enterK CC F.ref02_Due [.int .i64 now, .int .i64 n] H k = k (.int .i64 (due now n)) H := enterK_eq (q_ref_Due now n H h1 h2)

theorem q_zero_nil (H : AHeap) : CC F.clock_Clock_zero [.pointer none] H = some (.bool true, H) := by
  apply pure_of _ (d_clock_Clock_zero _ H) rfl
  rotate_left 2
  · simp (disch := first | with_reducible rfl | assumption | omega | rfl | (simp only [go_sem]; first | done | omega)) only [go_sem, ↓reduceIte, reduceCtorEq, Nat.reduceEqDiff, Nat.reduceAdd, Nat.reduceSub, Nat.reduceMul, Nat.reduceDiv, Nat.reduceMod, Nat.reduceLeDiff, Nat.reduceLT, Nat.reduceBEq, Int.reduceEq, Int.reduceBEq, Int.reduceBNe, Int.reduceLT, Int.reduceLE, Int.reduceAdd, Int.reduceSub, Int.reduceNeg, Int.reduceToNat, Int.reducePow, Nat.reducePow, Int.reduceMul, Int.reduceDiv, ↓s_clock_Clock_zero]; rfl
  · (repeat (first | exact Fr.refl _ | refine Fr.push ?_ _ | refine Fr.set ?_ _ _ (by intro h; first | omega | (simp only [go_sem] at h; omega))))
@[go_sem, go_sem ↓] theorem e_zero_nil (H : AHeap) {k : Value → AHeap → Res} : enterK CC F.clock_Clock_zero [.pointer none] H k = k (.bool true) H := enterK_eq (q_zero_nil H)
theorem q_zero (b : Nat) (m : Bool) (x y : Value) (H : AHeap) (hf : H.f b = .cells [.bool m, x, y] T.clock_Clock true) : CC F.clock_Clock_zero [.pointer (some ⟨b, 0, none⟩)] H = some (.bool !m, H) := by
  apply pure_of _ (d_clock_Clock_zero _ H) rfl
  rotate_left 2
  · simp (disch := first | with_reducible rfl | assumption | omega | rfl | (simp only [go_sem]; first | done | omega)) only [go_sem, ↓reduceIte, reduceCtorEq, Nat.reduceEqDiff, Nat.reduceAdd, Nat.reduceSub, Nat.reduceMul, Nat.reduceDiv, Nat.reduceMod, Nat.reduceLeDiff, Nat.reduceLT, Nat.reduceBEq, Int.reduceEq, Int.reduceBEq, Int.reduceBNe, Int.reduceLT, Int.reduceLE, Int.reduceAdd, Int.reduceSub, Int.reduceNeg, Int.reduceToNat, Int.reducePow, Nat.reducePow, Int.reduceMul, Int.reduceDiv, ↓s_clock_Clock_zero, hf]; rfl
  · (repeat (first | exact Fr.refl _ | refine Fr.push ?_ _ | refine Fr.set ?_ _ _ (by intro h; first | omega | (simp only [go_sem] at h; omega))))

/-! cmp -/
def cmpI (a b : Int) : Int := if a < b then -1 else if b < a then 1 else 0

theorem q_isNaN (n : Int) (H : AHeap) : CC F.cmp_isNaN_int [.int .i64 n] H = some (.bool false, H) := by
  apply pure_of _ (d_cmp_isNaN_int _ H) rfl
  rotate_left 2
  · simp (disch := first | with_reducible rfl | assumption | omega | rfl | (simp only [go_sem]; first | done | omega)) only [go_sem, ↓reduceIte, reduceCtorEq, Nat.reduceEqDiff, Nat.reduceAdd, Nat.reduceSub, Nat.reduceMul, Nat.reduceDiv, Nat.reduceMod, Nat.reduceLeDiff, Nat.reduceLT, Nat.reduceBEq, Int.reduceEq, Int.reduceBEq, Int.reduceBNe, Int.reduceLT, Int.reduceLE, Int.reduceAdd, Int.reduceSub, Int.reduceNeg, Int.reduceToNat, Int.reducePow, Nat.reducePow, Int.reduceMul, Int.reduceDiv, ↓s_cmp_isNaN_int, bne_self_eq_false]; rfl
  · (repeat (first | exact Fr.refl _ | refine Fr.push ?_ _ | refine Fr.set ?_ _ _ (by intro h; first | omega | (simp only [go_sem] at h; omega))))
@[go_sem, go_sem ↓] theorem e_isNaN (n : Int) (H : AHeap) {k : Value → AHeap → Res} : enterK CC F.cmp_isNaN_int [.int .i64 n] H k = k (.bool false) H := enterK_eq (q_isNaN n H)

theorem q_Compare (a b : Int) (H : AHeap) : CC F.cmp_Compare_int [.int .i64 a, .int .i64 b] H = some (.int .i64 (cmpI a b), H) := by
  unfold cmpI
  by_cases h1 : a < b <;> by_cases h2 : b < a
  all_goals
    apply pure_of _ (d_cmp_Compare_int _ _ H) rfl
    rotate_left 2
    · simp (disch := first | with_reducible rfl | assumption | omega | rfl | (simp only [go_sem]; first | done | omega)) only [go_sem, ↓reduceIte, reduceCtorEq, Nat.reduceEqDiff, Nat.reduceAdd, Nat.reduceSub, Nat.reduceMul, Nat.reduceDiv, Nat.reduceMod, Nat.reduceLeDiff, Nat.reduceLT, Nat.reduceBEq, Int.reduceEq, Int.reduceBEq, Int.reduceBNe, Int.reduceLT, Int.reduceLE, Int.reduceAdd, Int.reduceSub, Int.reduceNeg, Int.reduceToNat, Int.reducePow, Nat.reducePow, Int.reduceMul, Int.reduceDiv, ↓s_cmp_Compare_int, e_isNaN, gt_iff_lt, h1, h2, decide_true, decide_false, if_true, if_false]; rfl
    · (repeat (first | exact Fr.refl _ | refine Fr.push ?_ _ | refine Fr.set ?_ _ _ (by intro h; first | omega | (simp only [go_sem] at h; omega))))
@[go_sem, go_sem ↓] theorem e_Compare (a b : Int) (H : AHeap) {k : Value → AHeap → Res} : enterK CC F.cmp_Compare_int [.int .i64 a, .int .i64 b] H k = k (.int .i64 (cmpI a b)) H := enterK_eq (q_Compare a b H)

def orI (a b : Int) : Int := if a = 0 then b else a

theorem q_Or (a b : Int) (k : Nat) (H : AHeap) (hk : k < H.n) (hf : H.f k = .cells [.int .i64 a, .int .i64 b] T.int true) : CC F.cmp_Or_int [.slice (some ⟨k, 0, none⟩) 2 4] H = some (.int .i64 (orI a b), H) := by
  unfold orI
  by_cases h1 : a = 0
  · subst h1
    by_cases h2 : b = 0
    all_goals
      apply pure_of _ (d_cmp_Or_int _ H) rfl
      rotate_left 2
      · simp (disch := first | with_reducible rfl | assumption | omega | rfl | (simp only [go_sem]; first | done | omega)) only [go_sem, ↓reduceIte, reduceCtorEq, Nat.reduceEqDiff, Nat.reduceAdd, Nat.reduceSub, Nat.reduceMul, Nat.reduceDiv, Nat.reduceMod, Nat.reduceLeDiff, Nat.reduceLT, Nat.reduceBEq, Int.reduceEq, Int.reduceBEq, Int.reduceBNe, Int.reduceLT, Int.reduceLE, Int.reduceAdd, Int.reduceSub, Int.reduceNeg, Int.reduceToNat, Int.reducePow, Nat.reducePow, Int.reduceMul, Int.reduceDiv, ↓s_cmp_Or_int, ↓r_cmp_Or_int_0, ↓s_cmp_Or_int_b0, hf, h2]; rfl
      · (repeat (first | exact Fr.refl _ | refine Fr.push ?_ _ | refine Fr.set ?_ _ _ (by intro h; first | omega | (simp only [go_sem] at h; omega))))
  · apply pure_of _ (d_cmp_Or_int _ H) rfl
    rotate_left 2
    · simp (disch := first | with_reducible rfl | assumption | omega | rfl | (simp only [go_sem]; first | done | omega)) only [go_sem, ↓reduceIte, reduceCtorEq, Nat.reduceEqDiff, Nat.reduceAdd, Nat.reduceSub, Nat.reduceMul, Nat.reduceDiv, Nat.reduceMod, Nat.reduceLeDiff, Nat.reduceLT, Nat.reduceBEq, Int.reduceEq, Int.reduceBEq, Int.reduceBNe, Int.reduceLT, Int.reduceLE, Int.reduceAdd, Int.reduceSub, Int.reduceNeg, Int.reduceToNat, Int.reducePow, Nat.reducePow, Int.reduceMul, Int.reduceDiv, ↓s_cmp_Or_int, ↓r_cmp_Or_int_0, ↓s_cmp_Or_int_b0, hf, h1]; rfl
    · (repeat (first | exact Fr.refl _ | refine Fr.push ?_ _ | refine Fr.set ?_ _ _ (by intro h; first | omega | (simp only [go_sem] at h; omega))))

end Go.Proofs.Ytldgonjihhndgaa

/-
  Chapter 02: contracts of the functions over lists of alarms.
  Conditions: none. By an AI agent.
-/
set_option maxRecDepth 10000
set_option linter.unusedSimpArgs false
set_option linter.unusedVariables false
namespace Go.Proofs.Ytldgonjihhndgaa
open Go Eng

structure Al where
  id : Int
  tm : Int
deriving DecidableEq

def EAl : Enc Al := ⟨2, fun a => [.int .i64 a.id, .int .i64 a.tm], fun _ => rfl, by decide, fun _ => rfl⟩

def cmpA (a b : Al) : Int := orI (cmpI a.tm b.tm) (cmpI a.id b.id)

theorem q_compare (a b : Al) (H : AHeap) : CC F.clock_alarm_compare [.agg #[.int .i64 a.id, .int .i64 a.tm], .agg #[.int .i64 b.id, .int .i64 b.tm]] H = some (.int .i64 (cmpA a b), H) := by
  apply pure_of _ (d_clock_alarm_compare _ _ H) rfl
  rotate_left 2
  · simp (disch := first | with_reducible rfl | assumption | omega | rfl | (simp only [go_sem]; first | done | omega)) only [go_sem, ↓reduceIte, reduceCtorEq, Nat.reduceEqDiff, Nat.reduceAdd, Nat.reduceSub, Nat.reduceMul, Nat.reduceDiv, Nat.reduceMod, Nat.reduceLeDiff, Nat.reduceLT, Nat.reduceBEq, Int.reduceEq, Int.reduceBEq, Int.reduceBNe, Int.reduceLT, Int.reduceLE, Int.reduceAdd, Int.reduceSub, Int.reduceNeg, Int.reduceToNat, Int.reducePow, Nat.reducePow, Int.reduceMul, Int.reduceDiv, ↓s_clock_alarm_compare, e_Compare]
    rw [enterK_eq (q_Or (cmpI a.tm b.tm) (cmpI a.id b.id) _ _ (by simp (disch := first | with_reducible rfl | assumption | omega | rfl | (simp only [go_sem]; first | done | omega)) only [go_sem, ↓reduceIte, reduceCtorEq, Nat.reduceEqDiff, Nat.reduceAdd, Nat.reduceSub, Nat.reduceMul, Nat.reduceDiv, Nat.reduceMod, Nat.reduceLeDiff, Nat.reduceLT, Nat.reduceBEq, Int.reduceEq, Int.reduceBEq, Int.reduceBNe, Int.reduceLT, Int.reduceLE, Int.reduceAdd, Int.reduceSub, Int.reduceNeg, Int.reduceToNat, Int.reducePow, Nat.reducePow, Int.reduceMul, Int.reduceDiv]; omega) (by simp (disch := first | with_reducible rfl | assumption | omega | rfl | (simp only [go_sem]; first | done | omega)) only [go_sem, ↓reduceIte, reduceCtorEq, Nat.reduceEqDiff, Nat.reduceAdd, Nat.reduceSub, Nat.reduceMul, Nat.reduceDiv, Nat.reduceMod, Nat.reduceLeDiff, Nat.reduceLT, Nat.reduceBEq, Int.reduceEq, Int.reduceBEq, Int.reduceBNe, Int.reduceLT, Int.reduceLE, Int.reduceAdd, Int.reduceSub, Int.reduceNeg, Int.reduceToNat, Int.reducePow, Nat.reducePow, Int.reduceMul, Int.reduceDiv]))]
    rfl
  · (repeat (first | exact Fr.refl _ | refine Fr.push ?_ _ | refine Fr.set ?_ _ _ (by intro h; first | omega | (simp only [go_sem] at h; omega))))
@[go_sem, go_sem ↓] theorem e_compare (a b : Al) (H : AHeap) {k : Value → AHeap → Res} : enterK CC F.clock_alarm_compare [.agg #[.int .i64 a.id, .int .i64 a.tm], .agg #[.int .i64 b.id, .int .i64 b.tm]] H k = k (.int .i64 (cmpA a b)) H := enterK_eq (q_compare a b H)

/-! IndexFunc with find's function -/
theorem q_find_1 (a : Al) (id : Int) (k : Nat) (H : AHeap) (hk : k < H.n) (hf : H.f k = .cells [.int .i64 id] T.int true) : CC F.clock_Clock_find_1 [.agg #[.int .i64 a.id, .int .i64 a.tm], .pointer (some ⟨k, 0, none⟩)] H = some (.bool (decide (a.id = id)), H) := by
  apply pure_of _ (d_clock_Clock_find_1 _ _ H) rfl
  rotate_left 2
  · simp (disch := first | with_reducible rfl | assumption | omega | rfl | (simp only [go_sem]; first | done | omega)) only [go_sem, ↓reduceIte, reduceCtorEq, Nat.reduceEqDiff, Nat.reduceAdd, Nat.reduceSub, Nat.reduceMul, Nat.reduceDiv, Nat.reduceMod, Nat.reduceLeDiff, Nat.reduceLT, Nat.reduceBEq, Int.reduceEq, Int.reduceBEq, Int.reduceBNe, Int.reduceLT, Int.reduceLE, Int.reduceAdd, Int.reduceSub, Int.reduceNeg, Int.reduceToNat, Int.reducePow, Nat.reducePow, Int.reduceMul, Int.reduceDiv, ↓s_clock_Clock_find_1, hf]
    rfl
  · (repeat (first | exact Fr.refl _ | refine Fr.push ?_ _ | refine Fr.set ?_ _ _ (by intro h; first | omega | (simp only [go_sem] at h; omega))))

/-- The index of the first alarm with an ID, from an index on. -/
def idxFrom (id : Int) : List Al → Nat → Int
  | [], _ => -1
  | a :: l, i => if a.id = id then i else idxFrom id l (i + 1)

theorem l_index (l : List Al) (v : Value) (id : Int) (k : Nat) (H : AHeap) (hk : k < H.n) (hf : H.f k = .cells [.int .i64 id] T.int true) (hr : Rd EAl H v l) (hl : l.length < 4611686018427387904) (K : K) : ∀ (m : List Al) (i : Nat), l.drop i = m → i ≤ l.length →
    l_slices_IndexFunc_alarm_0 v (.func (.func F.clock_Clock_find_1) #[] #[.pointer (some ⟨k, 0, none⟩)]) (.int .i64 l.length) (.int .i64 i) H (blkK [] 0 (seqK (fun _ h2 => K .ret [(4, .int .i64 (-1))] h2) K)) = K .ret [(4, .int .i64 (idxFrom id m i))] H
  | [], i, hm, hi => by
    have h : l.length ≤ i := List.drop_eq_nil_iff.1 hm
    have hlt : ¬ (i : Int) < (l.length : Int) := by omega
    rw [r_slices_IndexFunc_alarm_0]
    simp (disch := first | with_reducible rfl | assumption | omega | rfl | (simp only [go_sem]; first | done | omega)) only [go_sem, ↓reduceIte, reduceCtorEq, Nat.reduceEqDiff, Nat.reduceAdd, Nat.reduceSub, Nat.reduceMul, Nat.reduceDiv, Nat.reduceMod, Nat.reduceLeDiff, Nat.reduceLT, Nat.reduceBEq, Int.reduceEq, Int.reduceBEq, Int.reduceBNe, Int.reduceLT, Int.reduceLE, Int.reduceAdd, Int.reduceSub, Int.reduceNeg, Int.reduceToNat, Int.reducePow, Nat.reducePow, Int.reduceMul, Int.reduceDiv, ↓s_slices_IndexFunc_alarm_b0, hlt, idxFrom]
  | a :: m, i, hm, hi => by
    have h : i < l.length := by
      rcases Nat.lt_or_ge i l.length with h | h
      · exact h
      · rw [List.drop_eq_nil_of_le h] at hm; cases hm
    have hlt : (i : Int) < (l.length : Int) := by omega
    have ha : l[i] = a := by rw [List.drop_eq_getElem_cons h] at hm; exact (List.cons.inj hm).1
    have hm' : l.drop (i + 1) = m := by rw [List.drop_eq_getElem_cons h] at hm; exact (List.cons.inj hm).2
    have ih := l_index l v id k H hk hf hr hl K m (i + 1) hm' h
    obtain ⟨b, o, hix, hb, hc, _⟩ := hr.ix (q := .i64) h
    rw [ha] at hc
    have hix : ixS 2 v (.int .i64 i) = some (.pointer (some ⟨b, o, none⟩)) := hix
    have hc : cutB (H.f b) o 2 = some [.int .i64 a.id, .int .i64 a.tm] := hc
    have hq := q_find_1 a id k H hk hf
    by_cases he : a.id = id
    · have hq2 : ∀ k', enterK CC F.clock_Clock_find_1 [.agg #[.int .i64 a.id, .int .i64 a.tm], .pointer (some ⟨k, 0, none⟩)] H k' = k' (.bool true) H := fun k' => enterK_eq (by rw [hq, decide_eq_true he])
      rw [idxFrom, if_pos he]
      rw [r_slices_IndexFunc_alarm_0]
      simp (disch := first | with_reducible rfl | assumption | omega | rfl | (simp only [go_sem]; first | done | omega)) only [go_sem, ↓reduceIte, reduceCtorEq, Nat.reduceEqDiff, Nat.reduceAdd, Nat.reduceSub, Nat.reduceMul, Nat.reduceDiv, Nat.reduceMod, Nat.reduceLeDiff, Nat.reduceLT, Nat.reduceBEq, Int.reduceEq, Int.reduceBEq, Int.reduceBNe, Int.reduceLT, Int.reduceLE, Int.reduceAdd, Int.reduceSub, Int.reduceNeg, Int.reduceToNat, Int.reducePow, Nat.reducePow, Int.reduceMul, Int.reduceDiv, ↓s_slices_IndexFunc_alarm_b0, hlt, hix, hc, c_clock_Clock_find_1, hq2]
    · have hq2 : ∀ k', enterK CC F.clock_Clock_find_1 [.agg #[.int .i64 a.id, .int .i64 a.tm], .pointer (some ⟨k, 0, none⟩)] H k' = k' (.bool false) H := fun k' => enterK_eq (by rw [hq, decide_eq_false he])
      have ih : l_slices_IndexFunc_alarm_0 v (.func (.func F.clock_Clock_find_1) #[] #[.pointer (some ⟨k, 0, none⟩)]) (.int .i64 l.length) (.int .i64 ((i : Int) + 1)) H (blkK [] 0 (seqK (fun _ h2 => K .ret [(4, .int .i64 (-1))] h2) K)) = K .ret [(4, .int .i64 (idxFrom id m (i + 1)))] H := ih
      rw [idxFrom, if_neg he]
      rw [r_slices_IndexFunc_alarm_0]
      simp (disch := first | with_reducible rfl | assumption | omega | rfl | (simp only [go_sem]; first | done | omega)) only [go_sem, ↓reduceIte, reduceCtorEq, Nat.reduceEqDiff, Nat.reduceAdd, Nat.reduceSub, Nat.reduceMul, Nat.reduceDiv, Nat.reduceMod, Nat.reduceLeDiff, Nat.reduceLT, Nat.reduceBEq, Int.reduceEq, Int.reduceBEq, Int.reduceBNe, Int.reduceLT, Int.reduceLE, Int.reduceAdd, Int.reduceSub, Int.reduceNeg, Int.reduceToNat, Int.reducePow, Nat.reducePow, Int.reduceMul, Int.reduceDiv, ↓s_slices_IndexFunc_alarm_b0, hlt, hix, hc, c_clock_Clock_find_1, hq2]
      exact ih

end Go.Proofs.Ytldgonjihhndgaa

/-
  The engine, part 24: more numbers: shifts, quotients, conversions.
  Conditions: none. By an AI agent.
-/
namespace Go.Proofs.Ytldgonjihhndgaa.Eng
open Go

variable {P : Program} {H : AHeap}

theorem xbin_gr {op : BinOp} {t : TypeId} {ox oy : Operand} {q q' : IntKind} {a b : Int} {v : Value} (h : pv P (do eqGuard op t ox oy (.int q a) (.int q' b); binOp op t (.int q a) (.int q' b)) = some v) (hg : gr 9 v = true) :
    xbin P op t ox oy (.int q a) (.int q' b) = some v := by
  have e : xbin P op t ox oy (.int q a) (.int q' b) = pvg P (do eqGuard op t ox oy (.int q a) (.int q' b); binOp op t (.int q a) (.int q' b)) := rfl
  rw [e, pvg_some h hg]

@[go_sem] theorem shr_lit {t : TypeId} {ox oy : Operand} {q q' : IntKind} {a b : Int} (h : 0 ≤ b ∧ b < 8) : xbin P .shr t ox oy (.int q a) (.int q' b) = some (.int q (a / 2 ^ b.toNat)) := by
  refine xbin_gr ?_ rfl
  have hb : ¬ b < 0 := by omega
  have hm : min b.toNat q.bits = b.toNat := by cases q <;> simp [IntKind.bits] <;> omega
  simp [eqGuard, binOp, Op.shift, Bind.bind, Sem.bind, Pure.pure, pv, hb, hm]
  rw [Int.fdiv_eq_ediv_of_nonneg]
  exact Int.pow_nonneg (by decide)

theorem wrap_u64 {n : Int} (h1 : 0 ≤ n ∧ n < 18446744073709551616) : IntKind.wrap .u64 n = n := by
  unfold IntKind.wrap
  simp only [IntKind.bits, IntKind.signed, Bool.false_and]
  simp
  omega
theorem wrap_u32 {n : Int} (h1 : 0 ≤ n ∧ n < 4294967296) : IntKind.wrap .u32 n = n := by
  unfold IntKind.wrap
  simp only [IntKind.bits, IntKind.signed, Bool.false_and]
  simp
  omega
theorem wrap_u8 {n : Int} (h1 : 0 ≤ n ∧ n < 256) : IntKind.wrap .u8 n = n := by
  unfold IntKind.wrap
  simp only [IntKind.bits, IntKind.signed, Bool.false_and]
  simp
  omega
attribute [go_sem] wrap_i64 wrap_u64 wrap_u32 wrap_u8

end Go.Proofs.Ytldgonjihhndgaa.Eng

/-
  Chapter 02: slices.BinarySearchFunc over alarms.
  Conditions: none. By an AI agent.
-/
set_option maxRecDepth 10000
set_option linter.unusedSimpArgs false
set_option linter.unusedVariables false
namespace Go.Proofs.Ytldgonjihhndgaa
open Go Eng

theorem l_bs (l : List Al) (v : Value) (a : Al) (k : Nat) (H : AHeap) (hk : k < H.n) (hf : H.f k = .cells [.int .i64 a.id, .int .i64 a.tm] T.clock_alarm true) (hr : Rd EAl H v l) (hl : l.length < 1152921504606846976)
    (p : Nat) (hp1 : ∀ (i : Nat) (h : i < l.length), i < p → cmpA l[i] a < 0) (hp2 : ∀ (i : Nat) (h : i < l.length), p ≤ i → ¬ cmpA l[i] a < 0) (K : K) : ∀ (d i j : Nat), j - i = d → i ≤ p → p ≤ j → j ≤ l.length →
    l_slices_BinarySearchFunc_alarm_0 v (.func (.func F.clock_alarm_compare) #[] #[]) (.pointer (some ⟨k, 0, none⟩)) (.int .i64 l.length) (.int .i64 i) (.int .i64 j) H K
      = K (.exit 0) [(17, .bool false), (16, .int .i64 p), (15, .int .i64 p), (0, v), (2, .func (.func F.clock_alarm_compare) #[] #[]), (4, .pointer (some ⟨k, 0, none⟩)), (8, .int .i64 l.length), (9, .int .i64 p), (10, .int .i64 p)] H := by
  intro d
  induction d using Nat.strongRecOn with
  | ind d ih =>
    intro i j hd hi hj hn
    by_cases hlt : i < j
    · have hlt' : (i : Int) < (j : Int) := by omega
      have hm : ((i : Int) + (j : Int)) / 2 = (((i + j) / 2 : Nat) : Int) := by omega
      generalize hh : (i + j) / 2 = m at hm
      have hm1 : i ≤ m := by omega
      have hm2 : m < j := by omega
      have hml : m < l.length := by omega
      obtain ⟨b, o, hix, hb, hc, _⟩ := hr.ix (q := .i64) hml
      have hix : ixS 2 v (.int .i64 m) = some (.pointer (some ⟨b, o, none⟩)) := hix
      have hc : cutB (H.f b) o 2 = some [.int .i64 l[m].id, .int .i64 l[m].tm] := hc
      rw [r_slices_BinarySearchFunc_alarm_0]
      by_cases hp : m < p
      · have hcmp : decide (cmpA l[m] a < 0) = true := decide_eq_true (hp1 m hml hp)
        have ih := ih (j - (m + 1)) (by omega) (m + 1) j rfl (by omega) hj hn
        rw [Int.natCast_add] at ih
        simp (disch := first | with_reducible rfl | assumption | omega | rfl | (simp only [go_sem]; first | done | omega)) only [go_sem, ↓reduceIte, reduceCtorEq, Nat.reduceEqDiff, Nat.reduceAdd, Nat.reduceSub, Nat.reduceMul, Nat.reduceDiv, Nat.reduceMod, Nat.reduceLeDiff, Nat.reduceLT, Nat.reduceBEq, Int.reduceEq, Int.reduceBEq, Int.reduceBNe, Int.reduceLT, Int.reduceLE, Int.reduceAdd, Int.reduceSub, Int.reduceNeg, Int.reduceToNat, Int.reducePow, Nat.reducePow, Int.reduceMul, Int.reduceDiv, ↓s_slices_BinarySearchFunc_alarm_b0, hlt', hm, hix, hc, hf, c_clock_alarm_compare, e_compare, hcmp]
        exact ih
      · have hcmp : decide (cmpA l[m] a < 0) = false := decide_eq_false (hp2 m hml (by omega))
        have ih := ih (m - i) (by omega) i m rfl hi (by omega) (by omega)
        simp (disch := first | with_reducible rfl | assumption | omega | rfl | (simp only [go_sem]; first | done | omega)) only [go_sem, ↓reduceIte, reduceCtorEq, Nat.reduceEqDiff, Nat.reduceAdd, Nat.reduceSub, Nat.reduceMul, Nat.reduceDiv, Nat.reduceMod, Nat.reduceLeDiff, Nat.reduceLT, Nat.reduceBEq, Int.reduceEq, Int.reduceBEq, Int.reduceBNe, Int.reduceLT, Int.reduceLE, Int.reduceAdd, Int.reduceSub, Int.reduceNeg, Int.reduceToNat, Int.reducePow, Nat.reducePow, Int.reduceMul, Int.reduceDiv, ↓s_slices_BinarySearchFunc_alarm_b0, hlt', hm, hix, hc, hf, c_clock_alarm_compare, e_compare, hcmp]
        exact ih
    · have hip : i = p := by omega
      have hjp : j = p := by omega
      subst hip
      subst hjp
      have hlt' : ¬ (j : Int) < (j : Int) := by omega
      rw [r_slices_BinarySearchFunc_alarm_0]
      simp (disch := first | with_reducible rfl | assumption | omega | rfl | (simp only [go_sem]; first | done | omega)) only [go_sem, ↓reduceIte, reduceCtorEq, Nat.reduceEqDiff, Nat.reduceAdd, Nat.reduceSub, Nat.reduceMul, Nat.reduceDiv, Nat.reduceMod, Nat.reduceLeDiff, Nat.reduceLT, Nat.reduceBEq, Int.reduceEq, Int.reduceBEq, Int.reduceBNe, Int.reduceLT, Int.reduceLE, Int.reduceAdd, Int.reduceSub, Int.reduceNeg, Int.reduceToNat, Int.reducePow, Nat.reducePow, Int.reduceMul, Int.reduceDiv, ↓s_slices_BinarySearchFunc_alarm_b0, hlt']

theorem q_bs (l : List Al) (v : Value) (a : Al) (H : AHeap) (hr : Rd EAl H v l) (hl : l.length < 1152921504606846976)
    (p : Nat) (hpl : p ≤ l.length) (hp1 : ∀ (i : Nat) (h : i < l.length), i < p → cmpA l[i] a < 0) (hp2 : ∀ (i : Nat) (h : i < l.length), p ≤ i → ¬ cmpA l[i] a < 0) :
    ∃ is, CC F.slices_BinarySearchFunc_alarm [v, .agg #[.int .i64 a.id, .int .i64 a.tm], .func (.func F.clock_alarm_compare) #[] #[]] H = some (.tuple #[.int .i64 p, .bool is], H) := by
  have hlen := hr.lenS
  have hr' := hr.still (H' := H.push (.cells [.int .i64 a.id, .int .i64 a.tm] T.clock_alarm true)) ((Fr.refl _).push _)
  have hloop := l_bs l v a H.n (H.push (.cells [.int .i64 a.id, .int .i64 a.tm] T.clock_alarm true)) (by simp) (push_f_eq rfl) hr' hl p hp1 hp2
  by_cases hlt : p < l.length
  · obtain ⟨b, o, hix, hb, hc, _⟩ := hr.ix (q := .i64) hlt
    have hix : ixS 2 v (.int .i64 p) = some (.pointer (some ⟨b, o, none⟩)) := hix
    have hc : cutB (H.f b) o 2 = some [.int .i64 l[p].id, .int .i64 l[p].tm] := hc
    have hlt' : (p : Int) < (l.length : Int) := by omega
    refine ⟨decide (cmpA l[p] a = 0), ?_⟩
    apply pure_of _ (d_slices_BinarySearchFunc_alarm _ _ _ H) rfl
    rotate_left 2
    · simp (disch := first | with_reducible rfl | assumption | omega | rfl | (simp only [go_sem]; first | done | omega)) only [go_sem, ↓reduceIte, reduceCtorEq, Nat.reduceEqDiff, Nat.reduceAdd, Nat.reduceSub, Nat.reduceMul, Nat.reduceDiv, Nat.reduceMod, Nat.reduceLeDiff, Nat.reduceLT, Nat.reduceBEq, Int.reduceEq, Int.reduceBEq, Int.reduceBNe, Int.reduceLT, Int.reduceLE, Int.reduceAdd, Int.reduceSub, Int.reduceNeg, Int.reduceToNat, Int.reducePow, Nat.reducePow, Int.reduceMul, Int.reduceDiv, ↓s_slices_BinarySearchFunc_alarm, hlen]
      rw [show Value.int IntKind.i64 0 = Value.int IntKind.i64 ((0 : Nat) : Int) from rfl, hloop _ (l.length - 0) 0 l.length rfl (by omega) hpl (by omega)]
      simp (disch := first | with_reducible rfl | assumption | omega | rfl | (simp only [go_sem]; first | done | omega)) only [go_sem, ↓reduceIte, reduceCtorEq, Nat.reduceEqDiff, Nat.reduceAdd, Nat.reduceSub, Nat.reduceMul, Nat.reduceDiv, Nat.reduceMod, Nat.reduceLeDiff, Nat.reduceLT, Nat.reduceBEq, Int.reduceEq, Int.reduceBEq, Int.reduceBNe, Int.reduceLT, Int.reduceLE, Int.reduceAdd, Int.reduceSub, Int.reduceNeg, Int.reduceToNat, Int.reducePow, Nat.reducePow, Int.reduceMul, Int.reduceDiv, hlt', hix, hc, c_clock_alarm_compare, e_compare]
      rfl
    · (repeat (first | exact Fr.refl _ | refine Fr.push ?_ _ | refine Fr.set ?_ _ _ (by intro h; first | omega | (simp only [go_sem] at h; omega))))
  · have hlt' : ¬ (p : Int) < (l.length : Int) := by omega
    refine ⟨false, ?_⟩
    apply pure_of _ (d_slices_BinarySearchFunc_alarm _ _ _ H) rfl
    rotate_left 2
    · simp (disch := first | with_reducible rfl | assumption | omega | rfl | (simp only [go_sem]; first | done | omega)) only [go_sem, ↓reduceIte, reduceCtorEq, Nat.reduceEqDiff, Nat.reduceAdd, Nat.reduceSub, Nat.reduceMul, Nat.reduceDiv, Nat.reduceMod, Nat.reduceLeDiff, Nat.reduceLT, Nat.reduceBEq, Int.reduceEq, Int.reduceBEq, Int.reduceBNe, Int.reduceLT, Int.reduceLE, Int.reduceAdd, Int.reduceSub, Int.reduceNeg, Int.reduceToNat, Int.reducePow, Nat.reducePow, Int.reduceMul, Int.reduceDiv, ↓s_slices_BinarySearchFunc_alarm, hlen]
      rw [show Value.int IntKind.i64 0 = Value.int IntKind.i64 ((0 : Nat) : Int) from rfl, hloop _ (l.length - 0) 0 l.length rfl (by omega) hpl (by omega)]
      simp (disch := first | with_reducible rfl | assumption | omega | rfl | (simp only [go_sem]; first | done | omega)) only [go_sem, ↓reduceIte, reduceCtorEq, Nat.reduceEqDiff, Nat.reduceAdd, Nat.reduceSub, Nat.reduceMul, Nat.reduceDiv, Nat.reduceMod, Nat.reduceLeDiff, Nat.reduceLT, Nat.reduceBEq, Int.reduceEq, Int.reduceBEq, Int.reduceBNe, Int.reduceLT, Int.reduceLE, Int.reduceAdd, Int.reduceSub, Int.reduceNeg, Int.reduceToNat, Int.reducePow, Nat.reducePow, Int.reduceMul, Int.reduceDiv, hlt']
      rfl
    · (repeat (first | exact Fr.refl _ | refine Fr.push ?_ _ | refine Fr.set ?_ _ _ (by intro h; first | omega | (simp only [go_sem] at h; omega))))

end Go.Proofs.Ytldgonjihhndgaa

/-
  The engine, part 25: inserting into, and deleting from, a list of its own.
  Conditions: none. By an AI agent.
-/
namespace Go.Proofs.Ytldgonjihhndgaa.Eng
open Go
set_option linter.unusedVariables false
set_option linter.unusedSimpArgs false

variable {P : Program} {α : Type} {E : Enc α} {H H' : AHeap} {v : Value} {l : List α} {e : TypeId}

theorem bnd_nat {y i : Nat} {q : IntKind} (h : i ≤ y) : bnd y (.int q (i : Int)) = some i := by
  unfold bnd
  simp only [Int.toNat_natCast]
  rw [if_pos ⟨by omega, by omega⟩]

theorem sl_lo {b o n c i sz : Nat} {q : IntKind} {xs : List Value} (hf : H.f b = .cells xs e true) (hi : i ≤ n) (hn : n ≤ c) :
    slS e sz (.slice (some ⟨b, o, none⟩) n (2 * c + 1)) (some (.int q (i : Int))) none none H = some (.slice (some ⟨b, o + i * sz, none⟩) (n - i) (2 * (c - i) + 1)) := by
  simp only [slS, highOf, lowOf, bnd_nat hi, show (2 * c + 1) / 2 = c by omega, Option.bind_some, hn, if_true, show ¬ ((2 * c + 1) % 2 = 0) by omega, if_false, hf, rowOf, beq_self_eq_true]
theorem sl_hi {b o n c i sz : Nat} {q : IntKind} {xs : List Value} (hf : H.f b = .cells xs e true) (hi : i ≤ c) :
    slS e sz (.slice (some ⟨b, o, none⟩) n (2 * c + 1)) none (some (.int q (i : Int))) none H = some (.slice (some ⟨b, o, none⟩) i (2 * c + 1)) := by
  simp only [slS, highOf, lowOf, show (2 * c + 1) / 2 = c by omega, bnd_nat hi, Option.bind_some, hi, if_true, show ¬ ((2 * c + 1) % 2 = 0) by omega, if_false, hf, rowOf, beq_self_eq_true]
  simp
theorem sl_lohi {b o n c i j sz : Nat} {q q' : IntKind} {xs : List Value} (hf : H.f b = .cells xs e true) (hi : i ≤ j) (hj : j ≤ c) :
    slS e sz (.slice (some ⟨b, o, none⟩) n (2 * c + 1)) (some (.int q (i : Int))) (some (.int q' (j : Int))) none H = some (.slice (some ⟨b, o + i * sz, none⟩) (j - i) (2 * (c - i) + 1)) := by
  simp only [slS, highOf, lowOf, show (2 * c + 1) / 2 = c by omega, bnd_nat hj, bnd_nat hi, Option.bind_some, hj, if_true, show ¬ ((2 * c + 1) % 2 = 0) by omega, if_false, hf, rowOf, beq_self_eq_true]
theorem sl_three {b o n c i j m sz : Nat} {q q' q'' : IntKind} (hi : i ≤ j) (hj : j ≤ m) (hm : m ≤ c) :
    slS e sz (.slice (some ⟨b, o, none⟩) n (2 * c + 1)) (some (.int q (i : Int))) (some (.int q' (j : Int))) (some (.int q'' (m : Int))) H = some (.slice (some ⟨b, if m = i then o else o + i * sz, none⟩) (j - i) (2 * (m - i))) := by
  simp only [slS, lowOf, show (2 * c + 1) / 2 = c by omega, bnd_nat hm, bnd_nat hj, bnd_nat hi, Option.bind_some, Option.map_some]

/-! ### Insert -/
theorem Enc.cells_ins (E : Enc α) (l m : List α) (i : Nat) : E.cells (l.take i ++ (m ++ l.drop i)) = E.cells (l.take i) ++ (E.cells m ++ E.cells (l.drop i)) := by
  rw [E.cells_append, E.cells_append]

theorem zeros_all {z : List Value} (h : z.all one = true) : ∀ n, (zeros z n).all one = true
  | 0 => rfl
  | n + 1 => by rw [zeros, List.all_append, h, zeros_all h n]; rfl

theorem insS_own {el : TypeId} {z : List Value} {b o c i bv ov cv : Nat} {xs ys : List Value} {ev : TypeId} {m : List α} (hz : z.length = E.w) (hzo : z.all one = true)
    (hl : l.length ≤ c) (hb : b < H.n) (hf : H.f b = .cells xs el true) (ho : o + c * E.w = xs.length) (hx : (xs.drop o).take (l.length * E.w) = E.cells l)
    (hi : i < l.length) (hm : m ≠ []) (hfv : H.f bv = .cells ys ev true) (hbv : bv ≠ b) (htq : tailQ P ev = 1) (hy : ov + m.length * E.w ≤ ys.length) (hyc : (ys.drop ov).take (m.length * E.w) = E.cells m)
    (h1 : (l.length + m.length) * P.bytesOf el ≤ 140737488355328) (h2 : l.length + m.length ≤ 140737488355328) :
    ∃ v' H', insS P el z [.slice (some ⟨b, o, none⟩) l.length (2 * c + 1), .int .i64 (i : Int), .slice (some ⟨bv, ov, none⟩) m.length cv] H = some (v', H') ∧ Own E H' el v' (l.take i ++ (m ++ l.drop i)) ∧
      Fr (fun x => x = b) H H' ∧ (blockOf v' = some b ∨ blockOf v' = some H.n) := by
  have hw := E.pos
  have hm0 : m.length ≠ 0 := fun h => hm (List.length_eq_zero_iff.1 h)
  have hc2 : (2 * c + 1) / 2 = c := by omega
  have hmul := Nat.mul_le_mul_right E.w hl
  have hmi := Nat.mul_le_mul_right E.w (Nat.le_of_lt hi)
  have hsub : (l.length - i) * E.w = l.length * E.w - i * E.w := Nat.sub_mul ..
  have htail : (xs.drop (o + i * E.w)).take ((l.length - i) * E.w) = E.cells (l.drop i) := by
    rw [← E.cells_drop, ← hx, List.drop_take, List.drop_drop, hsub]
  have hhead : (xs.drop o).take (i * E.w) = E.cells (l.take i) := by
    rw [← E.cells_take, ← hx, List.take_take, Nat.min_eq_left hmi]
  have hxpos : 0 < xs.length := by
    have : 0 < l.length := by omega
    have := Nat.mul_pos this hw
    omega
  have hcond : (2 * c + 1) % 2 = 1 ∧ True ∧ i < l.length ∧ l.length ≤ (2 * c + 1) / 2 ∧ m.length ≠ 0 ∧ (l.length + m.length) * P.bytesOf el ≤ 140737488355328 ∧ l.length + m.length ≤ 140737488355328 ∧ bv ≠ b ∧ tailQ P ev = 1 ∧ o + (2 * c + 1) / 2 * z.length = xs.length ∧
          ov + m.length * z.length ≤ ys.length ∧ 0 < xs.length ∧ ((ys.drop ov).take (m.length * z.length)).all one = true ∧ ((xs.drop (o + i * z.length)).take ((l.length - i) * z.length)).all one = true ∧ (zeros z (l.length + m.length - i)).all one = true := by
    rw [hc2, hz]
    exact ⟨by omega, trivial, hi, hl, hm0, h1, h2, hbv, htq, ho, hy, hxpos, by rw [hyc]; exact E.cells_one m, by rw [htail]; exact E.cells_one _, zeros_all hzo _⟩
  have hval : insS P el z [.slice (some ⟨b, o, none⟩) l.length (2 * c + 1), .int .i64 (i : Int), .slice (some ⟨bv, ov, none⟩) m.length cv] H =
      if l.length + m.length ≤ c then
          some (.slice (some ⟨b, o, none⟩) (l.length + m.length) (2 * c + 1),
            (H.set b (.cells (spl xs (o + (i + m.length) * E.w) (E.cells (l.drop i))) el true)).set b
              (.cells (spl (spl xs (o + (i + m.length) * E.w) (E.cells (l.drop i))) (o + i * E.w) (E.cells m)) el true))
        else some (.slice (some ⟨H.n, 0, none⟩) (l.length + m.length) (2 * (l.length + m.length) + 1),
            (H.set b .dead).push (.cells (E.cells (l.take i) ++ (E.cells m ++ E.cells (l.drop i))) el true)) := by
    show (match H.f b, H.f bv with
      | .cells xs e true, .cells ys ev true => _
      | _, _ => none) = _
    rw [hf, hfv]
    simp only
    rw [if_pos hcond]
    simp only [hc2, hz, htail, hhead, hyc]
  have hlen3 : (l.take i ++ (m ++ l.drop i)).length = l.length + m.length := by simp; omega
  rw [hval]
  by_cases hroom : l.length + m.length ≤ c
  · rw [if_pos hroom]
    have hmulr := Nat.mul_le_mul_right E.w hroom
    rw [Nat.add_mul] at hmulr
    refine ⟨_, _, rfl, ?_, Fr.set (S := fun x => x = b) (Fr.set (Fr.refl H) b _ (fun _ => rfl)) b _ (fun _ => rfl), .inl rfl⟩
    refine .inr (.inr ⟨b, o, c, _, by rw [hlen3], by rw [hlen3]; exact hroom, hb, set_f_eq, by rw [spl_length, spl_length, ho], ?_⟩)
    rw [hlen3, E.cells_ins]
    have hA : i * E.w + m.length * E.w + (l.length - i) * E.w = (l.length + m.length) * E.w := by rw [hsub, Nat.add_mul]; omega
    have hcl : (E.cells (l.drop i)).length = (l.length - i) * E.w := by simp
    have hclm : (E.cells m).length = m.length * E.w := by simp
    have hins := fun j hj => ins_cells (xs := xs) (new := E.cells m) (o := o) (A := i * E.w) (M := m.length * E.w) (T := (l.length - i) * E.w) (by omega) hclm (j := j) hj
    apply List.ext_getElem?
    intro j
    by_cases hj : j < (l.length + m.length) * E.w
    · rw [List.getElem?_take_of_lt hj, List.getElem?_drop]
      have := hins j (by rw [hA]; exact hj)
      rw [htail, hhead] at this
      rw [show o + (i + m.length) * E.w = o + (i * E.w + m.length * E.w) by rw [Nat.add_mul]]
      exact this
    · have hlt : (E.cells (l.take i)).length = i * E.w := by rw [E.cells_len, List.length_take, Nat.min_eq_left (Nat.le_of_lt hi)]
      rw [List.getElem?_eq_none (by simp only [List.length_take]; omega), List.getElem?_eq_none (by rw [List.length_append, List.length_append, hlt, hclm, hcl]; omega)]
  · rw [if_neg hroom]
    refine ⟨_, _, rfl, ?_, Fr.push (Fr.set (S := fun x => x = b) (Fr.refl H) b _ (fun _ => rfl)) _, .inr rfl⟩
    refine .inr (.inr ⟨H.n, 0, l.length + m.length, _, by rw [hlen3], by rw [hlen3]; exact Nat.le_refl _, by simp, push_f_eq rfl, ?_, ?_⟩)
    · rw [List.length_append, List.length_append, E.cells_len, E.cells_len, E.cells_len, List.length_take, List.length_drop, Nat.min_eq_left (Nat.le_of_lt hi), hsub, Nat.add_mul]; omega
    · rw [hlen3, E.cells_ins, List.drop_zero]
      apply List.take_of_length_le
      rw [List.length_append, List.length_append, E.cells_len, E.cells_len, E.cells_len, List.length_take, List.length_drop, Nat.min_eq_left (Nat.le_of_lt hi), hsub, Nat.add_mul]; omega

theorem del_cells {xs z : List Value} {o i : Nat} (hz : z.length = E.w) (hi : i < l.length) (hxl : o + l.length * E.w ≤ xs.length) (hx : (xs.drop o).take (l.length * E.w) = E.cells l) :
    ((spl (spl xs (o + i * E.w) (E.cells (l.drop (i + 1)))) (o + (l.length - 1) * E.w) z).drop o).take ((l.take i ++ l.drop (i + 1)).length * E.w) = E.cells (l.take i ++ l.drop (i + 1)) := by
  have hlen : (l.take i ++ l.drop (i + 1)).length = l.length - 1 := by simp; omega
  have hm1 : (l.length - 1) * E.w = l.length * E.w - E.w := by rw [Nat.sub_mul, Nat.one_mul]
  have hm2 : (l.length - (i + 1)) * E.w = l.length * E.w - (i * E.w + E.w) := by rw [Nat.sub_mul, Nat.add_mul, Nat.one_mul]
  have hm3 : (i + 1) * E.w ≤ l.length * E.w := Nat.mul_le_mul_right _ hi
  rw [Nat.add_mul, Nat.one_mul] at hm3
  have hcl : (E.cells (l.drop (i + 1))).length = l.length * E.w - (i * E.w + E.w) := by rw [E.cells_len, List.length_drop, hm2]
  have hct : (E.cells (l.take i)).length = i * E.w := by rw [E.cells_len, List.length_take, Nat.min_eq_left (Nat.le_of_lt hi)]
  rw [hlen, hm1, E.cells_append]
  apply List.ext_getElem?
  intro j
  by_cases hj : j < l.length * E.w - E.w
  · rw [List.getElem?_take_of_lt hj, List.getElem?_drop, spl_get _ _ _ _ (by rw [spl_length, hz]; omega), if_neg (by omega), spl_get _ _ _ _ (by rw [hcl]; omega), hcl, List.getElem?_append, hct]
    by_cases h1 : j < i * E.w
    · rw [if_neg (by omega), if_pos h1, ← E.cells_take, List.getElem?_take_of_lt h1, ← hx, List.getElem?_take_of_lt (by omega), List.getElem?_drop]
    · rw [if_pos (by omega), if_neg h1, show o + j - (o + i * E.w) = j - i * E.w by omega]
  · rw [List.getElem?_eq_none (by simp only [List.length_take]; omega), List.getElem?_eq_none (by rw [List.length_append, hct, hcl]; omega)]

/-! ### Functions without loops, run as they stand -/
def noLoop : DCode → Bool
  | .seq a b => noLoop a && noLoop b
  | .cond _ _ a b => noLoop a && noLoop b
  | .block _ _ b => noLoop b
  | .loop _ _ => false
  | _ => true

theorem dCode_noLoop {N n : Nat} {call : CallF} : ∀ (c : DCode), noLoop c = true → dCode P N call n c = dCodeI P N call c
  | .skip, _ => rfl
  | .region _ _ _, _ => rfl
  | .seq a b, h => by
    simp only [noLoop, Bool.and_eq_true] at h
    funext T H
    rw [dCode, dCodeI, dCode_noLoop a h.1, dCode_noLoop b h.2]
    rfl
  | .cond keep c a b, h => by
    simp only [noLoop, Bool.and_eq_true] at h
    funext T H
    rw [dCode, dCodeI, dCode_noLoop a h.1, dCode_noLoop b h.2]
    rfl
  | .block keep id b, h => by
    funext T H
    rw [dCode, dCodeI, dCode_noLoop b h]
    rfl
  | .loop _ _, h => by simp [noLoop] at h
  | .exit _, _ => rfl
  | .ret _, _ => rfl
  | .bad _, _ => rfl

theorem dBody_noLoop {hints : Hints} {call : CallF} {n : Nat} {f : FuncId} {args : List Value} (h : noLoop (codeOf P hints f) = true) : dBody P hints call n f args H = dBodyL stdL P hints call limLP f args H := by
  unfold codeOf at h
  unfold dBody dBodyL
  cases hf : P.funcs[f]? with
  | none => rfl
  | some fn =>
    rw [hf] at h
    simp only at h ⊢
    cases hb : fn.body with
    | none => rfl
    | some c =>
      rw [hb] at h
      simp only at h ⊢
      rw [dCodeL_eq, dCode_noLoop _ h]
      congr 1
      funext r
      obtain ⟨x, T, H⟩ := r
      cases x with
      | normal => simp only [endK]; rw [resValsK_eq]; cases resVals P H T _ <;> rfl
      | exit i => rfl
      | ret => simp only [endK]; rw [resValsK_eq]; cases resVals P H T _ <;> rfl

@[go_sem, go_sem ↓] theorem nextK_none {call : CallF} {k : Value → AHeap → Res} : nextK call H none k = none := _root_.id rfl
@[go_sem, go_sem ↓] theorem bareK_none {k : Value → AHeap → Res} : bareK none H k = none := _root_.id rfl
theorem cap_odd {t : TypeId} {b o n c : Nat} : xbuiltin P .cap [t] [.slice (some ⟨b, o, none⟩) n (2 * c + 1)] H = none := by
  show bare (xcap P [t] (.slice (some ⟨b, o, none⟩) n (2 * c + 1))) H = none
  have : xcap P [t] (.slice (some ⟨b, o, none⟩) n (2 * c + 1)) = none := by
    unfold xcap
    simp only
    split
    · rename_i h; cases h
    · rename_i h
      cases h
      rw [if_neg (by omega)]
    · rfl
  rw [this]; rfl

end Go.Proofs.Ytldgonjihhndgaa.Eng

/-
  Chapter 02: slices.Clone, Insert and Delete over alarms.
  Conditions: none. By an AI agent.
-/
set_option maxRecDepth 10000
set_option linter.unusedSimpArgs false
set_option linter.unusedVariables false
namespace Go.Proofs.Ytldgonjihhndgaa
open Go Eng

theorem q_clone (l : List Al) (v : Value) (H : AHeap) (hr : Rd EAl H v l) (hl : l.length ≤ 8796093022207) :
    ∃ v' H', CC F.slices_Clone_alarm [v] H = some (v', H') ∧ Own EAl H' T.clock_alarm v' l ∧ Still H H' ∧ ∀ b, blockOf v' = some b → H.n ≤ b := by
  have hsrc : ∀ H1, Still H H1 → srcS 2 v H1 = some (l.length, EAl.cells l) := fun H1 h => (hr.still h).src rfl
  have s1 : Still H (H.push (.cells [] T.clock_alarm true)) := (Fr.refl H).push _
  have hs := hsrc _ s1
  by_cases hn : v = .slice none 0 0
  · have hl0 : l = [] := by
      rcases hr with h | h | ⟨b, o, c, h, _⟩
      · exact h.1
      · exact h.1
      · rw [hn] at h; cases h
    subst hn hl0
    refine ⟨.slice none 0 0, H, ?_, .inl ⟨rfl, rfl⟩, Fr.refl H, fun b h => by cases h⟩
    apply pure_of _ (d_slices_Clone_alarm _ H) rfl
    rotate_left 2
    · simp (disch := first | with_reducible rfl | assumption | omega | rfl | (simp only [go_sem]; first | done | omega)) only [go_sem, ↓reduceIte, reduceCtorEq, Nat.reduceEqDiff, Nat.reduceAdd, Nat.reduceSub, Nat.reduceMul, Nat.reduceDiv, Nat.reduceMod, Nat.reduceLeDiff, Nat.reduceLT, Nat.reduceBEq, Int.reduceEq, Int.reduceBEq, Int.reduceBNe, Int.reduceLT, Int.reduceLE, Int.reduceAdd, Int.reduceSub, Int.reduceNeg, Int.reduceToNat, Int.reducePow, Nat.reducePow, Int.reduceMul, Int.reduceDiv, ↓s_slices_Clone_alarm]
      rfl
    · (repeat (first | exact Fr.refl _ | refine Fr.push ?_ _ | refine Fr.set ?_ _ _ (by intro h; first | omega | (simp only [go_sem] at h; omega))))
  · obtain ⟨a, n, c, hv⟩ : ∃ a n c, v = .slice (some a) n c := by
      rcases hr with h | ⟨_, a, k, h, _⟩ | ⟨b, o, c, h, _⟩
      · exact absurd h.2 hn
      · exact ⟨_, _, _, h⟩
      · exact ⟨_, _, _, h⟩
    have hnil : ∀ ox oy, xbin Try.prog .eql T.sl_clock_alarm ox oy v (.slice none 0 0) = some (.bool false) := fun ox oy => by rw [hv]; exact sl_some_eq
    have ho : Own EAl (H.push (.cells [] T.clock_alarm true)) T.clock_alarm (.slice (some ⟨H.n, 0, none⟩) 0 0) [] := .inr (.inl ⟨rfl, _, rfl, rfl, by simp⟩)
    by_cases hl0 : l = []
    · subst hl0
      refine ⟨.slice (some ⟨H.n, 0, none⟩) 0 0, H.push (.cells [] T.clock_alarm true), ?_, ho, s1, fun b h => by cases h; exact Nat.le_refl _⟩
      have happ : app T.clock_alarm 2 16 (.slice (some ⟨H.n, 0, none⟩) 0 0) (srcS 2 v (H.push (.cells [] T.clock_alarm true))) (H.push (.cells [] T.clock_alarm true)) = some (.slice (some ⟨H.n, 0, none⟩) 0 0, H.push (.cells [] T.clock_alarm true)) := by rw [hs]; rfl
      refine (d_slices_Clone_alarm _ H ?_).trans (congrArg some (tidy_mem (v := .slice (some ⟨H.n, 0, none⟩) 0 0) (H' := H.push (.cells [] T.clock_alarm true)) rfl))
      simp (disch := first | with_reducible rfl | assumption | omega | rfl | (simp only [go_sem]; first | done | omega)) only [go_sem, ↓reduceIte, reduceCtorEq, Nat.reduceEqDiff, Nat.reduceAdd, Nat.reduceSub, Nat.reduceMul, Nat.reduceDiv, Nat.reduceMod, Nat.reduceLeDiff, Nat.reduceLT, Nat.reduceBEq, Int.reduceEq, Int.reduceBEq, Int.reduceBNe, Int.reduceLT, Int.reduceLE, Int.reduceAdd, Int.reduceSub, Int.reduceNeg, Int.reduceToNat, Int.reducePow, Nat.reducePow, Int.reduceMul, Int.reduceDiv, ↓s_slices_Clone_alarm, hnil, happ]
    · obtain ⟨v', H', happ, hown, hfr, hb, hg⟩ := ho.app (m := l) hl0 (sz := 2) (bytes := 16) rfl (by simp; omega) (by simp; omega) hs
      refine ⟨v', H', ?_, hown, ?_, ?_⟩
      · refine (d_slices_Clone_alarm _ H ?_).trans (congrArg some (tidy_mem (v := v') (H' := H') hg))
        simp (disch := first | with_reducible rfl | assumption | omega | rfl | (simp only [go_sem]; first | done | omega)) only [go_sem, ↓reduceIte, reduceCtorEq, Nat.reduceEqDiff, Nat.reduceAdd, Nat.reduceSub, Nat.reduceMul, Nat.reduceDiv, Nat.reduceMod, Nat.reduceLeDiff, Nat.reduceLT, Nat.reduceBEq, Int.reduceEq, Int.reduceBEq, Int.reduceBNe, Int.reduceLT, Int.reduceLE, Int.reduceAdd, Int.reduceSub, Int.reduceNeg, Int.reduceToNat, Int.reducePow, Nat.reducePow, Int.reduceMul, Int.reduceDiv, ↓s_slices_Clone_alarm, hnil, happ]
      · refine s1.then hfr fun b hb h => ?_
        unfold OnlyOf at h
        simp [blockOf] at h
        omega
      · intro b h
        rcases hb with hb | hb
        · rw [hb] at h
          simp [blockOf] at h
          omega
        · rw [hb] at h
          simp at h
          omega

/-! ### Insert -/
theorem ins_loop : noLoop (codeOf Try.prog hints F.slices_Insert_alarm) = true := by kernel_rfl

theorem q_insert (l : List Al) (v : Value) (a : Al) (bv i : Nat) (H : AHeap) (hr : Own EAl H T.clock_alarm v l) (hl : l.length ≤ 8796093022206) (hi : i ≤ l.length) (hbn : bv < H.n) (hbv : H.f bv = .cells [.int .i64 a.id, .int .i64 a.tm] T.clock_alarm true) (hne : blockOf v ≠ some bv) :
    ∃ v' H', CC F.slices_Insert_alarm [v, .int .i64 (i : Int), .slice (some ⟨bv, 0, none⟩) 1 2] H = some (v', H') ∧ Own EAl H' T.clock_alarm v' (l.take i ++ a :: l.drop i) ∧ Fr (OnlyOf v) H H' ∧
      (blockOf v' = blockOf v ∨ ∃ b, blockOf v' = some b ∧ H.n ≤ b) := by
  have hp : prims1 F.slices_Insert_alarm = some (insP Try.prog hints 31 62 zAlarm) := by kernel_rfl
  have hsrc : srcS 2 (.slice (some ⟨bv, 0, none⟩) 1 2) H = some ([a].length, EAl.cells [a]) := by
    unfold srcS
    simp only [cut_b, hbv, Nat.one_ne_zero, if_false]
    rfl
  by_cases hin : i = l.length
  · subst hin
    obtain ⟨v', H', happ, hown, hfr, hb, hg⟩ := hr.app (m := [a]) (by simp) (sz := 2) (bytes := 16) rfl (by simp; omega) (by simp; omega) hsrc
    obtain ⟨w, hw, _, _⟩ := hr.drop (sz := 2) (q := .i64) rfl (Nat.le_refl l.length)
    have hlen := hr.rd.lenS
    refine ⟨v', H', ?_, by simpa using hown, hfr, hb.imp id fun h => ⟨_, h, Nat.le_refl _⟩⟩
    refine D_prim hp ?_
    have hbody : dBody Try.prog hints (fun _ _ _ => none) 1 F.slices_Insert_alarm [v, .int .i64 (l.length : Int), .slice (some ⟨bv, 0, none⟩) 1 2] H = some (v', H') := by
      rw [dBody_noLoop ins_loop, s_slices_Insert_alarm_eq]
      show s_slices_Insert_alarm guardK condL shareL Try.prog _ _ _ _ H _ = _
      simp (disch := first | with_reducible rfl | assumption | omega | rfl | (simp only [go_sem]; first | done | omega)) only [go_sem, ↓reduceIte, reduceCtorEq, Nat.reduceEqDiff, Nat.reduceAdd, Nat.reduceSub, Nat.reduceMul, Nat.reduceDiv, Nat.reduceMod, Nat.reduceLeDiff, Nat.reduceLT, Nat.reduceBEq, Int.reduceEq, Int.reduceBEq, Int.reduceBNe, Int.reduceLT, Int.reduceLE, Int.reduceAdd, Int.reduceSub, Int.reduceNeg, Int.reduceToNat, Int.reducePow, Nat.reducePow, Int.reduceMul, Int.reduceDiv, ↓s_slices_Insert_alarm, hw, hlen, happ]
    show (match dBody Try.prog hints (fun _ _ _ => none) 1 F.slices_Insert_alarm [v, .int .i64 (l.length : Int), .slice (some ⟨bv, 0, none⟩) 1 2] H with
      | some r => some r
      | none => _) = _
    rw [hbody]
  · have hilt : i < l.length := by omega
    rcases hr with ⟨h, _⟩ | ⟨h, _⟩ | ⟨b, o, c, xs, rfl, hlc, hb, hf, ho, hx⟩
    · subst h; simp at hilt
    · subst h; simp at hilt
    · have hneb : bv ≠ b := fun h => hne (by rw [h]; rfl)
      obtain ⟨v', H', hins, hown, hfr, hbl⟩ := insS_own (P := Try.prog) (E := EAl) (l := l) (el := T.clock_alarm) (z := zAlarm) (b := b) (o := o) (c := c) (i := i) (bv := bv) (ov := 0) (cv := 2) (m := [a]) rfl rfl hlc hb hf ho hx hilt (by simp) hbv hneb (by kernel_rfl) (show 0 + 1 * 2 ≤ 2 by decide) rfl
        (by rw [show Try.prog.bytesOf T.clock_alarm = 16 by kernel_rfl]; simp; omega) (by simp; omega)
      refine ⟨v', H', ?_, hown, hfr.mono fun x _ h => by rw [h]; rfl, hbl.imp id fun h => ⟨_, h, Nat.le_refl _⟩⟩
      refine D_prim hp ?_
      have hlo : slS T.clock_alarm 2 (.slice (some ⟨b, o, none⟩) l.length (2 * c + 1)) (some (.int .i64 (i : Int))) none none H = some (.slice (some ⟨b, o + i * 2, none⟩) (l.length - i) (2 * (c - i) + 1)) := sl_lo hf hi hlc
      have hne' : ¬ (i : Int) = (l.length : Int) := by omega
      have hbody : dBody Try.prog hints (fun _ _ _ => none) 1 F.slices_Insert_alarm [.slice (some ⟨b, o, none⟩) l.length (2 * c + 1), .int .i64 (i : Int), .slice (some ⟨bv, 0, none⟩) 1 2] H = none := by
        rw [dBody_noLoop ins_loop, s_slices_Insert_alarm_eq]
        show s_slices_Insert_alarm guardK condL shareL Try.prog _ _ _ _ H _ = _
        simp (disch := first | with_reducible rfl | assumption | omega | rfl | (simp only [go_sem]; first | done | omega)) only [go_sem, ↓reduceIte, reduceCtorEq, Nat.reduceEqDiff, Nat.reduceAdd, Nat.reduceSub, Nat.reduceMul, Nat.reduceDiv, Nat.reduceMod, Nat.reduceLeDiff, Nat.reduceLT, Nat.reduceBEq, Int.reduceEq, Int.reduceBEq, Int.reduceBNe, Int.reduceLT, Int.reduceLE, Int.reduceAdd, Int.reduceSub, Int.reduceNeg, Int.reduceToNat, Int.reducePow, Nat.reducePow, Int.reduceMul, Int.reduceDiv, ↓s_slices_Insert_alarm, hlo, hne', cap_odd]
      show (match dBody Try.prog hints (fun _ _ _ => none) 1 F.slices_Insert_alarm [.slice (some ⟨b, o, none⟩) l.length (2 * c + 1), .int .i64 (i : Int), .slice (some ⟨bv, 0, none⟩) 1 2] H with
        | some r => some r
        | none => _) = _
      rw [hbody]
      exact hins

/-! ### Delete -/
theorem zrow_alarm : zrow Try.prog T.clock_alarm = some [.int .i64 0, .int .i64 0] := by kernel_rfl
theorem clear_eq {b o n c : Nat} {H : AHeap} (hn : n ≠ 0) : xclear Try.prog [T.sl_clock_alarm] (.slice (some ⟨b, o, none⟩) n c) H = (setB H b (wrL (H.f b) o (zeros [.int .i64 0, .int .i64 0] n))).map fun H' => (.tuple #[], H') := by
  have h : Try.prog.underlying T.sl_clock_alarm = some (.slice T.clock_alarm) := Try.underlying51
  unfold xclear
  simp only [h, hn, if_false, zrow_alarm, Option.bind_some, stL_b]

theorem q_delete (l : List Al) (v : Value) (i : Nat) (H : AHeap) (hr : Own EAl H T.clock_alarm v l) (hl : l.length ≤ 8796093022206) (hi : i < l.length) :
    ∃ v' H', CC F.slices_Delete_alarm [v, .int .i64 (i : Int), .int .i64 ((i : Int) + 1)] H = some (v', H') ∧ Own EAl H' T.clock_alarm v' (l.take i ++ l.drop (i + 1)) ∧ Fr (OnlyOf v) H H' ∧ blockOf v' = blockOf v := by
  rcases hr with ⟨h, _⟩ | ⟨h, _⟩ | ⟨b, o, c, xs, rfl, hlc, hb, hf, ho, hx⟩
  · subst h; simp at hi
  · subst h; simp at hi
  · have hw : EAl.w = 2 := rfl
    rw [hw] at ho hx
    have hne : ¬ (i : Int) = (i : Int) + 1 := by omega
    have hmul : l.length * 2 ≤ c * 2 := Nat.mul_le_mul_right _ hlc
    have e1 : slS T.clock_alarm 2 (.slice (some ⟨b, o, none⟩) l.length (2 * c + 1)) (some (.int .i64 (i : Int))) (some (.int .i64 ((i : Int) + 1))) (some (.int .i64 (l.length : Int))) H = some (.slice (some ⟨b, if l.length = i then o else o + i * 2, none⟩) (i + 1 - i) (2 * (l.length - i))) :=
      sl_three (H := H) (e := T.clock_alarm) (sz := 2) (i := i) (j := i + 1) (by omega) hi hlc
    have e2 : slS T.clock_alarm 2 (.slice (some ⟨b, o, none⟩) l.length (2 * c + 1)) none (some (.int .i64 (i : Int))) none H = some (.slice (some ⟨b, o, none⟩) i (2 * c + 1)) := sl_hi hf (by omega)
    have e3 : slS T.clock_alarm 2 (.slice (some ⟨b, o, none⟩) l.length (2 * c + 1)) (some (.int .i64 ((i : Int) + 1))) none none H = some (.slice (some ⟨b, o + (i + 1) * 2, none⟩) (l.length - (i + 1)) (2 * (c - (i + 1)) + 1)) :=
      sl_lo (H := H) (e := T.clock_alarm) (sz := 2) (i := i + 1) hf hi hlc
    -- what is appended
    obtain ⟨ys, hys, e4⟩ : ∃ ys, ys = spl xs (o + i * 2) (EAl.cells (l.drop (i + 1))) ∧ app T.clock_alarm 2 16 (.slice (some ⟨b, o, none⟩) i (2 * c + 1)) (srcS 2 (.slice (some ⟨b, o + (i + 1) * 2, none⟩) (l.length - (i + 1)) (2 * (c - (i + 1)) + 1)) H) H =
        some (.slice (some ⟨b, o, none⟩) (l.length - 1) (2 * c + 1), if l.length = i + 1 then H else H.set b (.cells ys T.clock_alarm true)) := by
      refine ⟨_, rfl, ?_⟩
      have hsrc : srcS 2 (.slice (some ⟨b, o + (i + 1) * 2, none⟩) (l.length - (i + 1)) (2 * (c - (i + 1)) + 1)) H = some (l.length - (i + 1), EAl.cells (l.drop (i + 1))) := by
        unfold srcS
        by_cases h0 : l.length - (i + 1) = 0
        · rw [List.drop_eq_nil_of_le (by omega)]
          simp only [h0, if_true]
          rfl
        · simp only [h0, if_false, cut_b, hf]
          have hd : (xs.drop (o + (i + 1) * 2)).take ((l.length - (i + 1)) * 2) = EAl.cells (l.drop (i + 1)) := by
            have := EAl.cells_drop l (i + 1)
            rw [hw] at this
            rw [← this, ← hx, List.drop_take, List.drop_drop, Nat.sub_mul]
          rw [cutB_c (by omega), hd]
          rfl
      rw [hsrc]
      by_cases h0 : l.length = i + 1
      · rw [if_pos h0]
        unfold app
        simp only [Option.bind_some, show l.length - (i + 1) = 0 by omega, if_true]
        rw [show l.length - 1 = i by omega]
      · rw [if_neg h0]
        unfold app
        have hlen : (EAl.cells (l.drop (i + 1))).length = (l.length - (i + 1)) * 2 := by rw [EAl.cells_len, List.length_drop, hw]
        simp only [Option.bind_some, show ¬ l.length - (i + 1) = 0 by omega, if_false, show ¬ ((i + (l.length - (i + 1))) * 16 > 140737488355328 ∨ i + (l.length - (i + 1)) > 140737488355328) by omega, show i + (l.length - (i + 1)) ≤ (2 * c + 1) / 2 by omega, if_true, stL_b, hf]
        rw [wrL_c (by rw [hlen]; omega) (EAl.cells_one _), setB_s]
        simp only [Option.map_some]
        rw [show i + (l.length - (i + 1)) = l.length - 1 by omega]
    have hysl : ys.length = xs.length := by rw [hys, spl_length]
    generalize hH1 : (if l.length = i + 1 then H else H.set b (.cells ys T.clock_alarm true)) = H1 at e4
    obtain ⟨zs, hzs, hzl, f1⟩ : ∃ zs, (zs = ys) ∧ zs.length = xs.length ∧ H1.f b = .cells zs T.clock_alarm true := by
      rw [← hH1]
      by_cases h0 : l.length = i + 1
      · rw [if_pos h0]
        refine ⟨xs, ?_, rfl, hf⟩
        rw [hys, List.drop_eq_nil_of_le (by omega)]
        rfl
      · rw [if_neg h0]
        exact ⟨ys, rfl, hysl, set_f_eq⟩
    subst hzs
    have fr1 : Fr (OnlyOf (.slice (some ⟨b, o, none⟩) l.length (2 * c + 1))) H H1 := by
      rw [← hH1]
      split
      · exact Fr.refl _
      · exact Fr.set (Fr.refl _) _ _ fun _ => rfl
    have e5 : slS T.clock_alarm 2 (.slice (some ⟨b, o, none⟩) (l.length - 1) (2 * c + 1)) (some (.int .i64 ((l.length - 1 : Nat) : Int))) (some (.int .i64 (l.length : Int))) none H1 = some (.slice (some ⟨b, o + (l.length - 1) * 2, none⟩) (l.length - (l.length - 1)) (2 * (c - (l.length - 1)) + 1)) := sl_lohi f1 (by omega) hlc
    have e6 : l.length - (l.length - 1) = 1 := by omega
    have hn1 : b < H1.n := Nat.lt_of_lt_of_le hb fr1.n
    refine ⟨.slice (some ⟨b, o, none⟩) (l.length - 1) (2 * c + 1), H1.set b (.cells (spl zs (o + (l.length - 1) * 2) [.int .i64 0, .int .i64 0]) T.clock_alarm true), ?_, ?_, Fr.set fr1 _ _ fun _ => rfl, rfl⟩
    · refine (d_slices_Delete_alarm _ _ _ H (r := (.slice (some ⟨b, o, none⟩) (l.length - 1) (2 * c + 1), _)) ?_).trans (congrArg some (tidy_mem rfl))
      simp (disch := first | with_reducible rfl | assumption | omega | rfl | (simp only [go_sem]; first | done | omega)) only [go_sem, ↓reduceIte, reduceCtorEq, Nat.reduceEqDiff, Nat.reduceAdd, Nat.reduceSub, Nat.reduceMul, Nat.reduceDiv, Nat.reduceMod, Nat.reduceLeDiff, Nat.reduceLT, Nat.reduceBEq, Int.reduceEq, Int.reduceBEq, Int.reduceBNe, Int.reduceLT, Int.reduceLE, Int.reduceAdd, Int.reduceSub, Int.reduceNeg, Int.reduceToNat, Int.reducePow, Nat.reducePow, Int.reduceMul, Int.reduceDiv, ↓s_slices_Delete_alarm, e1, hne, e2, e3, e4]
      rw [e5, e6]
      simp (disch := first | with_reducible rfl | assumption | omega | rfl | (simp only [go_sem]; first | done | omega)) only [go_sem, ↓reduceIte, reduceCtorEq, Nat.reduceEqDiff, Nat.reduceAdd, Nat.reduceSub, Nat.reduceMul, Nat.reduceDiv, Nat.reduceMod, Nat.reduceLeDiff, Nat.reduceLT, Nat.reduceBEq, Int.reduceEq, Int.reduceBEq, Int.reduceBNe, Int.reduceLT, Int.reduceLE, Int.reduceAdd, Int.reduceSub, Int.reduceNeg, Int.reduceToNat, Int.reducePow, Nat.reducePow, Int.reduceMul, Int.reduceDiv, clear_eq, f1]
    · have hlen2 : (l.take i ++ l.drop (i + 1)).length = l.length - 1 := by simp; omega
      refine .inr (.inr ⟨b, o, c, _, by rw [hlen2], by rw [hlen2]; omega, by simpa using hn1, set_f_eq, by rw [spl_length, hzl, hw, ho], ?_⟩)
      rw [hys]
      have := del_cells (E := EAl) (xs := xs) (z := [.int .i64 0, .int .i64 0]) (o := o) (i := i) rfl hi (by rw [hw]; omega) (by rw [hw]; exact hx)
      exact this

end Go.Proofs.Ytldgonjihhndgaa
