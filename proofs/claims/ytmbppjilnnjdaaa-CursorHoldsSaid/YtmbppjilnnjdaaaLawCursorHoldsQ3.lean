/-
  8 texts in one (merge.py): Sh Eng19 Eng20 Known Ds Eng23 Eng24 Eng25.
  Conditions: none. By an AI agent.
-/
import Derived.Test.YtmbppjilnnjdaaaLawCursorHoldsQ2
import Derived.Test.YtmbppjilnnjdaaaChecked
import Derived.KernelRfl

/-
  The seat's functions as terms over the engine's combinators (a program of ours printed it).
  Conditions: none. By an AI agent.
-/
set_option linter.unusedVariables false
namespace Go.Proofs.Ytmbppjilnnjdaaa
open Go Eng

/-! ticketline.ticketlinelaw42.fails -/

noncomputable def s_law_fails (mg : GT) (mc : CT) (ms : ST) (P : Program) (C : CallF) (a0 : Value) (a1 : Value) (a2 : Value) (H : AHeap) (K0 : K) : Res :=
enterK C F.cursor_New [a0, a1] H fun t12 h1 =>
bareK (xextract t12 0) h1 fun t13 h2 =>
bareK (xextract t12 1) h2 fun t14 h3 =>
bareK (xbin P .eql T.p_cursor_Cursor (.tmp 15) (.const (.pointer none)) t13 (.pointer none)) h3 fun t16 h4 =>
mg t16 true (fun o1 => o1 t14 h4) h4 fun t18 h5 =>
mg t16 true (fun o2 => o2 a2 h5) h5 fun t19 h6 =>
mg t16 true (fun o3 => bareK (xbin P .eql T.int (.tmp 18) (.tmp 19) t18 t19) h6 o3) h6 fun t20 h7 =>
pickK t16 t20 (.bool false) fun t21 =>
K0 .ret [(6, t21)] h7

theorem s_law_fails_eq (M : CombL) (C : CallF) (LP : LoopH) (a0 : Value) (a1 : Value) (a2 : Value) (H : AHeap) : dBodyL M Try.prog hints C LP F.law_fails [a0, a1, a2] H = s_law_fails M.b.g M.c M.s Try.prog C a0 a1 a2 H (endK Try.prog [.tmp 6]) := by kernel_rfl

/-! ticketline.cursor.New -/

noncomputable def s_cursor_New (mg : GT) (mc : CT) (ms : ST) (P : Program) (C : CallF) (a0 : Value) (a1 : Value) (H : AHeap) (K0 : K) : Res :=
ms (fun k1 =>
bareK (lenT a0) H fun t8 h1 =>
bareK (xbin P .gtr T.int (.tmp 8) (.const (.int .i64 24)) t8 (.int .i64 24)) h1 fun t9 h2 =>
mg t9 false (fun o2 => o2 a1 h2) h2 fun t11 h3 =>
mg t9 false (fun o3 => bareK (lenT t11) h3 o3) h3 fun t12 h4 =>
mg t9 false (fun o4 => bareK (xbin P .gtr T.int (.tmp 12) (.const (.int .i64 24)) t12 (.int .i64 24)) h4 o4) h4 fun t13 h5 =>
pickK t9 (.bool true) t13 fun t14 =>
mc t14 (fun k5 => k5 .ret [(4, (.pointer none)), (5, (.int .i64 5))] h5) (fun k5 =>
bareK (xbin P .neq T.string (.tmp 16) (.const (.string (mk []))) a1 (.string (mk []))) h5 fun t17 h6 =>
mg t17 true (fun o6 => o6 a1 h6) h6 fun t19 h7 =>
mg t17 true (fun o7 => o7 a0 h7) h7 fun t20 h8 =>
mg t17 true (fun o8 => enterK C F.keys_Compare [t19, t20] h8 o8) h8 fun t21 h9 =>
mg t17 true (fun o9 => bareK (xbin P .leq T.int (.tmp 21) (.const (.int .i64 0)) t21 (.int .i64 0)) h9 o9) h9 fun t22 h10 =>
pickK t17 t22 (.bool false) fun t23 =>
mc t23 (fun k10 => k10 .ret [(4, (.pointer none)), (5, (.int .i64 13))] h10) (fun k10 =>
k10 .normal [(0, a0), (1, a1)] h10) (afterK [0, 1] k5)) (blkK [0, 1] 0 k1)) (seqK (fun tT h11 =>
bareK (bldS #[(.string (mk [])), (.string (mk []))] [(0, 1), (1, 1)] [(0, (get tT 0)), (1, (get tT 1))]) h11 fun t26 h12 =>
bareK (bldS #[(.string (mk [])), (.string (mk [])), (.int .i64 0), (.string (mk []))] [(0, 2), (2, 1), (3, 1)] [(0, t26), (1, (.int .i64 1))]) h12 fun t27 h13 =>
bothK (newv T.cursor_Cursor t27 h13) fun t28 h14 =>
K0 .ret [(4, t28), (5, (.int .i64 0))] h14) K0)

theorem s_cursor_New_eq (M : CombL) (C : CallF) (LP : LoopH) (a0 : Value) (a1 : Value) (H : AHeap) : dBodyL M Try.prog hints C LP F.cursor_New [a0, a1] H = s_cursor_New M.b.g M.c M.s Try.prog C a0 a1 H (endK Try.prog [.tmp 4, .tmp 5]) := by kernel_rfl

/-! ticketline.ticketlinelaw42.alike -/

noncomputable def s_law_alike (mg : GT) (mc : CT) (ms : ST) (P : Program) (C : CallF) (a0 : Value) (a1 : Value) (a2 : Value) (H : AHeap) (K0 : K) : Res :=
bareK (xbin P .eql T.p_cursor_Cursor (.tmp 9) (.const (.pointer none)) a0 (.pointer none)) H fun t10 h1 =>
mg t10 false (fun o1 => o1 a0 h1) h1 fun t12 h2 =>
mg t10 false (fun o2 => enterK C F.cursor_Cursor_At [t12] h2 o2) h2 fun t13 h3 =>
mg t10 false (fun o3 => o3 a1 h3) h3 fun t14 h4 =>
mg t10 false (fun o4 => bareK (xnilCheck t14) h4 o4) h4 fun t15 h5 =>
mg t10 false (fun o5 => bareK (fad 2 t15) h5 o5) h5 fun t16 h6 =>
mg t10 false (fun o6 => bareK (ld1 h6 t16) h6 o6) h6 fun t17 h7 =>
mg t10 false (fun o7 => bareK (xbin P .neq T.string (.tmp 13) (.tmp 17) t13 t17) h7 o7) h7 fun t18 h8 =>
pickK t10 (.bool true) t18 fun t19 =>
mg t19 false (fun o8 => o8 a0 h8) h8 fun t21 h9 =>
mg t19 false (fun o9 => enterK C F.cursor_Cursor_Before [t21] h9 o9) h9 fun t22 h10 =>
mg t19 false (fun o10 => o10 a1 h10) h10 fun t23 h11 =>
mg t19 false (fun o11 => bareK (xnilCheck t23) h11 o11) h11 fun t24 h12 =>
mg t19 false (fun o12 => bareK (fad 3 t24) h12 o12) h12 fun t25 h13 =>
mg t19 false (fun o13 => bareK (ld1 h13 t25) h13 o13) h13 fun t26 h14 =>
mg t19 false (fun o14 => bareK (xbin P .lss T.int (.tmp 26) (.const (.int .i64 0)) t26 (.int .i64 0)) h14 o14) h14 fun t27 h15 =>
mg t19 false (fun o15 => bareK (xbin P .neq T.bool (.tmp 22) (.tmp 27) t22 t27) h15 o15) h15 fun t28 h16 =>
pickK t19 (.bool true) t28 fun t29 =>
mg t29 false (fun o16 => o16 a0 h16) h16 fun t31 h17 =>
mg t29 false (fun o17 => enterK C F.cursor_Cursor_Behind [t31] h17 o17) h17 fun t32 h18 =>
mg t29 false (fun o18 => o18 a1 h18) h18 fun t33 h19 =>
mg t29 false (fun o19 => bareK (xnilCheck t33) h19 o19) h19 fun t34 h20 =>
mg t29 false (fun o20 => bareK (fad 3 t34) h20 o20) h20 fun t35 h21 =>
mg t29 false (fun o21 => bareK (ld1 h21 t35) h21 o21) h21 fun t36 h22 =>
mg t29 false (fun o22 => bareK (xbin P .gtr T.int (.tmp 36) (.const (.int .i64 0)) t36 (.int .i64 0)) h22 o22) h22 fun t37 h23 =>
mg t29 false (fun o23 => bareK (xbin P .neq T.bool (.tmp 32) (.tmp 37) t32 t37) h23 o23) h23 fun t38 h24 =>
pickK t29 (.bool true) t38 fun t39 =>
mg t39 false (fun o24 => o24 a0 h24) h24 fun t41 h25 =>
mg t39 false (fun o25 => o25 a2 h25) h25 fun t42 h26 =>
mg t39 false (fun o26 => o26 a1 h26) h26 fun t43 h27 =>
mg t39 false (fun o27 => o27 a2 h27) h27 fun t44 h28 =>
mg t39 false (fun o28 => enterK C F.law_Model_rest [t43, t44] h28 o28) h28 fun t45 h29 =>
mg t39 false (fun o29 => enterK C F.law_rests [t41, t42, t45, (.int .i64 0)] h29 o29) h29 fun t46 h30 =>
mg t39 false (fun o30 => bareK (xun P .not t46) h30 o30) h30 fun t47 h31 =>
pickK t39 (.bool true) t47 fun t48 =>
checkK (okV (goesV t10 false) none h2 h3 h3 h4 && (okV (goesV t10 false) none h2 h3 h4 h5 && (okV (goesV t10 false) none h2 h3 h5 h6 && (okV (goesV t10 false) (blockOf t16) h2 h3 h6 h7 && (okV (goesV t19 false) none h9 h10 h10 h11 && (okV (goesV t19 false) none h9 h10 h11 h12 && (okV (goesV t19 false) none h9 h10 h12 h13 && (okV (goesV t19 false) (blockOf t25) h9 h10 h13 h14 && (okV (goesV t19 false) none h9 h10 h14 h15 && (okV (goesV t29 false) none h17 h18 h18 h19 && (okV (goesV t29 false) none h17 h18 h19 h20 && (okV (goesV t29 false) none h17 h18 h20 h21 && (okV (goesV t29 false) (blockOf t35) h17 h18 h21 h22 && (okV (goesV t29 false) none h17 h18 h22 h23 && (okV (goesV t39 false) none h28 h29 h24 h25 && (okV (goesV t39 false) none h28 h29 h25 h26 && true)))))))))))))))) <|
mc t48 (fun k31 => k31 .ret [(6, (.bool false))] h31) (fun k31 =>
k31 .normal [(0, a0), (1, a1), (2, a2)] h31) (seqK (fun tT h32 =>
bareK (xnilCheck (get tT 1)) h32 fun t52 h33 =>
bareK (fad 2 t52) h33 fun t53 h34 =>
bareK (ld1 h34 t53) h34 fun t54 h35 =>
enterK C F.model_Model_Get [(get tT 2), t54] h35 fun t55 h36 =>
bareK (xextract t55 0) h36 fun t56 h37 =>
bareK (xextract t55 1) h37 fun t57 h38 =>
bareK (xnilCheck (get tT 1)) h38 fun t59 h39 =>
bareK (fad 3 t59) h39 fun t60 h40 =>
bareK (ld1 h40 t60) h40 fun t61 h41 =>
bareK (xbin P .eql T.int (.tmp 61) (.const (.int .i64 0)) t61 (.int .i64 0)) h41 fun t62 h42 =>
mg t62 true (fun o32 => o32 t57 h42) h42 fun t64 h43 =>
mg t62 true (fun o33 => bareK (xbin P .eql T.api_Errno (.tmp 64) (.const (.int .i64 0)) t64 (.int .i64 0)) h43 o33) h43 fun t65 h44 =>
pickK t62 t65 (.bool false) fun t66 =>
mc t66 (fun k34 => bareK (xnilCheck (get tT 1)) h44 fun t70 h45 =>
bareK (fad 2 t70) h45 fun t71 h46 =>
bareK (ld1 h46 t71) h46 fun t72 h47 =>
enterK C F.law_sees [(get tT 0), (get tT 2), t72, t56, (.int .i64 0)] h47 fun t74 h48 =>
k34 .ret [(6, t74)] h48) (fun k34 =>
k34 .normal [(0, (get tT 0)), (2, (get tT 2))] h44) (seqK (fun tT_1 h49 =>
enterK C F.law_sees [(get tT_1 0), (get tT_1 2), (.string (mk [])), (.string (mk [])), (.int .i64 9)] h49 fun t77 h50 =>
K0 .ret [(6, t77)] h50) K0)) K0)

theorem s_law_alike_eq (M : CombL) (C : CallF) (LP : LoopH) (a0 : Value) (a1 : Value) (a2 : Value) (H : AHeap) : dBodyL M Try.prog hints C LP F.law_alike [a0, a1, a2] H = s_law_alike M.b.g M.c M.s Try.prog C a0 a1 a2 H (endK Try.prog [.tmp 6]) := by kernel_rfl

/-! ticketline.ticketlinelaw42.next -/

noncomputable def s_law_next (mg : GT) (mc : CT) (ms : ST) (P : Program) (C : CallF) (a0 : Value) (a1 : Value) (a2 : Value) (a3 : Value) (a4 : Value) (H : AHeap) (K0 : K) : Res :=
enterK C F.cursor_Cursor_Next [a0, a1] H fun t16 h1 =>
bareK (xextract t16 0) h1 fun t17 h2 =>
bareK (xextract t16 1) h2 fun t18 h3 =>
bothK (newv T.api_Pair (.agg #[(.string (mk [])), (.string (mk []))]) h3) fun t11 h4 =>
quietK (stN 2 h4 t11 t17) fun _ h5 =>
bareK (fad 0 t11) h5 fun t19 h6 =>
bareK (ld1 h6 t19) h6 fun t20 h7 =>
bareK (xbin P .eql T.string (.tmp 20) (.tmp 21) t20 a2) h7 fun t22 h8 =>
mg t22 true (fun o1 => bareK (fad 1 t11) h8 o1) h8 fun t24 h9 =>
mg t22 true (fun o2 => bareK (ld1 h9 t24) h9 o2) h9 fun t25 h10 =>
mg t22 true (fun o3 => o3 a3 h10) h10 fun t26 h11 =>
mg t22 true (fun o4 => bareK (xbin P .eql T.string (.tmp 25) (.tmp 26) t25 t26) h11 o4) h11 fun t27 h12 =>
pickK t22 t27 (.bool false) fun t28 =>
mg t28 true (fun o5 => o5 t18 h12) h12 fun t30 h13 =>
mg t28 true (fun o6 => o6 a4 h13) h13 fun t31 h14 =>
mg t28 true (fun o7 => bareK (xbin P .eql T.int (.tmp 30) (.tmp 31) t30 t31) h14 o7) h14 fun t32 h15 =>
pickK t28 t32 (.bool false) fun t33 =>
K0 .ret [(10, t33)] h15

theorem s_law_next_eq (M : CombL) (C : CallF) (LP : LoopH) (a0 : Value) (a1 : Value) (a2 : Value) (a3 : Value) (a4 : Value) (H : AHeap) : dBodyL M Try.prog hints C LP F.law_next [a0, a1, a2, a3, a4] H = s_law_next M.b.g M.c M.s Try.prog C a0 a1 a2 a3 a4 H (endK Try.prog [.tmp 10]) := by kernel_rfl

/-! ticketline.ticketlinelaw42.prev -/

noncomputable def s_law_prev (mg : GT) (mc : CT) (ms : ST) (P : Program) (C : CallF) (a0 : Value) (a1 : Value) (a2 : Value) (a3 : Value) (a4 : Value) (H : AHeap) (K0 : K) : Res :=
enterK C F.cursor_Cursor_Prev [a0, a1] H fun t16 h1 =>
bareK (xextract t16 0) h1 fun t17 h2 =>
bareK (xextract t16 1) h2 fun t18 h3 =>
bothK (newv T.api_Pair (.agg #[(.string (mk [])), (.string (mk []))]) h3) fun t11 h4 =>
quietK (stN 2 h4 t11 t17) fun _ h5 =>
bareK (fad 0 t11) h5 fun t19 h6 =>
bareK (ld1 h6 t19) h6 fun t20 h7 =>
bareK (xbin P .eql T.string (.tmp 20) (.tmp 21) t20 a2) h7 fun t22 h8 =>
mg t22 true (fun o1 => bareK (fad 1 t11) h8 o1) h8 fun t24 h9 =>
mg t22 true (fun o2 => bareK (ld1 h9 t24) h9 o2) h9 fun t25 h10 =>
mg t22 true (fun o3 => o3 a3 h10) h10 fun t26 h11 =>
mg t22 true (fun o4 => bareK (xbin P .eql T.string (.tmp 25) (.tmp 26) t25 t26) h11 o4) h11 fun t27 h12 =>
pickK t22 t27 (.bool false) fun t28 =>
mg t28 true (fun o5 => o5 t18 h12) h12 fun t30 h13 =>
mg t28 true (fun o6 => o6 a4 h13) h13 fun t31 h14 =>
mg t28 true (fun o7 => bareK (xbin P .eql T.int (.tmp 30) (.tmp 31) t30 t31) h14 o7) h14 fun t32 h15 =>
pickK t28 t32 (.bool false) fun t33 =>
K0 .ret [(10, t33)] h15

theorem s_law_prev_eq (M : CombL) (C : CallF) (LP : LoopH) (a0 : Value) (a1 : Value) (a2 : Value) (a3 : Value) (a4 : Value) (H : AHeap) : dBodyL M Try.prog hints C LP F.law_prev [a0, a1, a2, a3, a4] H = s_law_prev M.b.g M.c M.s Try.prog C a0 a1 a2 a3 a4 H (endK Try.prog [.tmp 10]) := by kernel_rfl

/-! ticketline.ticketlinelaw42.seek -/

noncomputable def s_law_seek (mg : GT) (mc : CT) (ms : ST) (P : Program) (C : CallF) (a0 : Value) (a1 : Value) (a2 : Value) (a3 : Value) (a4 : Value) (a5 : Value) (H : AHeap) (K0 : K) : Res :=
enterK C F.cursor_Cursor_Seek [a0, a1, a2] H fun t19 h1 =>
bareK (xextract t19 0) h1 fun t20 h2 =>
bareK (xextract t19 1) h2 fun t21 h3 =>
bothK (newv T.api_Pair (.agg #[(.string (mk [])), (.string (mk []))]) h3) fun t13 h4 =>
quietK (stN 2 h4 t13 t20) fun _ h5 =>
bareK (fad 0 t13) h5 fun t22 h6 =>
bareK (ld1 h6 t22) h6 fun t23 h7 =>
bareK (xbin P .eql T.string (.tmp 23) (.tmp 24) t23 a3) h7 fun t25 h8 =>
mg t25 true (fun o1 => bareK (fad 1 t13) h8 o1) h8 fun t27 h9 =>
mg t25 true (fun o2 => bareK (ld1 h9 t27) h9 o2) h9 fun t28 h10 =>
mg t25 true (fun o3 => o3 a4 h10) h10 fun t29 h11 =>
mg t25 true (fun o4 => bareK (xbin P .eql T.string (.tmp 28) (.tmp 29) t28 t29) h11 o4) h11 fun t30 h12 =>
pickK t25 t30 (.bool false) fun t31 =>
mg t31 true (fun o5 => o5 t21 h12) h12 fun t33 h13 =>
mg t31 true (fun o6 => o6 a5 h13) h13 fun t34 h14 =>
mg t31 true (fun o7 => bareK (xbin P .eql T.int (.tmp 33) (.tmp 34) t33 t34) h14 o7) h14 fun t35 h15 =>
pickK t31 t35 (.bool false) fun t36 =>
K0 .ret [(12, t36)] h15

theorem s_law_seek_eq (M : CombL) (C : CallF) (LP : LoopH) (a0 : Value) (a1 : Value) (a2 : Value) (a3 : Value) (a4 : Value) (a5 : Value) (H : AHeap) : dBodyL M Try.prog hints C LP F.law_seek [a0, a1, a2, a3, a4, a5] H = s_law_seek M.b.g M.c M.s Try.prog C a0 a1 a2 a3 a4 a5 H (endK Try.prog [.tmp 12]) := by kernel_rfl

/-! ticketline.ticketlinelaw42.sees -/

noncomputable def s_law_sees (mg : GT) (mc : CT) (ms : ST) (P : Program) (C : CallF) (a0 : Value) (a1 : Value) (a2 : Value) (a3 : Value) (a4 : Value) (H : AHeap) (K0 : K) : Res :=
enterK C F.cursor_Cursor_See [a0, a1] H fun t16 h1 =>
bareK (xextract t16 0) h1 fun t17 h2 =>
bareK (xextract t16 1) h2 fun t18 h3 =>
bothK (newv T.api_Pair (.agg #[(.string (mk [])), (.string (mk []))]) h3) fun t11 h4 =>
quietK (stN 2 h4 t11 t17) fun _ h5 =>
bareK (fad 0 t11) h5 fun t19 h6 =>
bareK (ld1 h6 t19) h6 fun t20 h7 =>
bareK (xbin P .eql T.string (.tmp 20) (.tmp 21) t20 a2) h7 fun t22 h8 =>
mg t22 true (fun o1 => bareK (fad 1 t11) h8 o1) h8 fun t24 h9 =>
mg t22 true (fun o2 => bareK (ld1 h9 t24) h9 o2) h9 fun t25 h10 =>
mg t22 true (fun o3 => o3 a3 h10) h10 fun t26 h11 =>
mg t22 true (fun o4 => bareK (xbin P .eql T.string (.tmp 25) (.tmp 26) t25 t26) h11 o4) h11 fun t27 h12 =>
pickK t22 t27 (.bool false) fun t28 =>
mg t28 true (fun o5 => o5 t18 h12) h12 fun t30 h13 =>
mg t28 true (fun o6 => o6 a4 h13) h13 fun t31 h14 =>
mg t28 true (fun o7 => bareK (xbin P .eql T.int (.tmp 30) (.tmp 31) t30 t31) h14 o7) h14 fun t32 h15 =>
pickK t28 t32 (.bool false) fun t33 =>
K0 .ret [(10, t33)] h15

theorem s_law_sees_eq (M : CombL) (C : CallF) (LP : LoopH) (a0 : Value) (a1 : Value) (a2 : Value) (a3 : Value) (a4 : Value) (H : AHeap) : dBodyL M Try.prog hints C LP F.law_sees [a0, a1, a2, a3, a4] H = s_law_sees M.b.g M.c M.s Try.prog C a0 a1 a2 a3 a4 H (endK Try.prog [.tmp 10]) := by kernel_rfl

/-! ticketline.ticketlinelaw42.rests -/

noncomputable def s_law_rests (mg : GT) (mc : CT) (ms : ST) (P : Program) (C : CallF) (L0 : Value → Value → Value → AHeap → K → Res) (a0 : Value) (a1 : Value) (a2 : Value) (a3 : Value) (H : AHeap) (K0 : K) : Res :=
enterK C F.cursor_Cursor_Rest [a0, a1] H fun t15 h1 =>
bareK (xextract t15 0) h1 fun t16 h2 =>
bareK (xextract t15 1) h2 fun t17 h3 =>
bareK (lenS t16) h3 fun t19 h4 =>
bareK (lenS a2) h4 fun t21 h5 =>
bareK (xbin P .neq T.int (.tmp 19) (.tmp 21) t19 t21) h5 fun t22 h6 =>
mg t22 false (fun o1 => o1 t17 h6) h6 fun t24 h7 =>
mg t22 false (fun o2 => o2 a3 h7) h7 fun t25 h8 =>
mg t22 false (fun o3 => bareK (xbin P .neq T.int (.tmp 24) (.tmp 25) t24 t25) h8 o3) h8 fun t26 h9 =>
pickK t22 (.bool true) t26 fun t27 =>
mc t27 (fun k4 => k4 .ret [(8, (.bool false))] h9) (fun k4 =>
k4 .normal [(2, a2), (9, t16)] h9) (seqK (fun tT h10 =>
ms (fun k5 =>
L0 (get tT 2) (get tT 9) (.int .i64 0) h10 (blkK [] 0 k5)) (seqK (fun tT_1 h11 =>
K0 .ret [(8, (.bool true))] h11) K0)) K0)

noncomputable def s_law_rests_b0 (mg : GT) (mc : CT) (ms : ST) (P : Program) (C : CallF) (L0 : Value → Value → Value → AHeap → K → Res) (v2 : Value) (v9 : Value) (v11 : Value) (H : AHeap) (k : K) : Res :=
bareK (lenS v9) H fun t30 h11 =>
bareK (xbin P .lss T.int (.tmp 28) (.tmp 30) v11 t30) h11 fun t31 h12 =>
mc t31 (fun k6 => k6 .normal [(2, v2), (9, v9), (11, v11)] h12) (fun k6 =>
k6 (.exit 0) [(31, t31), (30, t30), (29, v9), (28, v11), (2, v2), (9, v9), (11, v11)] h12) (seqK (fun tT h13 =>
ms (fun k7 =>
bareK (ixS 2 (get tT 9) (get tT 11)) h13 fun t36 h14 =>
bareK (ldN 2 h14 t36) h14 fun t37 h15 =>
bareK (ixS 2 (get tT 2) (get tT 11)) h15 fun t40 h16 =>
bareK (ldN 2 h16 t40) h16 fun t41 h17 =>
bareK (xbin P .neq T.api_Pair (.tmp 37) (.tmp 41) t37 t41) h17 fun t42 h18 =>
checkK true <|
mc t42 (fun k8 => k8 .ret [(8, (.bool false))] h18) (fun k8 =>
k8 .normal [(2, (get tT 2)), (9, (get tT 9)), (11, (get tT 11))] h18) (blkK [2, 9, 11] 1 k7)) (seqK (fun tT_1 h19 =>
bareK (xbin P .add T.int (.tmp 32) (.const (.int .i64 1)) (get tT_1 11) (.int .i64 1)) h19 fun t33 h20 =>
k .normal [(2, (get tT_1 2)), (9, (get tT_1 9)), (11, t33)] h20) (afterK [2, 9, 11] k))) (afterK [2, 9, 11] k))

theorem s_law_rests_eq (M : CombL) (C : CallF) (LP : LoopH) (a0 : Value) (a1 : Value) (a2 : Value) (a3 : Value) (H : AHeap) : dBodyL M Try.prog hints C LP F.law_rests [a0, a1, a2, a3] H = s_law_rests M.b.g M.c M.s Try.prog C (fun v2 v9 v11 H k => loopL M Try.prog hints C LP F.law_rests 0 [(2, v2), (9, v9), (11, v11)] H k) a0 a1 a2 a3 H (endK Try.prog [.tmp 8]) := by kernel_rfl

theorem s_law_rests_b0_eq (M : CombL) (C : CallF) (LP : LoopH) (v2 : Value) (v9 : Value) (v11 : Value) (H : AHeap) (k : K) : bodyL M Try.prog hints C LP F.law_rests 0 [(2, v2), (9, v9), (11, v11)] H (afterK [2, 9, 11] k) = s_law_rests_b0 M.b.g M.c M.s Try.prog C (fun v2 v9 v11 H k => loopL M Try.prog hints C LP F.law_rests 0 [(2, v2), (9, v9), (11, v11)] H k) v2 v9 v11 H k := by kernel_rfl

/-! (*ticketline.cursor.Cursor).At -/

noncomputable def s_cursor_Cursor_At (mg : GT) (mc : CT) (ms : ST) (P : Program) (C : CallF) (a0 : Value) (H : AHeap) (K0 : K) : Res :=
enterK C F.cursor_Cursor_zero [a0] H fun t4 h1 =>
mc t4 (fun k1 => k1 .ret [(2, (.string (mk [])))] h1) (fun k1 =>
k1 .normal [(0, a0)] h1) (seqK (fun tT h2 =>
bareK (xnilCheck (get tT 0)) h2 fun t6 h3 =>
bareK (fad 3 t6) h3 fun t7 h4 =>
bareK (ld1 h4 t7) h4 fun t8 h5 =>
K0 .ret [(2, t8)] h5) K0)

theorem s_cursor_Cursor_At_eq (M : CombL) (C : CallF) (LP : LoopH) (a0 : Value) (H : AHeap) : dBodyL M Try.prog hints C LP F.cursor_Cursor_At [a0] H = s_cursor_Cursor_At M.b.g M.c M.s Try.prog C a0 H (endK Try.prog [.tmp 2]) := by kernel_rfl

/-! (*ticketline.cursor.Cursor).Before -/

noncomputable def s_cursor_Cursor_Before (mg : GT) (mc : CT) (ms : ST) (P : Program) (C : CallF) (a0 : Value) (H : AHeap) (K0 : K) : Res :=
enterK C F.cursor_Cursor_zero [a0] H fun t4 h1 =>
bareK (xun P .not t4) h1 fun t5 h2 =>
mg t5 true (fun o1 => o1 a0 h2) h2 fun t7 h3 =>
mg t5 true (fun o2 => bareK (xnilCheck t7) h3 o2) h3 fun t8 h4 =>
mg t5 true (fun o3 => bareK (fad 2 t8) h4 o3) h4 fun t9 h5 =>
mg t5 true (fun o4 => bareK (ld1 h5 t9) h5 o4) h5 fun t10 h6 =>
mg t5 true (fun o5 => bareK (xbin P .eql T.cursor_side (.tmp 10) (.const (.int .i64 1)) t10 (.int .i64 1)) h6 o5) h6 fun t11 h7 =>
pickK t5 t11 (.bool false) fun t12 =>
K0 .ret [(2, t12)] h7

theorem s_cursor_Cursor_Before_eq (M : CombL) (C : CallF) (LP : LoopH) (a0 : Value) (H : AHeap) : dBodyL M Try.prog hints C LP F.cursor_Cursor_Before [a0] H = s_cursor_Cursor_Before M.b.g M.c M.s Try.prog C a0 H (endK Try.prog [.tmp 2]) := by kernel_rfl

/-! (*ticketline.cursor.Cursor).Behind -/

noncomputable def s_cursor_Cursor_Behind (mg : GT) (mc : CT) (ms : ST) (P : Program) (C : CallF) (a0 : Value) (H : AHeap) (K0 : K) : Res :=
enterK C F.cursor_Cursor_zero [a0] H fun t4 h1 =>
bareK (xun P .not t4) h1 fun t5 h2 =>
mg t5 true (fun o1 => o1 a0 h2) h2 fun t7 h3 =>
mg t5 true (fun o2 => bareK (xnilCheck t7) h3 o2) h3 fun t8 h4 =>
mg t5 true (fun o3 => bareK (fad 2 t8) h4 o3) h4 fun t9 h5 =>
mg t5 true (fun o4 => bareK (ld1 h5 t9) h5 o4) h5 fun t10 h6 =>
mg t5 true (fun o5 => bareK (xbin P .eql T.cursor_side (.tmp 10) (.const (.int .i64 3)) t10 (.int .i64 3)) h6 o5) h6 fun t11 h7 =>
pickK t5 t11 (.bool false) fun t12 =>
K0 .ret [(2, t12)] h7

theorem s_cursor_Cursor_Behind_eq (M : CombL) (C : CallF) (LP : LoopH) (a0 : Value) (H : AHeap) : dBodyL M Try.prog hints C LP F.cursor_Cursor_Behind [a0] H = s_cursor_Cursor_Behind M.b.g M.c M.s Try.prog C a0 H (endK Try.prog [.tmp 2]) := by kernel_rfl

/-! (*ticketline.cursor.Cursor).Copy -/

noncomputable def s_cursor_Cursor_Copy (mg : GT) (mc : CT) (ms : ST) (P : Program) (C : CallF) (a0 : Value) (H : AHeap) (K0 : K) : Res :=
enterK C F.cursor_Cursor_zero [a0] H fun t5 h1 =>
mc t5 (fun k1 => k1 .ret [(2, (.pointer none))] h1) (fun k1 =>
k1 .normal [(0, a0)] h1) (seqK (fun tT h2 =>
bareK (xnilCheck (get tT 0)) h2 fun t7 h3 =>
bareK (ldN 4 h3 t7) h3 fun t8 h4 =>
bothK (newv T.cursor_Cursor (.agg #[(.string (mk [])), (.string (mk [])), (.int .i64 0), (.string (mk []))]) h4) fun t3 h5 =>
quietK (stN 4 h5 t3 t8) fun _ h6 =>
K0 .ret [(2, t3)] h6) K0)

theorem s_cursor_Cursor_Copy_eq (M : CombL) (C : CallF) (LP : LoopH) (a0 : Value) (H : AHeap) : dBodyL M Try.prog hints C LP F.cursor_Cursor_Copy [a0] H = s_cursor_Cursor_Copy M.b.g M.c M.s Try.prog C a0 H (endK Try.prog [.tmp 2]) := by kernel_rfl

/-! ticketline.ticketlinelaw42.small -/

noncomputable def s_law_small (mg : GT) (mc : CT) (ms : ST) (P : Program) (C : CallF) (L0 : Value → Value → Value → AHeap → K → Res) (a0 : Value) (a1 : Value) (H : AHeap) (K0 : K) : Res :=
ms (fun k1 =>
L0 a0 a1 (.int .i64 0) H (blkK [0, 1] 0 k1)) (seqK (fun tT h1 =>
bareK (lenS (get tT 0)) h1 fun t34 h2 =>
bareK (xbin P .leq T.int (.tmp 34) (.tmp 35) t34 (get tT 1)) h2 fun t36 h3 =>
K0 .ret [(4, t36)] h3) K0)

noncomputable def s_law_small_b0 (mg : GT) (mc : CT) (ms : ST) (P : Program) (C : CallF) (L0 : Value → Value → Value → AHeap → K → Res) (v0 : Value) (v1 : Value) (v5 : Value) (H : AHeap) (k : K) : Res :=
bareK (lenS v0) H fun t8 h1 =>
bareK (xbin P .lss T.int (.tmp 6) (.tmp 8) v5 t8) h1 fun t9 h2 =>
mg t9 true (fun o2 => o2 v5 h2) h2 fun t11 h3 =>
mg t9 true (fun o3 => o3 v1 h3) h3 fun t12 h4 =>
mg t9 true (fun o4 => bareK (xbin P .lss T.int (.tmp 11) (.tmp 12) t11 t12) h4 o4) h4 fun t13 h5 =>
pickK t9 t13 (.bool false) fun t14 =>
mc t14 (fun k5 => k5 .normal [(0, v0), (1, v1), (5, v5)] h5) (fun k5 =>
k5 (.exit 0) [(14, t14), (13, t13), (12, t12), (11, t11), (10, t9), (9, t9), (8, t8), (7, v0), (6, v5), (0, v0), (1, v1), (5, v5)] h5) (seqK (fun tT h6 =>
ms (fun k6 =>
bareK (ixS 3 (get tT 0) (get tT 5)) h6 fun t19 h7 =>
bareK (fad 1 t19) h7 fun t20 h8 =>
bareK (ld1 h8 t20) h8 fun t21 h9 =>
bareK (lenT t21) h9 fun t22 h10 =>
bareK (xbin P .gtr T.int (.tmp 22) (.const (.int .i64 30)) t22 (.int .i64 30)) h10 fun t23 h11 =>
mg t23 false (fun o7 => o7 (get tT 0) h11) h11 fun t25 h12 =>
mg t23 false (fun o8 => o8 (get tT 5) h12) h12 fun t26 h13 =>
mg t23 false (fun o9 => bareK (ixS 3 t25 t26) h13 o9) h13 fun t27 h14 =>
mg t23 false (fun o10 => bareK (fad 2 t27) h14 o10) h14 fun t28 h15 =>
mg t23 false (fun o11 => bareK (ld1 h15 t28) h15 o11) h15 fun t29 h16 =>
mg t23 false (fun o12 => bareK (lenT t29) h16 o12) h16 fun t30 h17 =>
mg t23 false (fun o13 => bareK (xbin P .gtr T.int (.tmp 30) (.const (.int .i64 44)) t30 (.int .i64 44)) h17 o13) h17 fun t31 h18 =>
pickK t23 (.bool true) t31 fun t32 =>
mc t32 (fun k14 => k14 .ret [(4, (.bool false))] h18) (fun k14 =>
k14 .normal [(0, (get tT 0)), (1, (get tT 1)), (5, (get tT 5))] h18) (blkK [0, 1, 5] 1 k6)) (seqK (fun tT_1 h19 =>
bareK (xbin P .add T.int (.tmp 15) (.const (.int .i64 1)) (get tT_1 5) (.int .i64 1)) h19 fun t16 h20 =>
k .normal [(0, (get tT_1 0)), (1, (get tT_1 1)), (5, t16)] h20) (afterK [0, 1, 5] k))) (afterK [0, 1, 5] k))

theorem s_law_small_eq (M : CombL) (C : CallF) (LP : LoopH) (a0 : Value) (a1 : Value) (H : AHeap) : dBodyL M Try.prog hints C LP F.law_small [a0, a1] H = s_law_small M.b.g M.c M.s Try.prog C (fun v0 v1 v5 H k => loopL M Try.prog hints C LP F.law_small 0 [(0, v0), (1, v1), (5, v5)] H k) a0 a1 H (endK Try.prog [.tmp 4]) := by kernel_rfl

theorem s_law_small_b0_eq (M : CombL) (C : CallF) (LP : LoopH) (v0 : Value) (v1 : Value) (v5 : Value) (H : AHeap) (k : K) : bodyL M Try.prog hints C LP F.law_small 0 [(0, v0), (1, v1), (5, v5)] H (afterK [0, 1, 5] k) = s_law_small_b0 M.b.g M.c M.s Try.prog C (fun v0 v1 v5 H k => loopL M Try.prog hints C LP F.law_small 0 [(0, v0), (1, v1), (5, v5)] H k) v0 v1 v5 H k := by kernel_rfl

/-! (*ticketline.ticketlinelaw42.Model).next -/

noncomputable def s_law_Model_next (mg : GT) (mc : CT) (ms : ST) (P : Program) (C : CallF) (a0 : Value) (a1 : Value) (H : AHeap) (K0 : K) : Res :=
bothK (newv T.api_Pair (.agg #[(.string (mk [])), (.string (mk []))]) H) fun t4 h1 =>
enterK C F.law_Model_rest [a0, a1] h1 fun t9 h2 =>
bareK (lenS t9) h2 fun t11 h3 =>
bareK (xbin P .eql T.int (.tmp 11) (.const (.int .i64 0)) t11 (.int .i64 0)) h3 fun t12 h4 =>
mc t12 (fun k1 => bareK (bldS #[(.string (mk [])), (.string (mk []))] [(0, 1), (1, 1)] []) h4 fun t14 h5 =>
enterK C F.law_Model_to [a0, t14, (.bool false), (.int .i64 1)] h5 fun t15 h6 =>
bareK (xextract t15 0) h6 fun t16 h7 =>
bareK (xextract t15 1) h7 fun t17 h8 =>
quietK (stN 2 h8 t4 t16) fun _ h9 =>
k1 .ret [(4, t4), (5, t17)] h9) (fun k1 =>
k1 .normal [(0, a0), (4, t4), (6, t9)] h4) (seqK (fun tT h10 =>
bareK (ixS 2 (get tT 6) (.int .i64 0)) h10 fun t20 h11 =>
bareK (ldN 2 h11 t20) h11 fun t21 h12 =>
enterK C F.law_Model_to [(get tT 0), t21, (.bool true), (.int .i64 1)] h12 fun t22 h13 =>
bareK (xextract t22 0) h13 fun t23 h14 =>
bareK (xextract t22 1) h14 fun t24 h15 =>
quietK (stN 2 h15 (get tT 4) t23) fun _ h16 =>
K0 .ret [(4, (get tT 4)), (5, t24)] h16) K0)

theorem s_law_Model_next_eq (M : CombL) (C : CallF) (LP : LoopH) (a0 : Value) (a1 : Value) (H : AHeap) : dBodyL M Try.prog hints C LP F.law_Model_next [a0, a1] H = s_law_Model_next M.b.g M.c M.s Try.prog C a0 a1 H (endK Try.prog [.cell 4 T.api_Pair, .tmp 5]) := by kernel_rfl

/-! (*ticketline.ticketlinelaw42.Model).prev -/

noncomputable def s_law_Model_prev (mg : GT) (mc : CT) (ms : ST) (P : Program) (C : CallF) (L0 : Value → Value → Value → Value → AHeap → K → Res) (a0 : Value) (a1 : Value) (H : AHeap) (K0 : K) : Res :=
bothK (newv T.api_Pair (.agg #[(.string (mk [])), (.string (mk []))]) H) fun t4 h1 =>
enterK C F.law_Model_list [a0, a1] h1 fun t10 h2 =>
bareK (lenS t10) h2 fun t12 h3 =>
bareK (xbin P .sub T.int (.tmp 12) (.const (.int .i64 1)) t12 (.int .i64 1)) h3 fun t13 h4 =>
ms (fun k1 =>
L0 a0 t4 t10 t13 h4 (blkK [0, 4] 0 k1)) (seqK (fun tT h5 =>
bareK (bldS #[(.string (mk [])), (.string (mk []))] [(0, 1), (1, 1)] []) h5 fun t51 h6 =>
enterK C F.law_Model_to [(get tT 0), t51, (.bool false), (.int .i64 (-1))] h6 fun t52 h7 =>
bareK (xextract t52 0) h7 fun t53 h8 =>
bareK (xextract t52 1) h8 fun t54 h9 =>
quietK (stN 2 h9 (get tT 4) t53) fun _ h10 =>
K0 .ret [(4, (get tT 4)), (5, t54)] h10) K0)

noncomputable def s_law_Model_prev_b0 (mg : GT) (mc : CT) (ms : ST) (P : Program) (C : CallF) (L0 : Value → Value → Value → Value → AHeap → K → Res) (v0 : Value) (v4 : Value) (v6 : Value) (v7 : Value) (H : AHeap) (k : K) : Res :=
bareK (xbin P .geq T.int (.tmp 14) (.const (.int .i64 0)) v7 (.int .i64 0)) H fun t15 h5 =>
mc t15 (fun k2 => k2 .normal [(0, v0), (4, v4), (6, v6), (7, v7)] h5) (fun k2 =>
k2 (.exit 0) [(15, t15), (14, v7), (0, v0), (4, v4), (6, v6), (7, v7)] h5) (seqK (fun tT h6 =>
ms (fun k3 =>
bareK (xnilCheck (get tT 0)) h6 fun t19 h7 =>
bareK (fad 3 t19) h7 fun t20 h8 =>
bareK (ld1 h8 t20) h8 fun t21 h9 =>
bareK (xbin P .gtr T.int (.tmp 21) (.const (.int .i64 0)) t21 (.int .i64 0)) h9 fun t22 h10 =>
mg t22 false (fun o4 => o4 (get tT 0) h10) h10 fun t24 h11 =>
mg t22 false (fun o5 => bareK (xnilCheck t24) h11 o5) h11 fun t25 h12 =>
mg t22 false (fun o6 => bareK (fad 3 t25) h12 o6) h12 fun t26 h13 =>
mg t22 false (fun o7 => bareK (ld1 h13 t26) h13 o7) h13 fun t27 h14 =>
mg t22 false (fun o8 => bareK (xbin P .eql T.int (.tmp 27) (.const (.int .i64 0)) t27 (.int .i64 0)) h14 o8) h14 fun t28 h15 =>
mg t22 false (fun o9 => o9 t28 h15) h15 fun t29 h16 =>
mg t29 true (fun o10 => o10 (get tT 6) h16) h16 fun t30 h17 =>
mg t29 true (fun o11 => o11 (get tT 7) h17) h17 fun t31 h18 =>
mg t29 true (fun o12 => bareK (ixS 2 t30 t31) h18 o12) h18 fun t32 h19 =>
mg t29 true (fun o13 => bareK (fad 0 t32) h19 o13) h19 fun t33 h20 =>
mg t29 true (fun o14 => bareK (ld1 h20 t33) h20 o14) h20 fun t34 h21 =>
mg t29 true (fun o15 => o15 (get tT 0) h21) h21 fun t35 h22 =>
mg t29 true (fun o16 => bareK (xnilCheck t35) h22 o16) h22 fun t36 h23 =>
mg t29 true (fun o17 => bareK (fad 2 t36) h23 o17) h23 fun t37 h24 =>
mg t29 true (fun o18 => bareK (ld1 h24 t37) h24 o18) h24 fun t38 h25 =>
mg t29 true (fun o19 => bareK (xbin P .lss T.string (.tmp 34) (.tmp 38) t34 t38) h25 o19) h25 fun t39 h26 =>
mg t22 false (fun o20 => pickK t29 t39 (.bool false) fun v => o20 v h26) h26 fun t40 h27 =>
pickK t22 (.bool true) t40 fun t41 =>
checkK true <|
mc t41 (fun k21 => bareK (ixS 2 (get tT 6) (get tT 7)) h27 fun t45 h28 =>
bareK (ldN 2 h28 t45) h28 fun t46 h29 =>
enterK C F.law_Model_to [(get tT 0), t46, (.bool true), (.int .i64 (-1))] h29 fun t47 h30 =>
bareK (xextract t47 0) h30 fun t48 h31 =>
bareK (xextract t47 1) h31 fun t49 h32 =>
quietK (stN 2 h32 (get tT 4) t48) fun _ h33 =>
k21 .ret [(4, (get tT 4)), (5, t49)] h33) (fun k21 =>
k21 .normal [(0, (get tT 0)), (4, (get tT 4)), (6, (get tT 6)), (7, (get tT 7))] h27) (blkK [0, 4, 6, 7] 1 k3)) (seqK (fun tT_1 h34 =>
bareK (xbin P .sub T.int (.tmp 16) (.const (.int .i64 1)) (get tT_1 7) (.int .i64 1)) h34 fun t17 h35 =>
k .normal [(0, (get tT_1 0)), (4, (get tT_1 4)), (6, (get tT_1 6)), (7, t17)] h35) (afterK [0, 4, 6, 7] k))) (afterK [0, 4, 6, 7] k))

theorem s_law_Model_prev_eq (M : CombL) (C : CallF) (LP : LoopH) (a0 : Value) (a1 : Value) (H : AHeap) : dBodyL M Try.prog hints C LP F.law_Model_prev [a0, a1] H = s_law_Model_prev M.b.g M.c M.s Try.prog C (fun v0 v4 v6 v7 H k => loopL M Try.prog hints C LP F.law_Model_prev 0 [(0, v0), (4, v4), (6, v6), (7, v7)] H k) a0 a1 H (endK Try.prog [.cell 4 T.api_Pair, .tmp 5]) := by kernel_rfl

theorem s_law_Model_prev_b0_eq (M : CombL) (C : CallF) (LP : LoopH) (v0 : Value) (v4 : Value) (v6 : Value) (v7 : Value) (H : AHeap) (k : K) : bodyL M Try.prog hints C LP F.law_Model_prev 0 [(0, v0), (4, v4), (6, v6), (7, v7)] H (afterK [0, 4, 6, 7] k) = s_law_Model_prev_b0 M.b.g M.c M.s Try.prog C (fun v0 v4 v6 v7 H k => loopL M Try.prog hints C LP F.law_Model_prev 0 [(0, v0), (4, v4), (6, v6), (7, v7)] H k) v0 v4 v6 v7 H k := by kernel_rfl

/-! (*ticketline.ticketlinelaw42.Model).seek -/

noncomputable def s_law_Model_seek (mg : GT) (mc : CT) (ms : ST) (P : Program) (C : CallF) (L0 : Value → Value → Value → Value → Value → AHeap → K → Res) (a0 : Value) (a1 : Value) (a2 : Value) (H : AHeap) (K0 : K) : Res :=
bothK (newv T.api_Pair (.agg #[(.string (mk [])), (.string (mk []))]) H) fun t6 h1 =>
ms (fun k1 =>
bareK (lenT a2) h1 fun t12 h2 =>
bareK (xbin P .eql T.int (.tmp 12) (.const (.int .i64 0)) t12 (.int .i64 0)) h2 fun t13 h3 =>
mc t13 (fun k2 => bareK (bldS #[(.string (mk [])), (.string (mk []))] [(0, 1), (1, 1)] []) h3 fun t14 h4 =>
quietK (stN 2 h4 t6 t14) fun _ h5 =>
k2 .ret [(6, t6), (7, (.int .i64 2))] h5) (fun k2 =>
bareK (lenT a2) h3 fun t17 h6 =>
bareK (xbin P .gtr T.int (.tmp 17) (.const (.int .i64 24)) t17 (.int .i64 24)) h6 fun t18 h7 =>
mc t18 (fun k3 => bareK (bldS #[(.string (mk [])), (.string (mk []))] [(0, 1), (1, 1)] []) h7 fun t19 h8 =>
quietK (stN 2 h8 t6 t19) fun _ h9 =>
k3 .ret [(6, t6), (7, (.int .i64 5))] h9) (fun k3 =>
enterK C F.law_Model_in [a0, a2] h7 fun t23 h10 =>
bareK (xun P .not t23) h10 fun t24 h11 =>
mc t24 (fun k4 => bareK (bldS #[(.string (mk [])), (.string (mk []))] [(0, 1), (1, 1)] []) h11 fun t25 h12 =>
quietK (stN 2 h12 t6 t25) fun _ h13 =>
k4 .ret [(6, t6), (7, (.int .i64 3))] h13) (fun k4 =>
k4 .normal [(0, a0), (1, a1), (2, a2), (6, t6)] h11) (afterK [0, 1, 2, 6] k3)) (afterK [0, 1, 2, 6] k2)) (blkK [0, 1, 2, 6] 0 k1)) (seqK (fun tT h14 =>
enterK C F.law_Model_list [(get tT 0), (get tT 1)] h14 fun t28 h15 =>
ms (fun k5 =>
L0 (get tT 0) (get tT 2) (get tT 6) t28 (.int .i64 0) h15 (blkK [0, 6] 1 k5)) (seqK (fun tT_1 h16 =>
bareK (bldS #[(.string (mk [])), (.string (mk []))] [(0, 1), (1, 1)] []) h16 fun t51 h17 =>
enterK C F.law_Model_to [(get tT_1 0), t51, (.bool false), (.int .i64 1)] h17 fun t52 h18 =>
bareK (xextract t52 0) h18 fun t53 h19 =>
bareK (xextract t52 1) h19 fun t54 h20 =>
quietK (stN 2 h20 (get tT_1 6) t53) fun _ h21 =>
K0 .ret [(6, (get tT_1 6)), (7, t54)] h21) K0)) K0)

noncomputable def s_law_Model_seek_b0 (mg : GT) (mc : CT) (ms : ST) (P : Program) (C : CallF) (L0 : Value → Value → Value → Value → Value → AHeap → K → Res) (v0 : Value) (v2 : Value) (v6 : Value) (v8 : Value) (v9 : Value) (H : AHeap) (k : K) : Res :=
bareK (lenS v8) H fun t31 h16 =>
bareK (xbin P .lss T.int (.tmp 29) (.tmp 31) v9 t31) h16 fun t32 h17 =>
mc t32 (fun k6 => k6 .normal [(0, v0), (2, v2), (6, v6), (8, v8), (9, v9)] h17) (fun k6 =>
k6 (.exit 1) [(32, t32), (31, t31), (30, v8), (29, v9), (0, v0), (2, v2), (6, v6), (8, v8), (9, v9)] h17) (seqK (fun tT h18 =>
ms (fun k7 =>
bareK (ixS 2 (get tT 8) (get tT 9)) h18 fun t37 h19 =>
bareK (fad 0 t37) h19 fun t38 h20 =>
bareK (ld1 h20 t38) h20 fun t39 h21 =>
bareK (xbin P .geq T.string (.tmp 39) (.tmp 40) t39 (get tT 2)) h21 fun t41 h22 =>
mc t41 (fun k8 => bareK (ixS 2 (get tT 8) (get tT 9)) h22 fun t45 h23 =>
bareK (ldN 2 h23 t45) h23 fun t46 h24 =>
enterK C F.law_Model_to [(get tT 0), t46, (.bool true), (.int .i64 1)] h24 fun t47 h25 =>
bareK (xextract t47 0) h25 fun t48 h26 =>
bareK (xextract t47 1) h26 fun t49 h27 =>
quietK (stN 2 h27 (get tT 6) t48) fun _ h28 =>
k8 .ret [(6, (get tT 6)), (7, t49)] h28) (fun k8 =>
k8 .normal [(0, (get tT 0)), (2, (get tT 2)), (6, (get tT 6)), (8, (get tT 8)), (9, (get tT 9))] h22) (blkK [0, 2, 6, 8, 9] 2 k7)) (seqK (fun tT_1 h29 =>
bareK (xbin P .add T.int (.tmp 33) (.const (.int .i64 1)) (get tT_1 9) (.int .i64 1)) h29 fun t34 h30 =>
k .normal [(0, (get tT_1 0)), (2, (get tT_1 2)), (6, (get tT_1 6)), (8, (get tT_1 8)), (9, t34)] h30) (afterK [0, 2, 6, 8, 9] k))) (afterK [0, 2, 6, 8, 9] k))

theorem s_law_Model_seek_eq (M : CombL) (C : CallF) (LP : LoopH) (a0 : Value) (a1 : Value) (a2 : Value) (H : AHeap) : dBodyL M Try.prog hints C LP F.law_Model_seek [a0, a1, a2] H = s_law_Model_seek M.b.g M.c M.s Try.prog C (fun v0 v2 v6 v8 v9 H k => loopL M Try.prog hints C LP F.law_Model_seek 0 [(0, v0), (2, v2), (6, v6), (8, v8), (9, v9)] H k) a0 a1 a2 H (endK Try.prog [.cell 6 T.api_Pair, .tmp 7]) := by kernel_rfl

theorem s_law_Model_seek_b0_eq (M : CombL) (C : CallF) (LP : LoopH) (v0 : Value) (v2 : Value) (v6 : Value) (v8 : Value) (v9 : Value) (H : AHeap) (k : K) : bodyL M Try.prog hints C LP F.law_Model_seek 0 [(0, v0), (2, v2), (6, v6), (8, v8), (9, v9)] H (afterK [0, 2, 6, 8, 9] k) = s_law_Model_seek_b0 M.b.g M.c M.s Try.prog C (fun v0 v2 v6 v8 v9 H k => loopL M Try.prog hints C LP F.law_Model_seek 0 [(0, v0), (2, v2), (6, v6), (8, v8), (9, v9)] H k) v0 v2 v6 v8 v9 H k := by kernel_rfl

/-! (*ticketline.model.Model).Put -/

noncomputable def s_model_Model_Put (mg : GT) (mc : CT) (ms : ST) (P : Program) (C : CallF) (a0 : Value) (a1 : Value) (a2 : Value) (H : AHeap) (K0 : K) : Res :=
bothK (bldL T.string [(.string (mk []))] 1 [(0, a2)] H) fun t14 h1 =>
enterK C F.model_Model_at [a0, a1, t14] h1 fun t15 h2 =>
bareK (xextract t15 0) h2 fun t16 h3 =>
bareK (xextract t15 1) h3 fun t17 h4 =>
bareK (xextract t15 2) h4 fun t18 h5 =>
bareK (xbin P .neq T.api_Errno (.tmp 19) (.const (.int .i64 0)) t18 (.int .i64 0)) h5 fun t20 h6 =>
mc t20 (fun k1 => k1 .ret [(6, t18)] h6) (fun k1 =>
k1 .normal [(0, a0), (1, a1), (2, a2), (7, t16), (8, t17)] h6) (seqK (fun tT h7 =>
bareK (bldS #[(.string (mk [])), (.string (mk []))] [(0, 1), (1, 1)] [(0, (get tT 1)), (1, (get tT 2))]) h7 fun t27 h8 =>
enterK C F.model_Model_set [(get tT 0), (get tT 7), (get tT 8), t27] h8 fun t28 h9 =>
K0 .ret [(6, t28)] h9) K0)

theorem s_model_Model_Put_eq (M : CombL) (C : CallF) (LP : LoopH) (a0 : Value) (a1 : Value) (a2 : Value) (H : AHeap) : dBodyL M Try.prog hints C LP F.model_Model_Put [a0, a1, a2] H = s_model_Model_Put M.b.g M.c M.s Try.prog C a0 a1 a2 H (endK Try.prog [.tmp 6]) := by kernel_rfl

/-! (*ticketline.model.Model).Delete -/

noncomputable def s_model_Model_Delete (mg : GT) (mc : CT) (ms : ST) (P : Program) (C : CallF) (a0 : Value) (a1 : Value) (H : AHeap) (K0 : K) : Res :=
enterK C F.model_Model_Get [a0, a1] H fun t13 h1 =>
bareK (xextract t13 0) h1 fun t14 h2 =>
bareK (xextract t13 1) h2 fun t15 h3 =>
bareK (xbin P .neq T.api_Errno (.tmp 16) (.const (.int .i64 0)) t15 (.int .i64 0)) h3 fun t17 h4 =>
mc t17 (fun k1 => k1 .ret [(4, (.string (mk []))), (5, t15)] h4) (fun k1 =>
k1 .normal [(0, a0), (1, a1), (6, t14)] h4) (seqK (fun tT h5 =>
enterK C F.model_Model_place [(get tT 0), (get tT 1)] h5 fun t22 h6 =>
bareK (xextract t22 0) h6 fun t23 h7 =>
bareK (xextract t22 1) h7 fun t24 h8 =>
bareK (xnilCheck (get tT 0)) h8 fun t27 h9 =>
bareK (fad 0 t27) h9 fun t28 h10 =>
bareK (ld1 h10 t28) h10 fun t29 h11 =>
bareK (xbin P .add T.int (.tmp 31) (.const (.int .i64 1)) t23 (.int .i64 1)) h11 fun t32 h12 =>
enterK C F.slices_Delete_Pair [t29, t23, t32] h12 fun t33 h13 =>
bareK (xnilCheck (get tT 0)) h13 fun t34 h14 =>
bareK (fad 0 t34) h14 fun t35 h15 =>
quietK (st1 h15 t35 t33) fun _ h16 =>
K0 .ret [(4, (get tT 6)), (5, (.int .i64 0))] h16) K0)

theorem s_model_Model_Delete_eq (M : CombL) (C : CallF) (LP : LoopH) (a0 : Value) (a1 : Value) (H : AHeap) : dBodyL M Try.prog hints C LP F.model_Model_Delete [a0, a1] H = s_model_Model_Delete M.b.g M.c M.s Try.prog C a0 a1 H (endK Try.prog [.tmp 4, .tmp 5]) := by kernel_rfl

/-! (*ticketline.cursor.Cursor).Next -/

noncomputable def s_cursor_Cursor_Next (mg : GT) (mc : CT) (ms : ST) (P : Program) (C : CallF) (a0 : Value) (a1 : Value) (H : AHeap) (K0 : K) : Res :=
bothK (newv T.api_Pair (.agg #[(.string (mk [])), (.string (mk []))]) H) fun t4 h1 =>
enterK C F.cursor_Cursor_zero [a0] h1 fun t8 h2 =>
mg t8 false (fun o1 => o1 a1 h2) h2 fun t10 h3 =>
mg t8 false (fun o2 => bareK (xbin P .eql T.p_model_Model (.tmp 10) (.const (.pointer none)) t10 (.pointer none)) h3 o2) h3 fun t11 h4 =>
pickK t8 (.bool true) t11 fun t12 =>
mc t12 (fun k3 => bareK (bldS #[(.string (mk [])), (.string (mk []))] [(0, 1), (1, 1)] []) h4 fun t13 h5 =>
quietK (stN 2 h5 t4 t13) fun _ h6 =>
k3 .ret [(4, t4), (5, (.int .i64 1))] h6) (fun k3 =>
k3 .normal [(0, a0), (1, a1), (4, t4)] h4) (seqK (fun tT h7 =>
bareK (xnilCheck (get tT 0)) h7 fun t15 h8 =>
bareK (fad 0 t15) h8 fun t16 h9 =>
bareK (ldN 2 h9 t16) h9 fun t17 h10 =>
enterK C F.cursor_span_pairs [t17, (get tT 1)] h10 fun t19 h11 =>
enterK C F.cursor_Cursor_forward [(get tT 0), t19] h11 fun t24 h12 =>
enterK C F.cursor_Cursor_set [(get tT 0), t19, t24, (.int .i64 3)] h12 fun t25 h13 =>
bareK (xextract t25 0) h13 fun t26 h14 =>
bareK (xextract t25 1) h14 fun t27 h15 =>
quietK (stN 2 h15 (get tT 4) t26) fun _ h16 =>
K0 .ret [(4, (get tT 4)), (5, t27)] h16) K0)

theorem s_cursor_Cursor_Next_eq (M : CombL) (C : CallF) (LP : LoopH) (a0 : Value) (a1 : Value) (H : AHeap) : dBodyL M Try.prog hints C LP F.cursor_Cursor_Next [a0, a1] H = s_cursor_Cursor_Next M.b.g M.c M.s Try.prog C a0 a1 H (endK Try.prog [.cell 4 T.api_Pair, .tmp 5]) := by kernel_rfl

/-! (*ticketline.model.Model).Pairs -/

noncomputable def s_model_Model_Pairs (mg : GT) (mc : CT) (ms : ST) (P : Program) (C : CallF) (a0 : Value) (H : AHeap) (K0 : K) : Res :=
bareK (xbin P .eql T.p_model_Model (.tmp 3) (.const (.pointer none)) a0 (.pointer none)) H fun t4 h1 =>
mc t4 (fun k1 => k1 .ret [(2, (.slice none 0 0))] h1) (fun k1 =>
k1 .normal [(0, a0)] h1) (seqK (fun tT h2 =>
bareK (xnilCheck (get tT 0)) h2 fun t6 h3 =>
bareK (fad 0 t6) h3 fun t7 h4 =>
bareK (ld1 h4 t7) h4 fun t8 h5 =>
enterK C F.slices_Clone_Pair [t8] h5 fun t9 h6 =>
K0 .ret [(2, t9)] h6) K0)

theorem s_model_Model_Pairs_eq (M : CombL) (C : CallF) (LP : LoopH) (a0 : Value) (H : AHeap) : dBodyL M Try.prog hints C LP F.model_Model_Pairs [a0] H = s_model_Model_Pairs M.b.g M.c M.s Try.prog C a0 H (endK Try.prog [.tmp 2]) := by kernel_rfl

/-! (*ticketline.model.Model).Copy -/

noncomputable def s_model_Model_Copy (mg : GT) (mc : CT) (ms : ST) (P : Program) (C : CallF) (a0 : Value) (H : AHeap) (K0 : K) : Res :=
bareK (xbin P .eql T.p_model_Model (.tmp 3) (.const (.pointer none)) a0 (.pointer none)) H fun t4 h1 =>
mc t4 (fun k1 => k1 .ret [(2, (.pointer none))] h1) (fun k1 =>
k1 .normal [(0, a0)] h1) (seqK (fun tT h2 =>
bareK (xnilCheck (get tT 0)) h2 fun t6 h3 =>
bareK (fad 0 t6) h3 fun t7 h4 =>
bareK (ld1 h4 t7) h4 fun t8 h5 =>
enterK C F.slices_Clone_Pair [t8] h5 fun t9 h6 =>
bareK (bldS #[(.slice none 0 0)] [(0, 1)] [(0, t9)]) h6 fun t10 h7 =>
bothK (newv T.model_Model t10 h7) fun t11 h8 =>
K0 .ret [(2, t11)] h8) K0)

theorem s_model_Model_Copy_eq (M : CombL) (C : CallF) (LP : LoopH) (a0 : Value) (H : AHeap) : dBodyL M Try.prog hints C LP F.model_Model_Copy [a0] H = s_model_Model_Copy M.b.g M.c M.s Try.prog C a0 H (endK Try.prog [.tmp 2]) := by kernel_rfl

/-! (*ticketline.model.Model).Get -/

noncomputable def s_model_Model_Get (mg : GT) (mc : CT) (ms : ST) (P : Program) (C : CallF) (a0 : Value) (a1 : Value) (H : AHeap) (K0 : K) : Res :=
enterK C F.model_Model_at [a0, a1, (.slice none 0 0)] H fun t12 h1 =>
bareK (xextract t12 0) h1 fun t13 h2 =>
bareK (xextract t12 1) h2 fun t14 h3 =>
bareK (xextract t12 2) h3 fun t15 h4 =>
ms (fun k1 =>
bareK (xbin P .neq T.api_Errno (.tmp 17) (.const (.int .i64 0)) t15 (.int .i64 0)) h4 fun t18 h5 =>
mc t18 (fun k2 => k2 .ret [(4, (.string (mk []))), (5, t15)] h5) (fun k2 =>
bareK (xun P .not t14) h5 fun t22 h6 =>
mc t22 (fun k3 => k3 .ret [(4, (.string (mk []))), (5, (.int .i64 9))] h6) (fun k3 =>
k3 .normal [(0, a0), (6, t13)] h6) (afterK [0, 6] k2)) (blkK [0, 6] 0 k1)) (seqK (fun tT h7 =>
bareK (xnilCheck (get tT 0)) h7 fun t24 h8 =>
bareK (fad 0 t24) h8 fun t25 h9 =>
bareK (ld1 h9 t25) h9 fun t26 h10 =>
bareK (ixS 2 t26 (get tT 6)) h10 fun t28 h11 =>
bareK (fad 1 t28) h11 fun t29 h12 =>
bareK (ld1 h12 t29) h12 fun t30 h13 =>
K0 .ret [(4, t30), (5, (.int .i64 0))] h13) K0)

theorem s_model_Model_Get_eq (M : CombL) (C : CallF) (LP : LoopH) (a0 : Value) (a1 : Value) (H : AHeap) : dBodyL M Try.prog hints C LP F.model_Model_Get [a0, a1] H = s_model_Model_Get M.b.g M.c M.s Try.prog C a0 a1 H (endK Try.prog [.tmp 4, .tmp 5]) := by kernel_rfl

/-! ticketline.model.Of -/

noncomputable def s_model_Of (mg : GT) (mc : CT) (ms : ST) (P : Program) (C : CallF) (L0 : Value → Value → Value → Value → AHeap → K → Res) (a0 : Value) (H : AHeap) (K0 : K) : Res :=
bareK (lenS a0) H fun t8 h1 =>
ms (fun k1 =>
L0 a0 a0 t8 (.int .i64 0) h1 (blkK [0] 0 k1)) (seqK (fun tT h2 =>
bareK (lenS (get tT 0)) h2 fun t39 h3 =>
bareK (xbin P .gtr T.int (.tmp 39) (.const (.int .i64 20000)) t39 (.int .i64 20000)) h3 fun t40 h4 =>
mc t40 (fun k2 => k2 .ret [(2, (.pointer none)), (3, (.int .i64 7))] h4) (fun k2 =>
k2 .normal [(0, (get tT 0))] h4) (seqK (fun tT_1 h5 =>
enterK C F.slices_Clone_Pair [(get tT_1 0)] h5 fun t42 h6 =>
bareK (bldS #[(.slice none 0 0)] [(0, 1)] [(0, t42)]) h6 fun t43 h7 =>
bothK (newv T.model_Model t43 h7) fun t44 h8 =>
K0 .ret [(2, t44), (3, (.int .i64 0))] h8) K0)) K0)

noncomputable def s_model_Of_b0 (mg : GT) (mc : CT) (ms : ST) (P : Program) (C : CallF) (L0 : Value → Value → Value → Value → AHeap → K → Res) (v0 : Value) (v7 : Value) (v8 : Value) (v9 : Value) (H : AHeap) (k : K) : Res :=
bareK (xbin P .lss T.int (.tmp 9) (.tmp 8) v9 v8) H fun t10 h2 =>
mc t10 (fun k2 => k2 .normal [(0, v0), (7, v7), (8, v8), (9, v9)] h2) (fun k2 =>
k2 (.exit 0) [(10, t10), (0, v0), (7, v7), (8, v8), (9, v9)] h2) (seqK (fun tT h3 =>
ms (fun k3 =>
bareK (ixS 2 (get tT 7) (get tT 9)) h3 fun t12 h4 =>
bareK (ldN 2 h4 t12) h4 fun t13 h5 =>
bothK (newv T.api_Pair (.agg #[(.string (mk [])), (.string (mk []))]) h5) fun t5 h6 =>
quietK (stN 2 h6 t5 t13) fun _ h7 =>
bareK (fad 0 t5) h7 fun t14 h8 =>
bareK (ld1 h8 t14) h8 fun t15 h9 =>
bareK (fad 1 t5) h9 fun t16 h10 =>
bareK (ld1 h10 t16) h10 fun t17 h11 =>
bothK (bldL T.string [(.string (mk []))] 1 [(0, t17)] h11) fun t18 h12 =>
enterK C F.model_check [t15, t18] h12 fun t19 h13 =>
bareK (xbin P .neq T.api_Errno (.tmp 20) (.const (.int .i64 0)) t19 (.int .i64 0)) h13 fun t21 h14 =>
mc t21 (fun k4 => k4 .ret [(2, (.pointer none)), (3, t19)] h14) (fun k4 =>
k4 .normal [(0, (get tT 0)), (4, (get tT 9)), (5, t5), (7, (get tT 7)), (8, (get tT 8)), (9, (get tT 9))] h14) (seqK (fun tT_1 h15 =>
bareK (xbin P .gtr T.int (.tmp 23) (.const (.int .i64 0)) (get tT_1 4) (.int .i64 0)) h15 fun t24 h16 =>
mg t24 true (fun o5 => o5 (get tT_1 0) h16) h16 fun t26 h17 =>
mg t24 true (fun o6 => o6 (get tT_1 4) h17) h17 fun t27 h18 =>
mg t24 true (fun o7 => bareK (xbin P .sub T.int (.tmp 27) (.const (.int .i64 1)) t27 (.int .i64 1)) h18 o7) h18 fun t28 h19 =>
mg t24 true (fun o8 => bareK (ixS 2 t26 t28) h19 o8) h19 fun t29 h20 =>
mg t24 true (fun o9 => bareK (fad 0 t29) h20 o9) h20 fun t30 h21 =>
mg t24 true (fun o10 => bareK (ld1 h21 t30) h21 o10) h21 fun t31 h22 =>
mg t24 true (fun o11 => bareK (fad 0 (get tT_1 5)) h22 o11) h22 fun t32 h23 =>
mg t24 true (fun o12 => bareK (ld1 h23 t32) h23 o12) h23 fun t33 h24 =>
mg t24 true (fun o13 => enterK C F.keys_Compare [t31, t33] h24 o13) h24 fun t34 h25 =>
mg t24 true (fun o14 => bareK (xbin P .geq T.int (.tmp 34) (.const (.int .i64 0)) t34 (.int .i64 0)) h25 o14) h25 fun t35 h26 =>
pickK t24 t35 (.bool false) fun t36 =>
checkK true <|
mc t36 (fun k15 => k15 .ret [(2, (.pointer none)), (3, (.int .i64 13))] h26) (fun k15 =>
k15 .normal [(0, (get tT_1 0)), (7, (get tT_1 7)), (8, (get tT_1 8)), (9, (get tT_1 9))] h26) (blkK [0, 7, 8, 9] 1 k3)) (blkK [0, 7, 8, 9] 1 k3))) (seqK (fun tT_2 h27 =>
bareK (xbin P .add T.int (.tmp 9) (.const (.int .i64 1)) (get tT_2 9) (.int .i64 1)) h27 fun t37 h28 =>
k .normal [(0, (get tT_2 0)), (7, (get tT_2 7)), (8, (get tT_2 8)), (9, t37)] h28) (afterK [0, 7, 8, 9] k))) (afterK [0, 7, 8, 9] k))

theorem s_model_Of_eq (M : CombL) (C : CallF) (LP : LoopH) (a0 : Value) (H : AHeap) : dBodyL M Try.prog hints C LP F.model_Of [a0] H = s_model_Of M.b.g M.c M.s Try.prog C (fun v0 v7 v8 v9 H k => loopL M Try.prog hints C LP F.model_Of 0 [(0, v0), (7, v7), (8, v8), (9, v9)] H k) a0 H (endK Try.prog [.tmp 2, .tmp 3]) := by kernel_rfl

theorem s_model_Of_b0_eq (M : CombL) (C : CallF) (LP : LoopH) (v0 : Value) (v7 : Value) (v8 : Value) (v9 : Value) (H : AHeap) (k : K) : bodyL M Try.prog hints C LP F.model_Of 0 [(0, v0), (7, v7), (8, v8), (9, v9)] H (afterK [0, 7, 8, 9] k) = s_model_Of_b0 M.b.g M.c M.s Try.prog C (fun v0 v7 v8 v9 H k => loopL M Try.prog hints C LP F.model_Of 0 [(0, v0), (7, v7), (8, v8), (9, v9)] H k) v0 v7 v8 v9 H k := by kernel_rfl

/-! (*ticketline.cursor.Cursor).Rest -/

noncomputable def s_cursor_Cursor_Rest (mg : GT) (mc : CT) (ms : ST) (P : Program) (C : CallF) (a0 : Value) (a1 : Value) (H : AHeap) (K0 : K) : Res :=
enterK C F.cursor_Cursor_zero [a0] H fun t8 h1 =>
mg t8 false (fun o1 => o1 a1 h1) h1 fun t10 h2 =>
mg t8 false (fun o2 => bareK (xbin P .eql T.p_model_Model (.tmp 10) (.const (.pointer none)) t10 (.pointer none)) h2 o2) h2 fun t11 h3 =>
pickK t8 (.bool true) t11 fun t12 =>
mc t12 (fun k3 => k3 .ret [(4, (.slice none 0 0)), (5, (.int .i64 1))] h3) (fun k3 =>
k3 .normal [(0, a0), (1, a1)] h3) (seqK (fun tT h4 =>
bareK (xnilCheck (get tT 0)) h4 fun t14 h5 =>
bareK (fad 0 t14) h5 fun t15 h6 =>
bareK (ldN 2 h6 t15) h6 fun t16 h7 =>
enterK C F.cursor_span_pairs [t16, (get tT 1)] h7 fun t18 h8 =>
enterK C F.cursor_Cursor_forward [(get tT 0), t18] h8 fun t22 h9 =>
bareK (slS T.api_Pair 2 t18 (some t22) none none h9) h9 fun t23 h10 =>
K0 .ret [(4, t23), (5, (.int .i64 0))] h10) K0)

theorem s_cursor_Cursor_Rest_eq (M : CombL) (C : CallF) (LP : LoopH) (a0 : Value) (a1 : Value) (H : AHeap) : dBodyL M Try.prog hints C LP F.cursor_Cursor_Rest [a0, a1] H = s_cursor_Cursor_Rest M.b.g M.c M.s Try.prog C a0 a1 H (endK Try.prog [.tmp 4, .tmp 5]) := by kernel_rfl

/-! ticketline.keys.Compare -/

noncomputable def s_keys_Compare (mg : GT) (mc : CT) (ms : ST) (P : Program) (C : CallF) (a0 : Value) (a1 : Value) (H : AHeap) (K0 : K) : Res :=
enterK C F.strings_Compare [a0, a1] H fun t7 h1 =>
K0 .ret [(4, t7)] h1

theorem s_keys_Compare_eq (M : CombL) (C : CallF) (LP : LoopH) (a0 : Value) (a1 : Value) (H : AHeap) : dBodyL M Try.prog hints C LP F.keys_Compare [a0, a1] H = s_keys_Compare M.b.g M.c M.s Try.prog C a0 a1 H (endK Try.prog [.tmp 4]) := by kernel_rfl

/-! (*ticketline.ticketlinelaw42.Model).rest -/

noncomputable def s_law_Model_rest (mg : GT) (mc : CT) (ms : ST) (P : Program) (C : CallF) (L0 : Value → Value → Value → Value → AHeap → K → Res) (a0 : Value) (a1 : Value) (H : AHeap) (K0 : K) : Res :=
enterK C F.law_Model_list [a0, a1] H fun t10 h1 =>
ms (fun k1 =>
L0 a0 (.slice none 0 0) t10 (.int .i64 0) h1 (blkK [5] 0 k1)) (seqK (fun tT h2 =>
K0 .ret [(4, (get tT 5))] h2) K0)

noncomputable def s_law_Model_rest_b0 (mg : GT) (mc : CT) (ms : ST) (P : Program) (C : CallF) (L0 : Value → Value → Value → Value → AHeap → K → Res) (v0 : Value) (v5 : Value) (v6 : Value) (v7 : Value) (H : AHeap) (k : K) : Res :=
bareK (lenS v6) H fun t13 h2 =>
bareK (xbin P .lss T.int (.tmp 11) (.tmp 13) v7 t13) h2 fun t14 h3 =>
mc t14 (fun k2 => k2 .normal [(0, v0), (5, v5), (6, v6), (7, v7)] h3) (fun k2 =>
k2 (.exit 0) [(14, t14), (13, t13), (12, v6), (11, v7), (0, v0), (5, v5), (6, v6), (7, v7)] h3) (seqK (fun tT h4 =>
ms (fun k3 =>
bareK (xnilCheck (get tT 0)) h4 fun t18 h5 =>
bareK (fad 3 t18) h5 fun t19 h6 =>
bareK (ld1 h6 t19) h6 fun t20 h7 =>
bareK (xbin P .lss T.int (.tmp 20) (.const (.int .i64 0)) t20 (.int .i64 0)) h7 fun t21 h8 =>
mg t21 false (fun o4 => o4 (get tT 0) h8) h8 fun t23 h9 =>
mg t21 false (fun o5 => bareK (xnilCheck t23) h9 o5) h9 fun t24 h10 =>
mg t21 false (fun o6 => bareK (fad 3 t24) h10 o6) h10 fun t25 h11 =>
mg t21 false (fun o7 => bareK (ld1 h11 t25) h11 o7) h11 fun t26 h12 =>
mg t21 false (fun o8 => bareK (xbin P .eql T.int (.tmp 26) (.const (.int .i64 0)) t26 (.int .i64 0)) h12 o8) h12 fun t27 h13 =>
mg t21 false (fun o9 => o9 t27 h13) h13 fun t28 h14 =>
mg t28 true (fun o10 => o10 (get tT 6) h14) h14 fun t29 h15 =>
mg t28 true (fun o11 => o11 (get tT 7) h15) h15 fun t30 h16 =>
mg t28 true (fun o12 => bareK (ixS 2 t29 t30) h16 o12) h16 fun t31 h17 =>
mg t28 true (fun o13 => bareK (fad 0 t31) h17 o13) h17 fun t32 h18 =>
mg t28 true (fun o14 => bareK (ld1 h18 t32) h18 o14) h18 fun t33 h19 =>
mg t28 true (fun o15 => o15 (get tT 0) h19) h19 fun t34 h20 =>
mg t28 true (fun o16 => bareK (xnilCheck t34) h20 o16) h20 fun t35 h21 =>
mg t28 true (fun o17 => bareK (fad 2 t35) h21 o17) h21 fun t36 h22 =>
mg t28 true (fun o18 => bareK (ld1 h22 t36) h22 o18) h22 fun t37 h23 =>
mg t28 true (fun o19 => bareK (xbin P .gtr T.string (.tmp 33) (.tmp 37) t33 t37) h23 o19) h23 fun t38 h24 =>
mg t21 false (fun o20 => pickK t28 t38 (.bool false) fun v => o20 v h24) h24 fun t39 h25 =>
pickK t21 (.bool true) t39 fun t40 =>
checkK true <|
mc t40 (fun k21 => bareK (ixS 2 (get tT 6) (get tT 7)) h25 fun t44 h26 =>
bareK (ldN 2 h26 t44) h26 fun t45 h27 =>
bothK (bldL T.api_Pair [(.string (mk [])), (.string (mk []))] 1 [(0, t45)] h27) fun t46 h28 =>
bothK (app T.api_Pair 2 32 (get tT 5) (srcS 2 t46 h28) h28) fun t47 h29 =>
k21 .normal [(0, (get tT 0)), (5, t47), (6, (get tT 6)), (7, (get tT 7))] h29) (fun k21 =>
k21 .normal [(0, (get tT 0)), (5, (get tT 5)), (6, (get tT 6)), (7, (get tT 7))] h25) (blkK [0, 5, 6, 7] 1 k3)) (seqK (fun tT_1 h30 =>
bareK (xbin P .add T.int (.tmp 15) (.const (.int .i64 1)) (get tT_1 7) (.int .i64 1)) h30 fun t16 h31 =>
k .normal [(0, (get tT_1 0)), (5, (get tT_1 5)), (6, (get tT_1 6)), (7, t16)] h31) (afterK [0, 5, 6, 7] k))) (afterK [0, 5, 6, 7] k))

theorem s_law_Model_rest_eq (M : CombL) (C : CallF) (LP : LoopH) (a0 : Value) (a1 : Value) (H : AHeap) : dBodyL M Try.prog hints C LP F.law_Model_rest [a0, a1] H = s_law_Model_rest M.b.g M.c M.s Try.prog C (fun v0 v5 v6 v7 H k => loopL M Try.prog hints C LP F.law_Model_rest 0 [(0, v0), (5, v5), (6, v6), (7, v7)] H k) a0 a1 H (endK Try.prog [.tmp 4]) := by kernel_rfl

theorem s_law_Model_rest_b0_eq (M : CombL) (C : CallF) (LP : LoopH) (v0 : Value) (v5 : Value) (v6 : Value) (v7 : Value) (H : AHeap) (k : K) : bodyL M Try.prog hints C LP F.law_Model_rest 0 [(0, v0), (5, v5), (6, v6), (7, v7)] H (afterK [0, 5, 6, 7] k) = s_law_Model_rest_b0 M.b.g M.c M.s Try.prog C (fun v0 v5 v6 v7 H k => loopL M Try.prog hints C LP F.law_Model_rest 0 [(0, v0), (5, v5), (6, v6), (7, v7)] H k) v0 v5 v6 v7 H k := by kernel_rfl

/-! (*ticketline.cursor.Cursor).Prev -/

noncomputable def s_cursor_Cursor_Prev (mg : GT) (mc : CT) (ms : ST) (P : Program) (C : CallF) (a0 : Value) (a1 : Value) (H : AHeap) (K0 : K) : Res :=
bothK (newv T.p_cursor_Cursor a0 H) fun t2 h1 =>
bothK (newv T.api_Pair (.agg #[(.string (mk [])), (.string (mk []))]) h1) fun t4 h2 =>
bareK (ld1 h2 t2) h2 fun t8 h3 =>
enterK C F.cursor_Cursor_zero [t8] h3 fun t9 h4 =>
mg t9 false (fun o1 => o1 a1 h4) h4 fun t11 h5 =>
mg t9 false (fun o2 => bareK (xbin P .eql T.p_model_Model (.tmp 11) (.const (.pointer none)) t11 (.pointer none)) h5 o2) h5 fun t12 h6 =>
pickK t9 (.bool true) t12 fun t13 =>
mc t13 (fun k3 => bareK (bldS #[(.string (mk [])), (.string (mk []))] [(0, 1), (1, 1)] []) h6 fun t14 h7 =>
quietK (stN 2 h7 t4 t14) fun _ h8 =>
k3 .ret [(4, t4), (5, (.int .i64 1))] h8) (fun k3 =>
k3 .normal [(1, a1), (2, t2), (4, t4)] h6) (seqK (fun tT h9 =>
bareK (ld1 h9 (get tT 2)) h9 fun t15 h10 =>
bareK (xnilCheck t15) h10 fun t16 h11 =>
bareK (fad 0 t16) h11 fun t17 h12 =>
bareK (ldN 2 h12 t17) h12 fun t18 h13 =>
enterK C F.cursor_span_pairs [t18, (get tT 1)] h13 fun t20 h14 =>
bothK (newv T.sl_api_Pair (.slice none 0 0) h14) fun t6 h15 =>
quietK (st1 h15 t6 t20) fun _ h16 =>
bareK (ld1 h16 (get tT 2)) h16 fun t21 h17 =>
bareK (xnilCheck t21) h17 fun t22 h18 =>
bareK (fad 2 t22) h18 fun t23 h19 =>
bareK (ld1 h19 t23) h19 fun t24 h20 =>
ms (fun k4 =>
bareK (xbin P .eql T.cursor_side (.tmp 24) (.const (.int .i64 3)) t24 (.int .i64 3)) h20 fun t26 h21 =>
mc t26 (fun k5 => bareK (ld1 h21 t6) h21 fun t27 h22 =>
bareK (lenS t27) h22 fun t28 h23 =>
bareK (xbin P .sub T.int (.tmp 28) (.const (.int .i64 1)) t28 (.int .i64 1)) h23 fun t29 h24 =>
k5 .normal [(2, (get tT 2)), (4, (get tT 4)), (6, t6), (7, t29)] h24) (fun k5 =>
bareK (xbin P .eql T.cursor_side (.tmp 24) (.const (.int .i64 2)) t24 (.int .i64 2)) h21 fun t31 h25 =>
mc t31 (fun k6 => bareK (ld1 h25 t6) h25 fun t32 h26 =>
bareK (lenS t32) h26 fun t33 h27 =>
enterK C F.sort_Search [t33, (.func (.func F.cursor_Cursor_Prev_1) #[] #[t6, (get tT 2)])] h27 fun t35 h28 =>
bareK (xbin P .sub T.int (.tmp 35) (.const (.int .i64 1)) t35 (.int .i64 1)) h28 fun t36 h29 =>
k6 .normal [(2, (get tT 2)), (4, (get tT 4)), (6, t6), (7, t36)] h29) (fun k6 =>
k6 .normal [(2, (get tT 2)), (4, (get tT 4)), (6, t6), (7, (.int .i64 (-1)))] h25) (afterK [2, 4, 6, 7] k5)) (blkK [2, 4, 6, 7] 0 k4)) (seqK (fun tT_1 h30 =>
bareK (ld1 h30 (get tT_1 2)) h30 fun t37 h31 =>
bareK (ld1 h31 (get tT_1 6)) h31 fun t38 h32 =>
enterK C F.cursor_Cursor_set [t37, t38, (get tT_1 7), (.int .i64 1)] h32 fun t40 h33 =>
bareK (xextract t40 0) h33 fun t41 h34 =>
bareK (xextract t40 1) h34 fun t42 h35 =>
quietK (stN 2 h35 (get tT_1 4) t41) fun _ h36 =>
K0 .ret [(4, (get tT_1 4)), (5, t42)] h36) K0)) K0)

theorem s_cursor_Cursor_Prev_eq (M : CombL) (C : CallF) (LP : LoopH) (a0 : Value) (a1 : Value) (H : AHeap) : dBodyL M Try.prog hints C LP F.cursor_Cursor_Prev [a0, a1] H = s_cursor_Cursor_Prev M.b.g M.c M.s Try.prog C a0 a1 H (endK Try.prog [.cell 4 T.api_Pair, .tmp 5]) := by kernel_rfl

/-! (*ticketline.cursor.Cursor).Seek -/

noncomputable def s_cursor_Cursor_Seek (mg : GT) (mc : CT) (ms : ST) (P : Program) (C : CallF) (a0 : Value) (a1 : Value) (a2 : Value) (H : AHeap) (K0 : K) : Res :=
bothK (newv T.string a2 H) fun t5 h1 =>
bothK (newv T.api_Pair (.agg #[(.string (mk [])), (.string (mk []))]) h1) fun t6 h2 =>
ms (fun k1 =>
enterK C F.cursor_Cursor_zero [a0] h2 fun t11 h3 =>
mg t11 false (fun o2 => o2 a1 h3) h3 fun t13 h4 =>
mg t11 false (fun o3 => bareK (xbin P .eql T.p_model_Model (.tmp 13) (.const (.pointer none)) t13 (.pointer none)) h4 o3) h4 fun t14 h5 =>
pickK t11 (.bool true) t14 fun t15 =>
mc t15 (fun k4 => bareK (bldS #[(.string (mk [])), (.string (mk []))] [(0, 1), (1, 1)] []) h5 fun t16 h6 =>
quietK (stN 2 h6 t6 t16) fun _ h7 =>
k4 .ret [(6, t6), (7, (.int .i64 1))] h7) (fun k4 =>
bareK (ld1 h5 t5) h5 fun t18 h8 =>
bareK (xbin P .eql T.string (.tmp 18) (.const (.string (mk []))) t18 (.string (mk []))) h8 fun t19 h9 =>
mc t19 (fun k5 => bareK (bldS #[(.string (mk [])), (.string (mk []))] [(0, 1), (1, 1)] []) h9 fun t20 h10 =>
quietK (stN 2 h10 t6 t20) fun _ h11 =>
k5 .ret [(6, t6), (7, (.int .i64 2))] h11) (fun k5 =>
bareK (ld1 h9 t5) h9 fun t22 h12 =>
bareK (lenT t22) h12 fun t23 h13 =>
bareK (xbin P .gtr T.int (.tmp 23) (.const (.int .i64 24)) t23 (.int .i64 24)) h13 fun t24 h14 =>
mc t24 (fun k6 => bareK (bldS #[(.string (mk [])), (.string (mk []))] [(0, 1), (1, 1)] []) h14 fun t25 h15 =>
quietK (stN 2 h15 t6 t25) fun _ h16 =>
k6 .ret [(6, t6), (7, (.int .i64 5))] h16) (fun k6 =>
bareK (xnilCheck a0) h14 fun t28 h17 =>
bareK (fad 0 t28) h17 fun t29 h18 =>
bareK (ldN 2 h18 t29) h18 fun t30 h19 =>
bareK (ld1 h19 t5) h19 fun t31 h20 =>
enterK C F.cursor_span_has [t30, t31] h20 fun t32 h21 =>
bareK (xun P .not t32) h21 fun t33 h22 =>
checkK true <|
mc t33 (fun k7 => bareK (bldS #[(.string (mk [])), (.string (mk []))] [(0, 1), (1, 1)] []) h22 fun t34 h23 =>
quietK (stN 2 h23 t6 t34) fun _ h24 =>
k7 .ret [(6, t6), (7, (.int .i64 3))] h24) (fun k7 =>
k7 .normal [(0, a0), (1, a1), (5, t5), (6, t6)] h22) (afterK [0, 1, 5, 6] k6)) (afterK [0, 1, 5, 6] k5)) (afterK [0, 1, 5, 6] k4)) (blkK [0, 1, 5, 6] 0 k1)) (seqK (fun tT h25 =>
bareK (xnilCheck (get tT 0)) h25 fun t36 h26 =>
bareK (fad 0 t36) h26 fun t37 h27 =>
bareK (ldN 2 h27 t37) h27 fun t38 h28 =>
enterK C F.cursor_span_pairs [t38, (get tT 1)] h28 fun t40 h29 =>
bothK (newv T.sl_api_Pair (.slice none 0 0) h29) fun t8 h30 =>
quietK (st1 h30 t8 t40) fun _ h31 =>
bareK (ld1 h31 t8) h31 fun t42 h32 =>
bareK (ld1 h32 t8) h32 fun t43 h33 =>
bareK (lenS t43) h33 fun t44 h34 =>
enterK C F.sort_Search [t44, (.func (.func F.cursor_Cursor_Seek_1) #[] #[t8, (get tT 5)])] h34 fun t46 h35 =>
enterK C F.cursor_Cursor_set [(get tT 0), t42, t46, (.int .i64 3)] h35 fun t47 h36 =>
bareK (xextract t47 0) h36 fun t48 h37 =>
bareK (xextract t47 1) h37 fun t49 h38 =>
quietK (stN 2 h38 (get tT 6) t48) fun _ h39 =>
checkK (okV (some true) none h34 h35 h31 h31 && (okV (some true) (blockOf t8) h34 h35 h31 h32 && true)) <|
K0 .ret [(6, (get tT 6)), (7, t49)] h39) K0)

theorem s_cursor_Cursor_Seek_eq (M : CombL) (C : CallF) (LP : LoopH) (a0 : Value) (a1 : Value) (a2 : Value) (H : AHeap) : dBodyL M Try.prog hints C LP F.cursor_Cursor_Seek [a0, a1, a2] H = s_cursor_Cursor_Seek M.b.g M.c M.s Try.prog C a0 a1 a2 H (endK Try.prog [.cell 6 T.api_Pair, .tmp 7]) := by kernel_rfl

/-! (*ticketline.cursor.Cursor).See -/

noncomputable def s_cursor_Cursor_See (mg : GT) (mc : CT) (ms : ST) (P : Program) (C : CallF) (a0 : Value) (a1 : Value) (H : AHeap) (K0 : K) : Res :=
bothK (newv T.api_Pair (.agg #[(.string (mk [])), (.string (mk []))]) H) fun t4 h1 =>
ms (fun k1 =>
enterK C F.cursor_Cursor_zero [a0] h1 fun t10 h2 =>
mg t10 false (fun o2 => o2 a1 h2) h2 fun t12 h3 =>
mg t10 false (fun o3 => bareK (xbin P .eql T.p_model_Model (.tmp 12) (.const (.pointer none)) t12 (.pointer none)) h3 o3) h3 fun t13 h4 =>
pickK t10 (.bool true) t13 fun t14 =>
mc t14 (fun k4 => bareK (bldS #[(.string (mk [])), (.string (mk []))] [(0, 1), (1, 1)] []) h4 fun t15 h5 =>
quietK (stN 2 h5 t4 t15) fun _ h6 =>
k4 .ret [(4, t4), (5, (.int .i64 1))] h6) (fun k4 =>
bareK (xnilCheck a0) h4 fun t18 h7 =>
bareK (fad 2 t18) h7 fun t19 h8 =>
bareK (ld1 h8 t19) h8 fun t20 h9 =>
bareK (xbin P .neq T.cursor_side (.tmp 20) (.const (.int .i64 2)) t20 (.int .i64 2)) h9 fun t21 h10 =>
mc t21 (fun k5 => bareK (bldS #[(.string (mk [])), (.string (mk []))] [(0, 1), (1, 1)] []) h10 fun t22 h11 =>
quietK (stN 2 h11 t4 t22) fun _ h12 =>
k5 .ret [(4, t4), (5, (.int .i64 9))] h12) (fun k5 =>
k5 .normal [(0, a0), (1, a1), (4, t4)] h10) (afterK [0, 1, 4] k4)) (blkK [0, 1, 4] 0 k1)) (seqK (fun tT h13 =>
bareK (xnilCheck (get tT 0)) h13 fun t26 h14 =>
bareK (fad 3 t26) h14 fun t27 h15 =>
bareK (ld1 h15 t27) h15 fun t28 h16 =>
enterK C F.model_Model_Get [(get tT 1), t28] h16 fun t29 h17 =>
bareK (xextract t29 0) h17 fun t30 h18 =>
bareK (xextract t29 1) h18 fun t31 h19 =>
bareK (xbin P .neq T.api_Errno (.tmp 32) (.const (.int .i64 0)) t31 (.int .i64 0)) h19 fun t33 h20 =>
mc t33 (fun k6 => bareK (bldS #[(.string (mk [])), (.string (mk []))] [(0, 1), (1, 1)] []) h20 fun t34 h21 =>
quietK (stN 2 h21 (get tT 4) t34) fun _ h22 =>
k6 .ret [(4, (get tT 4)), (5, (.int .i64 9))] h22) (fun k6 =>
k6 .normal [(0, (get tT 0)), (4, (get tT 4)), (6, t30)] h20) (seqK (fun tT_1 h23 =>
bareK (xnilCheck (get tT_1 0)) h23 fun t36 h24 =>
bareK (fad 3 t36) h24 fun t37 h25 =>
bareK (ld1 h25 t37) h25 fun t38 h26 =>
bareK (bldS #[(.string (mk [])), (.string (mk []))] [(0, 1), (1, 1)] [(0, t38), (1, (get tT_1 6))]) h26 fun t40 h27 =>
quietK (stN 2 h27 (get tT_1 4) t40) fun _ h28 =>
K0 .ret [(4, (get tT_1 4)), (5, (.int .i64 0))] h28) K0)) K0)

theorem s_cursor_Cursor_See_eq (M : CombL) (C : CallF) (LP : LoopH) (a0 : Value) (a1 : Value) (H : AHeap) : dBodyL M Try.prog hints C LP F.cursor_Cursor_See [a0, a1] H = s_cursor_Cursor_See M.b.g M.c M.s Try.prog C a0 a1 H (endK Try.prog [.cell 4 T.api_Pair, .tmp 5]) := by kernel_rfl

/-! (*ticketline.cursor.Cursor).zero -/

noncomputable def s_cursor_Cursor_zero (mg : GT) (mc : CT) (ms : ST) (P : Program) (C : CallF) (a0 : Value) (H : AHeap) (K0 : K) : Res :=
bareK (xbin P .eql T.p_cursor_Cursor (.tmp 3) (.const (.pointer none)) a0 (.pointer none)) H fun t4 h1 =>
mg t4 false (fun o1 => o1 a0 h1) h1 fun t6 h2 =>
mg t4 false (fun o2 => bareK (xnilCheck t6) h2 o2) h2 fun t7 h3 =>
mg t4 false (fun o3 => bareK (fad 2 t7) h3 o3) h3 fun t8 h4 =>
mg t4 false (fun o4 => bareK (ld1 h4 t8) h4 o4) h4 fun t9 h5 =>
mg t4 false (fun o5 => bareK (xbin P .eql T.cursor_side (.tmp 9) (.const (.int .i64 0)) t9 (.int .i64 0)) h5 o5) h5 fun t10 h6 =>
pickK t4 (.bool true) t10 fun t11 =>
K0 .ret [(2, t11)] h6

theorem s_cursor_Cursor_zero_eq (M : CombL) (C : CallF) (LP : LoopH) (a0 : Value) (H : AHeap) : dBodyL M Try.prog hints C LP F.cursor_Cursor_zero [a0] H = s_cursor_Cursor_zero M.b.g M.c M.s Try.prog C a0 H (endK Try.prog [.tmp 2]) := by kernel_rfl

/-! (*ticketline.ticketlinelaw42.Model).to -/

noncomputable def s_law_Model_to (mg : GT) (mc : CT) (ms : ST) (P : Program) (C : CallF) (a0 : Value) (a1 : Value) (a2 : Value) (a3 : Value) (H : AHeap) (K0 : K) : Res :=
bothK (newv T.api_Pair a1 H) fun t5 h1 =>
bothK (newv T.api_Pair (.agg #[(.string (mk [])), (.string (mk []))]) h1) fun t8 h2 =>
bareK (xun P .not a2) h2 fun t11 h3 =>
mc t11 (fun k1 => bareK (xnilCheck a0) h3 fun t15 h4 =>
bareK (fad 2 t15) h4 fun t16 h5 =>
quietK (st1 h5 t16 (.string (mk []))) fun _ h6 =>
bareK (xnilCheck a0) h6 fun t17 h7 =>
bareK (fad 3 t17) h7 fun t18 h8 =>
quietK (st1 h8 t18 a3) fun _ h9 =>
bareK (bldS #[(.string (mk [])), (.string (mk []))] [(0, 1), (1, 1)] []) h9 fun t19 h10 =>
quietK (stN 2 h10 t8 t19) fun _ h11 =>
k1 .ret [(8, t8), (9, (.int .i64 17))] h11) (fun k1 =>
k1 .normal [(0, a0), (5, t5), (8, t8)] h3) (seqK (fun tT h12 =>
bareK (fad 0 (get tT 5)) h12 fun t22 h13 =>
bareK (ld1 h13 t22) h13 fun t23 h14 =>
bareK (xnilCheck (get tT 0)) h14 fun t24 h15 =>
bareK (fad 2 t24) h15 fun t25 h16 =>
quietK (st1 h16 t25 t23) fun _ h17 =>
bareK (xnilCheck (get tT 0)) h17 fun t26 h18 =>
bareK (fad 3 t26) h18 fun t27 h19 =>
quietK (st1 h19 t27 (.int .i64 0)) fun _ h20 =>
bareK (ldN 2 h20 (get tT 5)) h20 fun t28 h21 =>
quietK (stN 2 h21 (get tT 8) t28) fun _ h22 =>
K0 .ret [(8, (get tT 8)), (9, (.int .i64 0))] h22) K0)

theorem s_law_Model_to_eq (M : CombL) (C : CallF) (LP : LoopH) (a0 : Value) (a1 : Value) (a2 : Value) (a3 : Value) (H : AHeap) : dBodyL M Try.prog hints C LP F.law_Model_to [a0, a1, a2, a3] H = s_law_Model_to M.b.g M.c M.s Try.prog C a0 a1 a2 a3 H (endK Try.prog [.cell 8 T.api_Pair, .tmp 9]) := by kernel_rfl

/-! (*ticketline.ticketlinelaw42.Model).list -/

noncomputable def s_law_Model_list (mg : GT) (mc : CT) (ms : ST) (P : Program) (C : CallF) (L0 : Value → Value → Value → Value → AHeap → K → Res) (a0 : Value) (a1 : Value) (H : AHeap) (K0 : K) : Res :=
enterK C F.model_Model_Pairs [a1] H fun t9 h1 =>
ms (fun k1 =>
L0 a0 (.slice none 0 0) t9 (.int .i64 0) h1 (blkK [5] 0 k1)) (seqK (fun tT h2 =>
K0 .ret [(4, (get tT 5))] h2) K0)

noncomputable def s_law_Model_list_b0 (mg : GT) (mc : CT) (ms : ST) (P : Program) (C : CallF) (L0 : Value → Value → Value → Value → AHeap → K → Res) (v0 : Value) (v5 : Value) (v6 : Value) (v7 : Value) (H : AHeap) (k : K) : Res :=
bareK (lenS v6) H fun t12 h2 =>
bareK (xbin P .lss T.int (.tmp 10) (.tmp 12) v7 t12) h2 fun t13 h3 =>
mc t13 (fun k2 => k2 .normal [(0, v0), (5, v5), (6, v6), (7, v7)] h3) (fun k2 =>
k2 (.exit 0) [(13, t13), (12, t12), (11, v6), (10, v7), (0, v0), (5, v5), (6, v6), (7, v7)] h3) (seqK (fun tT h4 =>
ms (fun k3 =>
bareK (ixS 2 (get tT 6) (get tT 7)) h4 fun t19 h5 =>
bareK (fad 0 t19) h5 fun t20 h6 =>
bareK (ld1 h6 t20) h6 fun t21 h7 =>
enterK C F.law_Model_in [(get tT 0), t21] h7 fun t22 h8 =>
mc t22 (fun k4 => bareK (ixS 2 (get tT 6) (get tT 7)) h8 fun t26 h9 =>
bareK (ldN 2 h9 t26) h9 fun t27 h10 =>
bothK (bldL T.api_Pair [(.string (mk [])), (.string (mk []))] 1 [(0, t27)] h10) fun t28 h11 =>
bothK (app T.api_Pair 2 32 (get tT 5) (srcS 2 t28 h11) h11) fun t29 h12 =>
k4 .normal [(0, (get tT 0)), (5, t29), (6, (get tT 6)), (7, (get tT 7))] h12) (fun k4 =>
k4 .normal [(0, (get tT 0)), (5, (get tT 5)), (6, (get tT 6)), (7, (get tT 7))] h8) (blkK [0, 5, 6, 7] 1 k3)) (seqK (fun tT_1 h13 =>
bareK (xbin P .add T.int (.tmp 14) (.const (.int .i64 1)) (get tT_1 7) (.int .i64 1)) h13 fun t15 h14 =>
k .normal [(0, (get tT_1 0)), (5, (get tT_1 5)), (6, (get tT_1 6)), (7, t15)] h14) (afterK [0, 5, 6, 7] k))) (afterK [0, 5, 6, 7] k))

theorem s_law_Model_list_eq (M : CombL) (C : CallF) (LP : LoopH) (a0 : Value) (a1 : Value) (H : AHeap) : dBodyL M Try.prog hints C LP F.law_Model_list [a0, a1] H = s_law_Model_list M.b.g M.c M.s Try.prog C (fun v0 v5 v6 v7 H k => loopL M Try.prog hints C LP F.law_Model_list 0 [(0, v0), (5, v5), (6, v6), (7, v7)] H k) a0 a1 H (endK Try.prog [.tmp 4]) := by kernel_rfl

theorem s_law_Model_list_b0_eq (M : CombL) (C : CallF) (LP : LoopH) (v0 : Value) (v5 : Value) (v6 : Value) (v7 : Value) (H : AHeap) (k : K) : bodyL M Try.prog hints C LP F.law_Model_list 0 [(0, v0), (5, v5), (6, v6), (7, v7)] H (afterK [0, 5, 6, 7] k) = s_law_Model_list_b0 M.b.g M.c M.s Try.prog C (fun v0 v5 v6 v7 H k => loopL M Try.prog hints C LP F.law_Model_list 0 [(0, v0), (5, v5), (6, v6), (7, v7)] H k) v0 v5 v6 v7 H k := by kernel_rfl

/-! (*ticketline.ticketlinelaw42.Model).in -/

noncomputable def s_law_Model_in (mg : GT) (mc : CT) (ms : ST) (P : Program) (C : CallF) (a0 : Value) (a1 : Value) (H : AHeap) (K0 : K) : Res :=
bareK (xnilCheck a0) H fun t7 h1 =>
bareK (fad 0 t7) h1 fun t8 h2 =>
bareK (ld1 h2 t8) h2 fun t9 h3 =>
bareK (xbin P .geq T.string (.tmp 5) (.tmp 9) a1 t9) h3 fun t10 h4 =>
mg t10 true (fun o1 => o1 a0 h4) h4 fun t12 h5 =>
mg t10 true (fun o2 => bareK (xnilCheck t12) h5 o2) h5 fun t13 h6 =>
mg t10 true (fun o3 => bareK (fad 1 t13) h6 o3) h6 fun t14 h7 =>
mg t10 true (fun o4 => bareK (ld1 h7 t14) h7 o4) h7 fun t15 h8 =>
mg t10 true (fun o5 => bareK (xbin P .eql T.string (.tmp 15) (.const (.string (mk []))) t15 (.string (mk []))) h8 o5) h8 fun t16 h9 =>
mg t10 true (fun o6 => o6 t16 h9) h9 fun t17 h10 =>
mg t17 false (fun o7 => o7 a1 h10) h10 fun t18 h11 =>
mg t17 false (fun o8 => o8 a0 h11) h11 fun t19 h12 =>
mg t17 false (fun o9 => bareK (xnilCheck t19) h12 o9) h12 fun t20 h13 =>
mg t17 false (fun o10 => bareK (fad 1 t20) h13 o10) h13 fun t21 h14 =>
mg t17 false (fun o11 => bareK (ld1 h14 t21) h14 o11) h14 fun t22 h15 =>
mg t17 false (fun o12 => bareK (xbin P .lss T.string (.tmp 18) (.tmp 22) t18 t22) h15 o12) h15 fun t23 h16 =>
mg t10 true (fun o13 => pickK t17 (.bool true) t23 fun v => o13 v h16) h16 fun t24 h17 =>
pickK t10 t24 (.bool false) fun t25 =>
K0 .ret [(4, t25)] h17

theorem s_law_Model_in_eq (M : CombL) (C : CallF) (LP : LoopH) (a0 : Value) (a1 : Value) (H : AHeap) : dBodyL M Try.prog hints C LP F.law_Model_in [a0, a1] H = s_law_Model_in M.b.g M.c M.s Try.prog C a0 a1 H (endK Try.prog [.tmp 4]) := by kernel_rfl

/-! (*ticketline.model.Model).at -/

noncomputable def s_model_Model_at (mg : GT) (mc : CT) (ms : ST) (P : Program) (C : CallF) (a0 : Value) (a1 : Value) (a2 : Value) (H : AHeap) (K0 : K) : Res :=
bareK (xbin P .eql T.p_model_Model (.tmp 13) (.const (.pointer none)) a0 (.pointer none)) H fun t14 h1 =>
mc t14 (fun k1 => k1 .ret [(6, (.int .i64 0)), (7, (.bool false)), (8, (.int .i64 1))] h1) (fun k1 =>
k1 .normal [(0, a0), (1, a1), (2, a2)] h1) (seqK (fun tT h2 =>
enterK C F.model_check [(get tT 1), (get tT 2)] h2 fun t17 h3 =>
bareK (xbin P .neq T.api_Errno (.tmp 18) (.const (.int .i64 0)) t17 (.int .i64 0)) h3 fun t19 h4 =>
mc t19 (fun k2 => k2 .ret [(6, (.int .i64 0)), (7, (.bool false)), (8, t17)] h4) (fun k2 =>
k2 .normal [(0, (get tT 0)), (1, (get tT 1))] h4) (seqK (fun tT_1 h5 =>
callK P C (.func (.func F.model_Model_place) #[(get tT_1 0)] #[]) [(get tT_1 1)] h5 fun t26 h6 =>
bareK (xextract t26 0) h6 fun t27 h7 =>
bareK (xextract t26 1) h7 fun t28 h8 =>
K0 .ret [(6, t27), (7, t28), (8, (.int .i64 0))] h8) K0)) K0)

theorem s_model_Model_at_eq (M : CombL) (C : CallF) (LP : LoopH) (a0 : Value) (a1 : Value) (a2 : Value) (H : AHeap) : dBodyL M Try.prog hints C LP F.model_Model_at [a0, a1, a2] H = s_model_Model_at M.b.g M.c M.s Try.prog C a0 a1 a2 H (endK Try.prog [.tmp 6, .tmp 7, .tmp 8]) := by kernel_rfl

/-! (*ticketline.model.Model).set -/

noncomputable def s_model_Model_set (mg : GT) (mc : CT) (ms : ST) (P : Program) (C : CallF) (a0 : Value) (a1 : Value) (a2 : Value) (a3 : Value) (H : AHeap) (K0 : K) : Res :=
bothK (newv T.api_Pair a3 H) fun t7 h1 =>
ms (fun k1 =>
mc a2 (fun k2 => bareK (xnilCheck a0) h1 fun t23 h2 =>
bareK (fad 0 t23) h2 fun t24 h3 =>
bareK (ld1 h3 t24) h3 fun t25 h4 =>
bareK (ldN 2 h4 t7) h4 fun t27 h5 =>
bareK (ixS 2 t25 a1) h5 fun t28 h6 =>
quietK (stN 2 h6 t28 t27) fun _ h7 =>
checkK true <|
k2 .normal [] h7) (fun k2 =>
bareK (xnilCheck a0) h1 fun t31 h8 =>
bareK (fad 0 t31) h8 fun t32 h9 =>
bareK (ld1 h9 t32) h9 fun t33 h10 =>
bareK (lenS t33) h10 fun t34 h11 =>
bareK (xbin P .eql T.int (.tmp 34) (.const (.int .i64 20000)) t34 (.int .i64 20000)) h11 fun t35 h12 =>
mc t35 (fun k3 => k3 .ret [(8, (.int .i64 7))] h12) (fun k3 =>
bareK (xnilCheck a0) h12 fun t11 h13 =>
bareK (fad 0 t11) h13 fun t12 h14 =>
bareK (ld1 h14 t12) h14 fun t13 h15 =>
bareK (ldN 2 h15 t7) h15 fun t15 h16 =>
bothK (bldL T.api_Pair [(.string (mk [])), (.string (mk []))] 1 [(0, t15)] h16) fun t16 h17 =>
enterK C F.slices_Insert_Pair [t13, a1, t16] h17 fun t17 h18 =>
bareK (xnilCheck a0) h18 fun t18 h19 =>
bareK (fad 0 t18) h19 fun t19 h20 =>
quietK (st1 h20 t19 t17) fun _ h21 =>
checkK (okV (some true) none h17 h18 h12 h12 && true) <|
k3 .normal [] h21) (afterK [] k2)) (blkK [] 0 k1)) (seqK (fun tT h22 =>
K0 .ret [(8, (.int .i64 0))] h22) K0)

theorem s_model_Model_set_eq (M : CombL) (C : CallF) (LP : LoopH) (a0 : Value) (a1 : Value) (a2 : Value) (a3 : Value) (H : AHeap) : dBodyL M Try.prog hints C LP F.model_Model_set [a0, a1, a2, a3] H = s_model_Model_set M.b.g M.c M.s Try.prog C a0 a1 a2 a3 H (endK Try.prog [.tmp 8]) := by kernel_rfl

/-! (*ticketline.model.Model).place -/

noncomputable def s_model_Model_place (mg : GT) (mc : CT) (ms : ST) (P : Program) (C : CallF) (a0 : Value) (a1 : Value) (H : AHeap) (K0 : K) : Res :=
bareK (xnilCheck a0) H fun t7 h1 =>
bareK (fad 0 t7) h1 fun t8 h2 =>
bareK (ld1 h2 t8) h2 fun t9 h3 =>
enterK C F.slices_BinarySearchFunc_string [t9, a1, (.func (.func F.model_Model_place_1) #[] #[])] h3 fun t11 h4 =>
bareK (xextract t11 0) h4 fun t12 h5 =>
bareK (xextract t11 1) h5 fun t13 h6 =>
K0 .ret [(4, t12), (5, t13)] h6

theorem s_model_Model_place_eq (M : CombL) (C : CallF) (LP : LoopH) (a0 : Value) (a1 : Value) (H : AHeap) : dBodyL M Try.prog hints C LP F.model_Model_place [a0, a1] H = s_model_Model_place M.b.g M.c M.s Try.prog C a0 a1 H (endK Try.prog [.tmp 4, .tmp 5]) := by kernel_rfl

/-! slices.Delete[[]ticketline.api.Pair,ticketline.api.Pair] -/

noncomputable def s_slices_Delete_Pair (mg : GT) (mc : CT) (ms : ST) (P : Program) (C : CallF) (a0 : Value) (a1 : Value) (a2 : Value) (H : AHeap) (K0 : K) : Res :=
bareK (lenS a0) H fun t12 h1 =>
bareK (slS T.api_Pair 2 a0 (some a1) (some a2) (some t12) h1) h1 fun t13 h2 =>
bareK (xbin P .eql T.int (.tmp 14) (.tmp 15) a1 a2) h2 fun t16 h3 =>
mc t16 (fun k1 => k1 .ret [(6, a0)] h3) (fun k1 =>
k1 .normal [(0, a0), (1, a1), (2, a2)] h3) (seqK (fun tT h4 =>
bareK (lenS (get tT 0)) h4 fun t19 h5 =>
bareK (slS T.api_Pair 2 (get tT 0) none (some (get tT 1)) none h5) h5 fun t22 h6 =>
bareK (slS T.api_Pair 2 (get tT 0) (some (get tT 2)) none none h6) h6 fun t25 h7 =>
bothK (app T.api_Pair 2 32 t22 (srcS 2 t25 h7) h7) fun t26 h8 =>
checkK true <|
bareK (lenS t26) h8 fun t29 h9 =>
bareK (slS T.api_Pair 2 t26 (some t29) (some t19) none h9) h9 fun t31 h10 =>
bothK (xclear P [T.sl_api_Pair] t31 h10) fun _ h11 =>
K0 .ret [(6, t26)] h11) K0)

theorem s_slices_Delete_Pair_eq (M : CombL) (C : CallF) (LP : LoopH) (a0 : Value) (a1 : Value) (a2 : Value) (H : AHeap) : dBodyL M Try.prog hints C LP F.slices_Delete_Pair [a0, a1, a2] H = s_slices_Delete_Pair M.b.g M.c M.s Try.prog C a0 a1 a2 H (endK Try.prog [.tmp 6]) := by kernel_rfl

/-! (ticketline.cursor.span).pairs -/

noncomputable def s_cursor_span_pairs (mg : GT) (mc : CT) (ms : ST) (P : Program) (C : CallF) (a0 : Value) (a1 : Value) (H : AHeap) (K0 : K) : Res :=
bothK (newv T.cursor_span a0 H) fun t2 h1 =>
enterK C F.model_Model_Pairs [a1] h1 fun t9 h2 =>
bothK (newv T.sl_api_Pair (.slice none 0 0) h2) fun t5 h3 =>
quietK (st1 h3 t5 t9) fun _ h4 =>
bareK (ld1 h4 t5) h4 fun t10 h5 =>
bareK (lenS t10) h5 fun t11 h6 =>
enterK C F.sort_Search [t11, (.func (.func F.cursor_span_pairs_1) #[] #[t5, t2])] h6 fun t13 h7 =>
bareK (ld1 h7 t5) h7 fun t14 h8 =>
bareK (lenS t14) h8 fun t15 h9 =>
enterK C F.sort_Search [t15, (.func (.func F.cursor_span_pairs_2) #[] #[t2, t5])] h9 fun t17 h10 =>
bareK (ld1 h10 t5) h10 fun t18 h11 =>
nextK C h11 (xbuiltin P .max [T.int, T.int] [t13, t17] h11) fun t22 h12 =>
bareK (slS T.api_Pair 2 t18 (some t13) (some t22) none h12) h12 fun t23 h13 =>
K0 .ret [(4, t23)] h13

theorem s_cursor_span_pairs_eq (M : CombL) (C : CallF) (LP : LoopH) (a0 : Value) (a1 : Value) (H : AHeap) : dBodyL M Try.prog hints C LP F.cursor_span_pairs [a0, a1] H = s_cursor_span_pairs M.b.g M.c M.s Try.prog C a0 a1 H (endK Try.prog [.tmp 4]) := by kernel_rfl

/-! (*ticketline.cursor.Cursor).set -/

noncomputable def s_cursor_Cursor_set (mg : GT) (mc : CT) (ms : ST) (P : Program) (C : CallF) (a0 : Value) (a1 : Value) (a2 : Value) (a3 : Value) (H : AHeap) (K0 : K) : Res :=
bothK (newv T.api_Pair (.agg #[(.string (mk [])), (.string (mk []))]) H) fun t8 h1 =>
bareK (xbin P .lss T.int (.tmp 10) (.const (.int .i64 0)) a2 (.int .i64 0)) h1 fun t11 h2 =>
mg t11 false (fun o1 => o1 a2 h2) h2 fun t13 h3 =>
mg t11 false (fun o2 => o2 a1 h3) h3 fun t14 h4 =>
mg t11 false (fun o3 => bareK (lenS t14) h4 o3) h4 fun t15 h5 =>
mg t11 false (fun o4 => bareK (xbin P .geq T.int (.tmp 13) (.tmp 15) t13 t15) h5 o4) h5 fun t16 h6 =>
pickK t11 (.bool true) t16 fun t17 =>
mc t17 (fun k5 => bareK (xnilCheck a0) h6 fun t21 h7 =>
bareK (fad 2 t21) h7 fun t22 h8 =>
quietK (st1 h8 t22 a3) fun _ h9 =>
bareK (xnilCheck a0) h9 fun t23 h10 =>
bareK (fad 3 t23) h10 fun t24 h11 =>
quietK (st1 h11 t24 (.string (mk []))) fun _ h12 =>
bareK (bldS #[(.string (mk [])), (.string (mk []))] [(0, 1), (1, 1)] []) h12 fun t25 h13 =>
quietK (stN 2 h13 t8 t25) fun _ h14 =>
k5 .ret [(8, t8), (9, (.int .i64 17))] h14) (fun k5 =>
k5 .normal [(0, a0), (1, a1), (2, a2), (8, t8)] h6) (seqK (fun tT h15 =>
bareK (ixS 2 (get tT 1) (get tT 2)) h15 fun t30 h16 =>
bareK (fad 0 t30) h16 fun t31 h17 =>
bareK (ld1 h17 t31) h17 fun t32 h18 =>
bareK (xnilCheck (get tT 0)) h18 fun t33 h19 =>
bareK (fad 2 t33) h19 fun t34 h20 =>
quietK (st1 h20 t34 (.int .i64 2)) fun _ h21 =>
bareK (xnilCheck (get tT 0)) h21 fun t35 h22 =>
bareK (fad 3 t35) h22 fun t36 h23 =>
quietK (st1 h23 t36 t32) fun _ h24 =>
bareK (ixS 2 (get tT 1) (get tT 2)) h24 fun t39 h25 =>
bareK (ldN 2 h25 t39) h25 fun t40 h26 =>
quietK (stN 2 h26 (get tT 8) t40) fun _ h27 =>
K0 .ret [(8, (get tT 8)), (9, (.int .i64 0))] h27) K0)

theorem s_cursor_Cursor_set_eq (M : CombL) (C : CallF) (LP : LoopH) (a0 : Value) (a1 : Value) (a2 : Value) (a3 : Value) (H : AHeap) : dBodyL M Try.prog hints C LP F.cursor_Cursor_set [a0, a1, a2, a3] H = s_cursor_Cursor_set M.b.g M.c M.s Try.prog C a0 a1 a2 a3 H (endK Try.prog [.cell 8 T.api_Pair, .tmp 9]) := by kernel_rfl

/-! (*ticketline.cursor.Cursor).forward -/

noncomputable def s_cursor_Cursor_forward (mg : GT) (mc : CT) (ms : ST) (P : Program) (C : CallF) (a0 : Value) (a1 : Value) (H : AHeap) (K0 : K) : Res :=
bothK (newv T.p_cursor_Cursor a0 H) fun t2 h1 =>
bothK (newv T.sl_api_Pair a1 h1) fun t3 h2 =>
bareK (ld1 h2 t2) h2 fun t5 h3 =>
bareK (xnilCheck t5) h3 fun t6 h4 =>
bareK (fad 2 t6) h4 fun t7 h5 =>
bareK (ld1 h5 t7) h5 fun t8 h6 =>
ms (fun k1 =>
bareK (xbin P .eql T.cursor_side (.tmp 8) (.const (.int .i64 1)) t8 (.int .i64 1)) h6 fun t10 h7 =>
mc t10 (fun k2 => k2 .ret [(4, (.int .i64 0))] h7) (fun k2 =>
bareK (xbin P .eql T.cursor_side (.tmp 8) (.const (.int .i64 3)) t8 (.int .i64 3)) h7 fun t12 h8 =>
mc t12 (fun k3 => bareK (ld1 h8 t3) h8 fun t13 h9 =>
bareK (lenS t13) h9 fun t14 h10 =>
k3 .ret [(4, t14)] h10) (fun k3 =>
k3 .normal [(2, t2), (3, t3)] h8) (afterK [2, 3] k2)) (blkK [2, 3] 0 k1)) (seqK (fun tT h11 =>
bareK (ld1 h11 (get tT 3)) h11 fun t15 h12 =>
bareK (lenS t15) h12 fun t16 h13 =>
enterK C F.sort_Search [t16, (.func (.func F.cursor_Cursor_forward_1) #[] #[(get tT 3), (get tT 2)])] h13 fun t18 h14 =>
K0 .ret [(4, t18)] h14) K0)

theorem s_cursor_Cursor_forward_eq (M : CombL) (C : CallF) (LP : LoopH) (a0 : Value) (a1 : Value) (H : AHeap) : dBodyL M Try.prog hints C LP F.cursor_Cursor_forward [a0, a1] H = s_cursor_Cursor_forward M.b.g M.c M.s Try.prog C a0 a1 H (endK Try.prog [.tmp 4]) := by kernel_rfl

/-! slices.Clone[[]ticketline.api.Pair,ticketline.api.Pair] -/

noncomputable def s_slices_Clone_Pair (mg : GT) (mc : CT) (ms : ST) (P : Program) (C : CallF) (a0 : Value) (H : AHeap) (K0 : K) : Res :=
bareK (xbin P .eql T.sl_api_Pair (.tmp 3) (.const (.slice none 0 0)) a0 (.slice none 0 0)) H fun t4 h1 =>
mc t4 (fun k1 => k1 .ret [(2, (.slice none 0 0))] h1) (fun k1 =>
k1 .normal [(0, a0)] h1) (seqK (fun tT h2 =>
bothK (bldL T.api_Pair [(.string (mk [])), (.string (mk []))] 0 [] h2) fun t5 h3 =>
bothK (app T.api_Pair 2 32 t5 (srcS 2 (get tT 0) h3) h3) fun t7 h4 =>
K0 .ret [(2, t7)] h4) K0)

theorem s_slices_Clone_Pair_eq (M : CombL) (C : CallF) (LP : LoopH) (a0 : Value) (H : AHeap) : dBodyL M Try.prog hints C LP F.slices_Clone_Pair [a0] H = s_slices_Clone_Pair M.b.g M.c M.s Try.prog C a0 H (endK Try.prog [.tmp 2]) := by kernel_rfl

/-! ticketline.model.check -/

noncomputable def s_model_check (mg : GT) (mc : CT) (ms : ST) (P : Program) (C : CallF) (a0 : Value) (a1 : Value) (H : AHeap) (K0 : K) : Res :=
ms (fun k1 =>
bareK (xbin P .eql T.string (.tmp 6) (.const (.string (mk []))) a0 (.string (mk []))) H fun t7 h1 =>
mc t7 (fun k2 => k2 .ret [(4, (.int .i64 2))] h1) (fun k2 =>
bareK (lenT a0) h1 fun t10 h2 =>
bareK (xbin P .gtr T.int (.tmp 10) (.const (.int .i64 24)) t10 (.int .i64 24)) h2 fun t11 h3 =>
mg t11 false (fun o3 => o3 a1 h3) h3 fun t13 h4 =>
mg t11 false (fun o4 => enterK C F.slices_ContainsFunc_string [t13, (.func (.func F.model_check_1) #[] #[])] h4 o4) h4 fun t14 h5 =>
pickK t11 (.bool true) t14 fun t15 =>
mc t15 (fun k5 => k5 .ret [(4, (.int .i64 5))] h5) (fun k5 =>
k5 .normal [] h5) (afterK [] k2)) (blkK [] 0 k1)) (seqK (fun tT h6 =>
K0 .ret [(4, (.int .i64 0))] h6) K0)

theorem s_model_check_eq (M : CombL) (C : CallF) (LP : LoopH) (a0 : Value) (a1 : Value) (H : AHeap) : dBodyL M Try.prog hints C LP F.model_check [a0, a1] H = s_model_check M.b.g M.c M.s Try.prog C a0 a1 H (endK Try.prog [.tmp 4]) := by kernel_rfl

/-! strings.Compare -/

noncomputable def s_strings_Compare (mg : GT) (mc : CT) (ms : ST) (P : Program) (C : CallF) (a0 : Value) (a1 : Value) (H : AHeap) (K0 : K) : Res :=
enterK C F.internal_bytealg_CompareString [a0, a1] H fun t7 h1 =>
K0 .ret [(4, t7)] h1

theorem s_strings_Compare_eq (M : CombL) (C : CallF) (LP : LoopH) (a0 : Value) (a1 : Value) (H : AHeap) : dBodyL M Try.prog hints C LP F.strings_Compare [a0, a1] H = s_strings_Compare M.b.g M.c M.s Try.prog C a0 a1 H (endK Try.prog [.tmp 4]) := by kernel_rfl

/-! sort.Search -/

noncomputable def s_sort_Search (mg : GT) (mc : CT) (ms : ST) (P : Program) (C : CallF) (L0 : Value → Value → Value → AHeap → K → Res) (a0 : Value) (a1 : Value) (H : AHeap) (K0 : K) : Res :=
ms (fun k1 =>
L0 a1 (.int .i64 0) a0 H (blkK [5] 0 k1)) (seqK (fun tT h1 =>
K0 .ret [(4, (get tT 5))] h1) K0)

noncomputable def s_sort_Search_b0 (mg : GT) (mc : CT) (ms : ST) (P : Program) (C : CallF) (L0 : Value → Value → Value → AHeap → K → Res) (v1 : Value) (v5 : Value) (v6 : Value) (H : AHeap) (k : K) : Res :=
bareK (xbin P .lss T.int (.tmp 9) (.tmp 10) v5 v6) H fun t11 h1 =>
mc t11 (fun k2 => k2 .normal [(1, v1), (5, v5), (6, v6)] h1) (fun k2 =>
k2 (.exit 0) [(11, t11), (10, v6), (9, v5), (1, v1), (5, v5), (6, v6)] h1) (seqK (fun tT h2 =>
ms (fun k3 =>
bareK (xbin P .add T.int (.tmp 12) (.tmp 13) (get tT 5) (get tT 6)) h2 fun t14 h3 =>
bothK (xconv P T.int T.uint t14 h3) fun t15 h4 =>
bareK (xbin P .shr T.uint (.tmp 15) (.const (.int .u64 1)) t15 (.int .u64 1)) h4 fun t16 h5 =>
bothK (xconv P T.uint T.int t16 h5) fun t17 h6 =>
callK P C (get tT 1) [t17] h6 fun t20 h7 =>
bareK (xun P .not t20) h7 fun t21 h8 =>
mc t21 (fun k4 => bareK (xbin P .add T.int (.tmp 22) (.const (.int .i64 1)) t17 (.int .i64 1)) h8 fun t23 h9 =>
k4 .normal [(1, (get tT 1)), (5, t23), (6, (get tT 6))] h9) (fun k4 =>
k4 .normal [(1, (get tT 1)), (5, (get tT 5)), (6, t17)] h8) (blkK [1, 5, 6] 1 k3)) (afterK [1, 5, 6] k)) (afterK [1, 5, 6] k))

theorem s_sort_Search_eq (M : CombL) (C : CallF) (LP : LoopH) (a0 : Value) (a1 : Value) (H : AHeap) : dBodyL M Try.prog hints C LP F.sort_Search [a0, a1] H = s_sort_Search M.b.g M.c M.s Try.prog C (fun v1 v5 v6 H k => loopL M Try.prog hints C LP F.sort_Search 0 [(1, v1), (5, v5), (6, v6)] H k) a0 a1 H (endK Try.prog [.tmp 4]) := by kernel_rfl

theorem s_sort_Search_b0_eq (M : CombL) (C : CallF) (LP : LoopH) (v1 : Value) (v5 : Value) (v6 : Value) (H : AHeap) (k : K) : bodyL M Try.prog hints C LP F.sort_Search 0 [(1, v1), (5, v5), (6, v6)] H (afterK [1, 5, 6] k) = s_sort_Search_b0 M.b.g M.c M.s Try.prog C (fun v1 v5 v6 H k => loopL M Try.prog hints C LP F.sort_Search 0 [(1, v1), (5, v5), (6, v6)] H k) v1 v5 v6 H k := by kernel_rfl

/-! (*ticketline.cursor.Cursor).Prev$1 -/

noncomputable def s_cursor_Cursor_Prev_1 (mg : GT) (mc : CT) (ms : ST) (P : Program) (C : CallF) (a0 : Value) (a1 : Value) (a2 : Value) (H : AHeap) (K0 : K) : Res :=
bareK (ld1 H a1) H fun t5 h1 =>
bareK (ixS 2 t5 a0) h1 fun t7 h2 =>
bareK (fad 0 t7) h2 fun t8 h3 =>
bareK (ld1 h3 t8) h3 fun t9 h4 =>
bareK (ld1 h4 a2) h4 fun t10 h5 =>
bareK (xnilCheck t10) h5 fun t11 h6 =>
bareK (fad 3 t11) h6 fun t12 h7 =>
bareK (ld1 h7 t12) h7 fun t13 h8 =>
bareK (xbin P .geq T.string (.tmp 9) (.tmp 13) t9 t13) h8 fun t14 h9 =>
checkK true <|
K0 .ret [(4, t14)] h9

theorem s_cursor_Cursor_Prev_1_eq (M : CombL) (C : CallF) (LP : LoopH) (a0 : Value) (a1 : Value) (a2 : Value) (H : AHeap) : dBodyL M Try.prog hints C LP F.cursor_Cursor_Prev_1 [a0, a1, a2] H = s_cursor_Cursor_Prev_1 M.b.g M.c M.s Try.prog C a0 a1 a2 H (endK Try.prog [.tmp 4]) := by kernel_rfl

/-! (ticketline.cursor.span).has -/

noncomputable def s_cursor_span_has (mg : GT) (mc : CT) (ms : ST) (P : Program) (C : CallF) (a0 : Value) (a1 : Value) (H : AHeap) (K0 : K) : Res :=
bothK (newv T.cursor_span a0 H) fun t2 h1 =>
bareK (fad 0 t2) h1 fun t6 h2 =>
bareK (ld1 h2 t6) h2 fun t7 h3 =>
bareK (xbin P .geq T.string (.tmp 5) (.tmp 7) a1 t7) h3 fun t8 h4 =>
mg t8 true (fun o1 => bareK (fad 1 t2) h4 o1) h4 fun t10 h5 =>
mg t8 true (fun o2 => bareK (ld1 h5 t10) h5 o2) h5 fun t11 h6 =>
mg t8 true (fun o3 => bareK (xbin P .eql T.string (.tmp 11) (.const (.string (mk []))) t11 (.string (mk []))) h6 o3) h6 fun t12 h7 =>
mg t8 true (fun o4 => o4 t12 h7) h7 fun t13 h8 =>
mg t13 false (fun o5 => o5 a1 h8) h8 fun t14 h9 =>
mg t13 false (fun o6 => bareK (fad 1 t2) h9 o6) h9 fun t15 h10 =>
mg t13 false (fun o7 => bareK (ld1 h10 t15) h10 o7) h10 fun t16 h11 =>
mg t13 false (fun o8 => bareK (xbin P .lss T.string (.tmp 14) (.tmp 16) t14 t16) h11 o8) h11 fun t17 h12 =>
mg t8 true (fun o9 => pickK t13 (.bool true) t17 fun v => o9 v h12) h12 fun t18 h13 =>
pickK t8 t18 (.bool false) fun t19 =>
K0 .ret [(4, t19)] h13

theorem s_cursor_span_has_eq (M : CombL) (C : CallF) (LP : LoopH) (a0 : Value) (a1 : Value) (H : AHeap) : dBodyL M Try.prog hints C LP F.cursor_span_has [a0, a1] H = s_cursor_span_has M.b.g M.c M.s Try.prog C a0 a1 H (endK Try.prog [.tmp 4]) := by kernel_rfl

/-! (*ticketline.cursor.Cursor).Seek$1 -/

noncomputable def s_cursor_Cursor_Seek_1 (mg : GT) (mc : CT) (ms : ST) (P : Program) (C : CallF) (a0 : Value) (a1 : Value) (a2 : Value) (H : AHeap) (K0 : K) : Res :=
bareK (ld1 H a1) H fun t5 h1 =>
bareK (ixS 2 t5 a0) h1 fun t7 h2 =>
bareK (fad 0 t7) h2 fun t8 h3 =>
bareK (ld1 h3 t8) h3 fun t9 h4 =>
bareK (ld1 h4 a2) h4 fun t10 h5 =>
bareK (xbin P .geq T.string (.tmp 9) (.tmp 10) t9 t10) h5 fun t11 h6 =>
checkK true <|
K0 .ret [(4, t11)] h6

theorem s_cursor_Cursor_Seek_1_eq (M : CombL) (C : CallF) (LP : LoopH) (a0 : Value) (a1 : Value) (a2 : Value) (H : AHeap) : dBodyL M Try.prog hints C LP F.cursor_Cursor_Seek_1 [a0, a1, a2] H = s_cursor_Cursor_Seek_1 M.b.g M.c M.s Try.prog C a0 a1 a2 H (endK Try.prog [.tmp 4]) := by kernel_rfl

/-! slices.Insert[[]ticketline.api.Pair,ticketline.api.Pair] -/

noncomputable def s_slices_Insert_Pair (mg : GT) (mc : CT) (ms : ST) (P : Program) (C : CallF) (a0 : Value) (a1 : Value) (a2 : Value) (H : AHeap) (K0 : K) : Res :=
bareK (slS T.api_Pair 2 a0 (some a1) none none H) H fun t12 h1 =>
bareK (lenS a2) h1 fun t14 h2 =>
bareK (xbin P .eql T.int (.tmp 15) (.const (.int .i64 0)) t14 (.int .i64 0)) h2 fun t16 h3 =>
mc t16 (fun k1 => k1 .ret [(6, a0)] h3) (fun k1 =>
k1 .normal [(0, a0), (1, a1), (2, a2), (7, t14)] h3) (seqK (fun tT h4 =>
bareK (lenS (get tT 0)) h4 fun t19 h5 =>
bareK (xbin P .eql T.int (.tmp 20) (.tmp 21) (get tT 1) t19) h5 fun t22 h6 =>
mc t22 (fun k2 => bothK (app T.api_Pair 2 32 (get tT 0) (srcS 2 (get tT 2) h6) h6) fun t25 h7 =>
k2 .ret [(6, t25)] h7) (fun k2 =>
k2 .normal [(0, (get tT 0)), (1, (get tT 1)), (2, (get tT 2)), (7, (get tT 7)), (8, t19)] h6) (seqK (fun tT_1 h8 =>
bareK (xbin P .add T.int (.tmp 26) (.tmp 27) (get tT_1 8) (get tT_1 7)) h8 fun t28 h9 =>
nextK C h9 (xbuiltin P .cap [T.sl_api_Pair] [(get tT_1 0)] h9) fun t30 h10 =>
bareK (xbin P .gtr T.int (.tmp 28) (.tmp 30) t28 t30) h10 fun t31 h11 =>
mc t31 (fun k3 => bareK (slS T.api_Pair 2 (get tT_1 0) none (some (get tT_1 1)) none h11) h11 fun t34 h12 =>
bareK (xbin P .add T.int (.tmp 35) (.tmp 36) (get tT_1 8) (get tT_1 7)) h12 fun t37 h13 =>
bareK (xbin P .sub T.int (.tmp 37) (.tmp 38) t37 (get tT_1 1)) h13 fun t39 h14 =>
bothK (app T.api_Pair 2 32 t34 (srcZ [(.string (mk [])), (.string (mk []))] 32 t39) h14) fun t40 h15 =>
bareK (slS T.api_Pair 2 t40 (some (get tT_1 1)) none none h15) h15 fun t43 h16 =>
bothK (cpy 2 t43 (get tT_1 2) h16) fun t45 h17 =>
bareK (xbin P .add T.int (.tmp 47) (.tmp 48) (get tT_1 1) (get tT_1 7)) h17 fun t49 h18 =>
bareK (slS T.api_Pair 2 t40 (some t49) none none h18) h18 fun t50 h19 =>
bareK (slS T.api_Pair 2 (get tT_1 0) (some (get tT_1 1)) none none h19) h19 fun t53 h20 =>
bothK (cpy 2 t50 t53 h20) fun t54 h21 =>
checkK true <|
k3 .ret [(6, t40)] h21) (fun k3 =>
k3 .normal [(0, (get tT_1 0)), (1, (get tT_1 1)), (2, (get tT_1 2)), (7, (get tT_1 7)), (8, (get tT_1 8))] h11) (seqK (fun tT_2 h22 =>
bareK (xbin P .add T.int (.tmp 57) (.tmp 58) (get tT_2 8) (get tT_2 7)) h22 fun t59 h23 =>
bareK (slS T.api_Pair 2 (get tT_2 0) none (some t59) none h23) h23 fun t60 h24 =>
bareK (xbin P .add T.int (.tmp 63) (.tmp 64) (get tT_2 1) (get tT_2 7)) h24 fun t65 h25 =>
bareK (slS T.api_Pair 2 t60 (some t65) none none h25) h25 fun t66 h26 =>
bareK (xext P Try.f64 [(get tT_2 2), t66] h26) h26 fun t67 h27 =>
bareK (xun P .not t67) h27 fun t68 h28 =>
mc t68 (fun k4 => bareK (xbin P .add T.int (.tmp 70) (.tmp 71) (get tT_2 1) (get tT_2 7)) h28 fun t72 h29 =>
bareK (slS T.api_Pair 2 t60 (some t72) none none h29) h29 fun t73 h30 =>
bareK (slS T.api_Pair 2 t60 (some (get tT_2 1)) none none h30) h30 fun t76 h31 =>
bothK (cpy 2 t73 t76 h31) fun t77 h32 =>
checkK true <|
bareK (slS T.api_Pair 2 t60 (some (get tT_2 1)) none none h32) h32 fun t80 h33 =>
bothK (cpy 2 t80 (get tT_2 2) h33) fun t82 h34 =>
k4 .ret [(6, t60)] h34) (fun k4 =>
k4 .normal [(0, t60), (1, (get tT_2 1)), (2, (get tT_2 2)), (7, (get tT_2 7)), (8, (get tT_2 8))] h28) (seqK (fun tT_3 h35 =>
bareK (slS T.api_Pair 2 (get tT_3 0) (some (get tT_3 8)) none none h35) h35 fun t86 h36 =>
bothK (cpy 2 t86 (get tT_3 2) h36) fun t88 h37 =>
bareK (slS T.api_Pair 2 (get tT_3 0) (some (get tT_3 1)) none none h37) h37 fun t91 h38 =>
enterK C F.slices_rotateRight_Pair [t91, (get tT_3 7)] h38 fun t93 h39 =>
K0 .ret [(6, (get tT_3 0))] h39) K0)) K0)) K0)) K0)

theorem s_slices_Insert_Pair_eq (M : CombL) (C : CallF) (LP : LoopH) (a0 : Value) (a1 : Value) (a2 : Value) (H : AHeap) : dBodyL M Try.prog hints C LP F.slices_Insert_Pair [a0, a1, a2] H = s_slices_Insert_Pair M.b.g M.c M.s Try.prog C a0 a1 a2 H (endK Try.prog [.tmp 6]) := by kernel_rfl

/-! slices.BinarySearchFunc[[]ticketline.api.Pair,ticketline.api.Pair,string] -/

noncomputable def s_slices_BinarySearchFunc_string (mg : GT) (mc : CT) (ms : ST) (P : Program) (C : CallF) (L0 : Value → Value → Value → Value → Value → Value → AHeap → K → Res) (a0 : Value) (a1 : Value) (a2 : Value) (H : AHeap) (K0 : K) : Res :=
bareK (lenS a0) H fun t13 h1 =>
ms (fun k1 =>
L0 a0 a1 a2 t13 (.int .i64 0) t13 h1 (blkK [0, 1, 2, 8, 9] 0 k1)) (seqK (fun tT h2 =>
bareK (xbin P .lss T.int (.tmp 36) (.tmp 37) (get tT 9) (get tT 8)) h2 fun t38 h3 =>
mg t38 true (fun o2 => o2 (get tT 2) h3) h3 fun t40 h4 =>
mg t38 true (fun o3 => o3 (get tT 0) h4) h4 fun t41 h5 =>
mg t38 true (fun o4 => o4 (get tT 9) h5) h5 fun t42 h6 =>
mg t38 true (fun o5 => bareK (ixS 2 t41 t42) h6 o5) h6 fun t43 h7 =>
mg t38 true (fun o6 => bareK (ldN 2 h7 t43) h7 o6) h7 fun t44 h8 =>
mg t38 true (fun o7 => o7 (get tT 1) h8) h8 fun t45 h9 =>
mg t38 true (fun o8 => callK P C t40 [t44, t45] h9 o8) h9 fun t46 h10 =>
mg t38 true (fun o9 => bareK (xbin P .eql T.int (.tmp 46) (.const (.int .i64 0)) t46 (.int .i64 0)) h10 o9) h10 fun t47 h11 =>
pickK t38 t47 (.bool false) fun t48 =>
K0 .ret [(6, (get tT 9)), (7, t48)] h11) K0)

noncomputable def s_slices_BinarySearchFunc_string_b0 (mg : GT) (mc : CT) (ms : ST) (P : Program) (C : CallF) (L0 : Value → Value → Value → Value → Value → Value → AHeap → K → Res) (v0 : Value) (v1 : Value) (v2 : Value) (v8 : Value) (v9 : Value) (v10 : Value) (H : AHeap) (k : K) : Res :=
bareK (xbin P .lss T.int (.tmp 15) (.tmp 16) v9 v10) H fun t17 h2 =>
mc t17 (fun k2 => k2 .normal [(0, v0), (1, v1), (2, v2), (8, v8), (9, v9), (10, v10)] h2) (fun k2 =>
k2 (.exit 0) [(17, t17), (16, v10), (15, v9), (0, v0), (1, v1), (2, v2), (8, v8), (9, v9), (10, v10)] h2) (seqK (fun tT h3 =>
ms (fun k3 =>
bareK (xbin P .add T.int (.tmp 18) (.tmp 19) (get tT 9) (get tT 10)) h3 fun t20 h4 =>
bothK (xconv P T.int T.uint t20 h4) fun t21 h5 =>
bareK (xbin P .shr T.uint (.tmp 21) (.const (.int .u64 1)) t21 (.int .u64 1)) h5 fun t22 h6 =>
bothK (xconv P T.uint T.int t22 h6) fun t23 h7 =>
bareK (ixS 2 (get tT 0) t23) h7 fun t27 h8 =>
bareK (ldN 2 h8 t27) h8 fun t28 h9 =>
callK P C (get tT 2) [t28, (get tT 1)] h9 fun t30 h10 =>
bareK (xbin P .lss T.int (.tmp 30) (.const (.int .i64 0)) t30 (.int .i64 0)) h10 fun t31 h11 =>
mc t31 (fun k4 => bareK (xbin P .add T.int (.tmp 32) (.const (.int .i64 1)) t23 (.int .i64 1)) h11 fun t33 h12 =>
k4 .normal [(0, (get tT 0)), (1, (get tT 1)), (2, (get tT 2)), (8, (get tT 8)), (9, t33), (10, (get tT 10))] h12) (fun k4 =>
k4 .normal [(0, (get tT 0)), (1, (get tT 1)), (2, (get tT 2)), (8, (get tT 8)), (9, (get tT 9)), (10, t23)] h11) (blkK [0, 1, 2, 8, 9, 10] 1 k3)) (afterK [0, 1, 2, 8, 9, 10] k)) (afterK [0, 1, 2, 8, 9, 10] k))

theorem s_slices_BinarySearchFunc_string_eq (M : CombL) (C : CallF) (LP : LoopH) (a0 : Value) (a1 : Value) (a2 : Value) (H : AHeap) : dBodyL M Try.prog hints C LP F.slices_BinarySearchFunc_string [a0, a1, a2] H = s_slices_BinarySearchFunc_string M.b.g M.c M.s Try.prog C (fun v0 v1 v2 v8 v9 v10 H k => loopL M Try.prog hints C LP F.slices_BinarySearchFunc_string 0 [(0, v0), (1, v1), (2, v2), (8, v8), (9, v9), (10, v10)] H k) a0 a1 a2 H (endK Try.prog [.tmp 6, .tmp 7]) := by kernel_rfl

theorem s_slices_BinarySearchFunc_string_b0_eq (M : CombL) (C : CallF) (LP : LoopH) (v0 : Value) (v1 : Value) (v2 : Value) (v8 : Value) (v9 : Value) (v10 : Value) (H : AHeap) (k : K) : bodyL M Try.prog hints C LP F.slices_BinarySearchFunc_string 0 [(0, v0), (1, v1), (2, v2), (8, v8), (9, v9), (10, v10)] H (afterK [0, 1, 2, 8, 9, 10] k) = s_slices_BinarySearchFunc_string_b0 M.b.g M.c M.s Try.prog C (fun v0 v1 v2 v8 v9 v10 H k => loopL M Try.prog hints C LP F.slices_BinarySearchFunc_string 0 [(0, v0), (1, v1), (2, v2), (8, v8), (9, v9), (10, v10)] H k) v0 v1 v2 v8 v9 v10 H k := by kernel_rfl

/-! (*ticketline.model.Model).place$1 -/

noncomputable def s_model_Model_place_1 (mg : GT) (mc : CT) (ms : ST) (P : Program) (C : CallF) (a0 : Value) (a1 : Value) (H : AHeap) (K0 : K) : Res :=
bothK (newv T.api_Pair a0 H) fun t2 h1 =>
bareK (fad 0 t2) h1 fun t5 h2 =>
bareK (ld1 h2 t5) h2 fun t6 h3 =>
enterK C F.keys_Compare [t6, a1] h3 fun t8 h4 =>
K0 .ret [(4, t8)] h4

theorem s_model_Model_place_1_eq (M : CombL) (C : CallF) (LP : LoopH) (a0 : Value) (a1 : Value) (H : AHeap) : dBodyL M Try.prog hints C LP F.model_Model_place_1 [a0, a1] H = s_model_Model_place_1 M.b.g M.c M.s Try.prog C a0 a1 H (endK Try.prog [.tmp 4]) := by kernel_rfl

/-! (ticketline.cursor.span).pairs$1 -/

noncomputable def s_cursor_span_pairs_1 (mg : GT) (mc : CT) (ms : ST) (P : Program) (C : CallF) (a0 : Value) (a1 : Value) (a2 : Value) (H : AHeap) (K0 : K) : Res :=
bareK (ld1 H a1) H fun t5 h1 =>
bareK (ixS 2 t5 a0) h1 fun t7 h2 =>
bareK (fad 0 t7) h2 fun t8 h3 =>
bareK (ld1 h3 t8) h3 fun t9 h4 =>
bareK (fad 0 a2) h4 fun t10 h5 =>
bareK (ld1 h5 t10) h5 fun t11 h6 =>
bareK (xbin P .geq T.string (.tmp 9) (.tmp 11) t9 t11) h6 fun t12 h7 =>
checkK true <|
K0 .ret [(4, t12)] h7

theorem s_cursor_span_pairs_1_eq (M : CombL) (C : CallF) (LP : LoopH) (a0 : Value) (a1 : Value) (a2 : Value) (H : AHeap) : dBodyL M Try.prog hints C LP F.cursor_span_pairs_1 [a0, a1, a2] H = s_cursor_span_pairs_1 M.b.g M.c M.s Try.prog C a0 a1 a2 H (endK Try.prog [.tmp 4]) := by kernel_rfl

/-! (ticketline.cursor.span).pairs$2 -/

noncomputable def s_cursor_span_pairs_2 (mg : GT) (mc : CT) (ms : ST) (P : Program) (C : CallF) (a0 : Value) (a1 : Value) (a2 : Value) (H : AHeap) (K0 : K) : Res :=
bareK (fad 1 a1) H fun t5 h1 =>
bareK (ld1 h1 t5) h1 fun t6 h2 =>
bareK (xbin P .neq T.string (.tmp 6) (.const (.string (mk []))) t6 (.string (mk []))) h2 fun t7 h3 =>
mg t7 true (fun o1 => bareK (ld1 h3 a2) h3 o1) h3 fun t9 h4 =>
mg t7 true (fun o2 => o2 a0 h4) h4 fun t10 h5 =>
mg t7 true (fun o3 => bareK (ixS 2 t9 t10) h5 o3) h5 fun t11 h6 =>
mg t7 true (fun o4 => bareK (fad 0 t11) h6 o4) h6 fun t12 h7 =>
mg t7 true (fun o5 => bareK (ld1 h7 t12) h7 o5) h7 fun t13 h8 =>
mg t7 true (fun o6 => bareK (fad 1 a1) h8 o6) h8 fun t14 h9 =>
mg t7 true (fun o7 => bareK (ld1 h9 t14) h9 o7) h9 fun t15 h10 =>
mg t7 true (fun o8 => bareK (xbin P .geq T.string (.tmp 13) (.tmp 15) t13 t15) h10 o8) h10 fun t16 h11 =>
pickK t7 t16 (.bool false) fun t17 =>
checkK true <|
K0 .ret [(4, t17)] h11

theorem s_cursor_span_pairs_2_eq (M : CombL) (C : CallF) (LP : LoopH) (a0 : Value) (a1 : Value) (a2 : Value) (H : AHeap) : dBodyL M Try.prog hints C LP F.cursor_span_pairs_2 [a0, a1, a2] H = s_cursor_span_pairs_2 M.b.g M.c M.s Try.prog C a0 a1 a2 H (endK Try.prog [.tmp 4]) := by kernel_rfl

/-! (*ticketline.cursor.Cursor).forward$1 -/

noncomputable def s_cursor_Cursor_forward_1 (mg : GT) (mc : CT) (ms : ST) (P : Program) (C : CallF) (a0 : Value) (a1 : Value) (a2 : Value) (H : AHeap) (K0 : K) : Res :=
bareK (ld1 H a1) H fun t5 h1 =>
bareK (ixS 2 t5 a0) h1 fun t7 h2 =>
bareK (fad 0 t7) h2 fun t8 h3 =>
bareK (ld1 h3 t8) h3 fun t9 h4 =>
bareK (ld1 h4 a2) h4 fun t10 h5 =>
bareK (xnilCheck t10) h5 fun t11 h6 =>
bareK (fad 3 t11) h6 fun t12 h7 =>
bareK (ld1 h7 t12) h7 fun t13 h8 =>
bareK (xbin P .gtr T.string (.tmp 9) (.tmp 13) t9 t13) h8 fun t14 h9 =>
checkK true <|
K0 .ret [(4, t14)] h9

theorem s_cursor_Cursor_forward_1_eq (M : CombL) (C : CallF) (LP : LoopH) (a0 : Value) (a1 : Value) (a2 : Value) (H : AHeap) : dBodyL M Try.prog hints C LP F.cursor_Cursor_forward_1 [a0, a1, a2] H = s_cursor_Cursor_forward_1 M.b.g M.c M.s Try.prog C a0 a1 a2 H (endK Try.prog [.tmp 4]) := by kernel_rfl

/-! slices.ContainsFunc[[]string,string] -/

noncomputable def s_slices_ContainsFunc_string (mg : GT) (mc : CT) (ms : ST) (P : Program) (C : CallF) (a0 : Value) (a1 : Value) (H : AHeap) (K0 : K) : Res :=
enterK C F.slices_IndexFunc_string [a0, a1] H fun t7 h1 =>
bareK (xbin P .geq T.int (.tmp 7) (.const (.int .i64 0)) t7 (.int .i64 0)) h1 fun t8 h2 =>
K0 .ret [(4, t8)] h2

theorem s_slices_ContainsFunc_string_eq (M : CombL) (C : CallF) (LP : LoopH) (a0 : Value) (a1 : Value) (H : AHeap) : dBodyL M Try.prog hints C LP F.slices_ContainsFunc_string [a0, a1] H = s_slices_ContainsFunc_string M.b.g M.c M.s Try.prog C a0 a1 H (endK Try.prog [.tmp 4]) := by kernel_rfl

/-! ticketline.model.check$1 -/

noncomputable def s_model_check_1 (mg : GT) (mc : CT) (ms : ST) (P : Program) (C : CallF) (a0 : Value) (H : AHeap) (K0 : K) : Res :=
bareK (lenT a0) H fun t4 h1 =>
bareK (xbin P .gtr T.int (.tmp 4) (.const (.int .i64 40)) t4 (.int .i64 40)) h1 fun t5 h2 =>
K0 .ret [(2, t5)] h2

theorem s_model_check_1_eq (M : CombL) (C : CallF) (LP : LoopH) (a0 : Value) (H : AHeap) : dBodyL M Try.prog hints C LP F.model_check_1 [a0] H = s_model_check_1 M.b.g M.c M.s Try.prog C a0 H (endK Try.prog [.tmp 2]) := by kernel_rfl

/-! internal.bytealg.CompareString -/

noncomputable def s_internal_bytealg_CompareString (mg : GT) (mc : CT) (ms : ST) (P : Program) (C : CallF) (a0 : Value) (a1 : Value) (H : AHeap) (K0 : K) : Res :=
bareK (xext P Try.f67 [a0, a1] H) H fun t7 h1 =>
K0 .ret [(4, t7)] h1

theorem s_internal_bytealg_CompareString_eq (M : CombL) (C : CallF) (LP : LoopH) (a0 : Value) (a1 : Value) (H : AHeap) : dBodyL M Try.prog hints C LP F.internal_bytealg_CompareString [a0, a1] H = s_internal_bytealg_CompareString M.b.g M.c M.s Try.prog C a0 a1 H (endK Try.prog [.tmp 4]) := by kernel_rfl

/-! slices.rotateRight[ticketline.api.Pair] -/

noncomputable def s_slices_rotateRight_Pair (mg : GT) (mc : CT) (ms : ST) (P : Program) (C : CallF) (a0 : Value) (a1 : Value) (H : AHeap) (K0 : K) : Res :=
bareK (lenS a0) H fun t6 h1 =>
bareK (xbin P .sub T.int (.tmp 6) (.tmp 7) t6 a1) h1 fun t8 h2 =>
enterK C F.slices_rotateLeft_Pair [a0, t8] h2 fun t9 h3 =>
K0 .normal [(9, t9), (8, t8), (7, a1), (6, t6), (5, a0), (4, a0), (0, a0), (1, a1)] h3

theorem s_slices_rotateRight_Pair_eq (M : CombL) (C : CallF) (LP : LoopH) (a0 : Value) (a1 : Value) (H : AHeap) : dBodyL M Try.prog hints C LP F.slices_rotateRight_Pair [a0, a1] H = s_slices_rotateRight_Pair M.b.g M.c M.s Try.prog C a0 a1 H (endK Try.prog []) := by kernel_rfl

/-! slices.IndexFunc[[]string,string] -/

noncomputable def s_slices_IndexFunc_string (mg : GT) (mc : CT) (ms : ST) (P : Program) (C : CallF) (L0 : Value → Value → Value → Value → AHeap → K → Res) (a0 : Value) (a1 : Value) (H : AHeap) (K0 : K) : Res :=
bareK (lenS a0) H fun t7 h1 =>
ms (fun k1 =>
L0 a0 a1 t7 (.int .i64 0) h1 (blkK [] 0 k1)) (seqK (fun tT h2 =>
K0 .ret [(4, (.int .i64 (-1)))] h2) K0)

noncomputable def s_slices_IndexFunc_string_b0 (mg : GT) (mc : CT) (ms : ST) (P : Program) (C : CallF) (L0 : Value → Value → Value → Value → AHeap → K → Res) (v0 : Value) (v1 : Value) (v7 : Value) (v8 : Value) (H : AHeap) (k : K) : Res :=
bareK (xbin P .lss T.int (.tmp 8) (.tmp 7) v8 v7) H fun t9 h2 =>
mc t9 (fun k2 => k2 .normal [(0, v0), (1, v1), (7, v7), (8, v8)] h2) (fun k2 =>
k2 (.exit 0) [(9, t9), (0, v0), (1, v1), (7, v7), (8, v8)] h2) (seqK (fun tT h3 =>
ms (fun k3 =>
bareK (ixS 1 (get tT 0) (get tT 8)) h3 fun t14 h4 =>
bareK (ld1 h4 t14) h4 fun t15 h5 =>
callK P C (get tT 1) [t15] h5 fun t16 h6 =>
mc t16 (fun k4 => k4 .ret [(4, (get tT 8))] h6) (fun k4 =>
k4 .normal [(0, (get tT 0)), (1, (get tT 1)), (7, (get tT 7)), (8, (get tT 8))] h6) (blkK [0, 1, 7, 8] 1 k3)) (seqK (fun tT_1 h7 =>
bareK (xbin P .add T.int (.tmp 8) (.const (.int .i64 1)) (get tT_1 8) (.int .i64 1)) h7 fun t18 h8 =>
k .normal [(0, (get tT_1 0)), (1, (get tT_1 1)), (7, (get tT_1 7)), (8, t18)] h8) (afterK [0, 1, 7, 8] k))) (afterK [0, 1, 7, 8] k))

theorem s_slices_IndexFunc_string_eq (M : CombL) (C : CallF) (LP : LoopH) (a0 : Value) (a1 : Value) (H : AHeap) : dBodyL M Try.prog hints C LP F.slices_IndexFunc_string [a0, a1] H = s_slices_IndexFunc_string M.b.g M.c M.s Try.prog C (fun v0 v1 v7 v8 H k => loopL M Try.prog hints C LP F.slices_IndexFunc_string 0 [(0, v0), (1, v1), (7, v7), (8, v8)] H k) a0 a1 H (endK Try.prog [.tmp 4]) := by kernel_rfl

theorem s_slices_IndexFunc_string_b0_eq (M : CombL) (C : CallF) (LP : LoopH) (v0 : Value) (v1 : Value) (v7 : Value) (v8 : Value) (H : AHeap) (k : K) : bodyL M Try.prog hints C LP F.slices_IndexFunc_string 0 [(0, v0), (1, v1), (7, v7), (8, v8)] H (afterK [0, 1, 7, 8] k) = s_slices_IndexFunc_string_b0 M.b.g M.c M.s Try.prog C (fun v0 v1 v7 v8 H k => loopL M Try.prog hints C LP F.slices_IndexFunc_string 0 [(0, v0), (1, v1), (7, v7), (8, v8)] H k) v0 v1 v7 v8 H k := by kernel_rfl

/-! slices.rotateLeft[ticketline.api.Pair] -/

noncomputable def s_slices_rotateLeft_Pair (mg : GT) (mc : CT) (ms : ST) (P : Program) (C : CallF) (a0 : Value) (a1 : Value) (H : AHeap) (K0 : K) : Res :=
bareK (slS T.api_Pair 2 a0 none (some a1) none H) H fun t6 h1 =>
enterK C F.slices_Reverse_Pair [t6] h1 fun t7 h2 =>
bareK (slS T.api_Pair 2 a0 (some a1) none none h2) h2 fun t10 h3 =>
enterK C F.slices_Reverse_Pair [t10] h3 fun t11 h4 =>
enterK C F.slices_Reverse_Pair [a0] h4 fun t13 h5 =>
K0 .normal [(13, t13), (12, a0), (11, t11), (10, t10), (9, a1), (8, a0), (7, t7), (6, t6), (5, a1), (4, a0), (0, a0), (1, a1)] h5

theorem s_slices_rotateLeft_Pair_eq (M : CombL) (C : CallF) (LP : LoopH) (a0 : Value) (a1 : Value) (H : AHeap) : dBodyL M Try.prog hints C LP F.slices_rotateLeft_Pair [a0, a1] H = s_slices_rotateLeft_Pair M.b.g M.c M.s Try.prog C a0 a1 H (endK Try.prog []) := by kernel_rfl

/-! slices.Reverse[[]ticketline.api.Pair,ticketline.api.Pair] -/

noncomputable def s_slices_Reverse_Pair (mg : GT) (mc : CT) (ms : ST) (P : Program) (C : CallF) (L0 : Value → Value → Value → AHeap → K → Res) (a0 : Value) (H : AHeap) (K0 : K) : Res :=
bareK (lenS a0) H fun t5 h1 =>
bareK (xbin P .sub T.int (.tmp 5) (.const (.int .i64 1)) t5 (.int .i64 1)) h1 fun t6 h2 =>
ms (fun k1 =>
L0 a0 (.int .i64 0) t6 h2 (blkK [] 0 k1)) K0

noncomputable def s_slices_Reverse_Pair_b0 (mg : GT) (mc : CT) (ms : ST) (P : Program) (C : CallF) (L0 : Value → Value → Value → AHeap → K → Res) (v0 : Value) (v2 : Value) (v3 : Value) (H : AHeap) (k : K) : Res :=
bareK (xbin P .lss T.int (.tmp 7) (.tmp 8) v2 v3) H fun t9 h3 =>
mc t9 (fun k2 => k2 .normal [(0, v0), (2, v2), (3, v3)] h3) (fun k2 =>
k2 (.exit 0) [(9, t9), (8, v3), (7, v2), (0, v0), (2, v2), (3, v3)] h3) (seqK (fun tT h4 =>
ms (fun k3 =>
bareK (ixS 2 (get tT 0) (get tT 3)) h4 fun t20 h5 =>
bareK (ldN 2 h5 t20) h5 fun t21 h6 =>
bareK (ixS 2 (get tT 0) (get tT 2)) h6 fun t24 h7 =>
bareK (ldN 2 h7 t24) h7 fun t25 h8 =>
bareK (ixS 2 (get tT 0) (get tT 2)) h8 fun t26 h9 =>
quietK (stN 2 h9 t26 t21) fun _ h10 =>
bareK (ixS 2 (get tT 0) (get tT 3)) h10 fun t27 h11 =>
quietK (stN 2 h11 t27 t25) fun _ h12 =>
checkK (okV (some true) none h9 h10 h4 h4 && (okV (some true) none h9 h10 h4 h4 && true)) <|
k3 .normal [(0, (get tT 0)), (2, (get tT 2)), (3, (get tT 3))] h12) (seqK (fun tT_1 h13 =>
bareK (xbin P .add T.int (.tmp 10) (.const (.int .i64 1)) (get tT_1 2) (.int .i64 1)) h13 fun t11 h14 =>
bareK (xbin P .sub T.int (.tmp 12) (.const (.int .i64 1)) (get tT_1 3) (.int .i64 1)) h14 fun t13 h15 =>
k .normal [(0, (get tT_1 0)), (2, t11), (3, t13)] h15) (afterK [0, 2, 3] k))) (afterK [0, 2, 3] k))

theorem s_slices_Reverse_Pair_eq (M : CombL) (C : CallF) (LP : LoopH) (a0 : Value) (H : AHeap) : dBodyL M Try.prog hints C LP F.slices_Reverse_Pair [a0] H = s_slices_Reverse_Pair M.b.g M.c M.s Try.prog C (fun v0 v2 v3 H k => loopL M Try.prog hints C LP F.slices_Reverse_Pair 0 [(0, v0), (2, v2), (3, v3)] H k) a0 H (endK Try.prog []) := by kernel_rfl

theorem s_slices_Reverse_Pair_b0_eq (M : CombL) (C : CallF) (LP : LoopH) (v0 : Value) (v2 : Value) (v3 : Value) (H : AHeap) (k : K) : bodyL M Try.prog hints C LP F.slices_Reverse_Pair 0 [(0, v0), (2, v2), (3, v3)] H (afterK [0, 2, 3] k) = s_slices_Reverse_Pair_b0 M.b.g M.c M.s Try.prog C (fun v0 v2 v3 H k => loopL M Try.prog hints C LP F.slices_Reverse_Pair 0 [(0, v0), (2, v2), (3, v3)] H k) v0 v2 v3 H k := by kernel_rfl

end Go.Proofs.Ytmbppjilnnjdaaa

/-
  The engine, part 19: slices.Insert: what the engine's run of its text comes to, where the capacity is known: room, or none.
  Conditions: none. By an AI agent.
-/
set_option linter.unusedVariables false
namespace Go.Proofs.Ytmbppjilnnjdaaa.Eng
open Go

variable {P : Program} {H H' : AHeap}

theorem bareK_step {x : Option Value} {v : Value} {k : Value → AHeap → Res} {r : Res} (h : x = some v) (hk : k v H = r) : bareK x H k = r := by rw [h]; exact hk
theorem bothK_step {x : Option (Value × AHeap)} {v : Value} {k : Value → AHeap → Res} {r : Res} (h : x = some (v, H')) (hk : k v H' = r) : bothK x k = r := by rw [h]; exact hk
theorem c_true {x y : K → Res} {keep : List Nat} {k : K} {r : Res} (h : x (afterK keep k) = r) : std.c (.bool true) x y keep k = r := h
theorem c_false {x y : K → Res} {keep : List Nat} {k : K} {r : Res} (h : y (afterK keep k) = r) : std.c (.bool false) x y keep k = r := h
theorem after_n {keep : List Nat} {T : Env} {f : Env → AHeap → Res} {k : K} {r : Res} (h : f (clr keep T) H = r) : afterK keep (seqK f k) .normal T H = r := h
theorem after_r {keep : List Nat} {T : Env} {f : Env → AHeap → Res} {k : K} {r : Res} (h : k .ret T H = r) : afterK keep (seqK f k) .ret T H = r := h

/-- x[i:] of a slice of known capacity. -/
theorem sl_from {t e : TypeId} {sz b o l c i : Nat} {q : IntKind} (hS : P.underlying t = some (.slice e)) (hq : sizeQ P e = some sz) (hi : i ≤ l) (hl : l ≤ c) :
    xslice P t (.slice (some ⟨b, o, none⟩) l (2 * c)) (some (.int q i)) none none H = some (.slice (some ⟨b, if c = i then o else o + i * sz, none⟩) (l - i) (2 * (c - i))) := by
  have h1 : 2 * c / 2 = c := by omega
  have h2 : 2 * c % 2 = 0 := by omega
  have h3 : (i : Int) ≤ l := by omega
  simp [xslice, hS, hq, slS, highOf, lowOf, bnd, h1, h2, hl, hi]

/-- x[:h]. -/
theorem sl_to {t e : TypeId} {sz b o l c h : Nat} {q : IntKind} (hS : P.underlying t = some (.slice e)) (hq : sizeQ P e = some sz) (hh : h ≤ c) (h0 : c ≠ 0) :
    xslice P t (.slice (some ⟨b, o, none⟩) l (2 * c)) none (some (.int q h)) none H = some (.slice (some ⟨b, o, none⟩) h (2 * c)) := by
  have h1 : 2 * c / 2 = c := by omega
  have h2 : 2 * c % 2 = 0 := by omega
  simp [xslice, hS, hq, slS, highOf, lowOf, bnd, h1, h2, h0, hh]

/-- x[i:] of a row that was appended to. -/
theorem sl_from' {t e : TypeId} {sz b o l c i : Nat} {q : IntKind} {xs : List Value} (hS : P.underlying t = some (.slice e)) (hq : sizeQ P e = some sz) (hi : i ≤ l) (hl : l ≤ c) (hb : H.f b = .cells xs e true) :
    xslice P t (.slice (some ⟨b, o, none⟩) l (2 * c + 1)) (some (.int q i)) none none H = some (.slice (some ⟨b, o + i * sz, none⟩) (l - i) (2 * (c - i) + 1)) := by
  have h1 : (2 * c + 1) / 2 = c := by omega
  have h2 : (2 * c + 1) % 2 = 1 := by omega
  have h3 : (i : Int) ≤ l := by omega
  simp [xslice, hS, hq, slS, highOf, lowOf, bnd, h1, h2, hl, hi, hb, rowOf]

theorem len_sl {t e : TypeId} {a : Option Addr} {l c : Nat} (hS : P.underlying t = some (.slice e)) {ts : List TypeId} {G : AHeap} : xlenM P (t :: ts) (.slice a l c) G = some (goInt l) := by
  simp [xlenM, xlen, hS]

theorem copy_sl {t e : TypeId} {sz b o dl dc b' o' sl sc m : Nat} {ts : List TypeId} {l : List Value} (hS : P.underlying t = some (.slice e)) (hq : sizeQ P e = some sz) (hm : Nat.min sl dl = m) (h0 : m ≠ 0)
    (hc : cut H b' o' (m * sz) = some l) (hs : stL H b o l = some H') : xcopy P (t :: ts) (.slice (some ⟨b, o, none⟩) dl dc) (.slice (some ⟨b', o', none⟩) sl sc) H = some (goInt m, H') := by
  simp [xcopy, hS, hq, cpy, hm, h0, hc, hs]

/-- slices.overlaps, as it stands in the program. -/
structure Ovl (P : Program) (tS : TypeId) (fO : FuncId) : Prop where
  fn : ∃ fn, P.funcs[fO]? = some fn ∧ fn.name ≠ "runtime.NumGoroutine" ∧ fn.body.isSome = false ∧ fn.origin = "slices.overlaps" ∧ noRow fn.name = true ∧ fn.params.toList = [tS, tS]

theorem ovl_call {C : CallF} {tS el ev : TypeId} {fO : FuncId} (hO : Ovl P tS fO) (hS : P.underlying tS = some (.slice el)) {sz : Nat} (hq : sizeQ P el = some sz) {b o l c b' o' l' c' : Nat} {xs ys : List Value} {e' : TypeId} {rw' : Bool}
    (hb : H.f b = .cells xs ev true) (hb' : H.f b' = .cells ys e' rw') (hy : ys ≠ []) (hne : b ≠ b') (ht : tailQ P ev = 1) (ho : o ≤ xs.length) (h0 : l ≠ 0) (h1 : l' ≠ 0) {k : Value → AHeap → Res} :
    callK P C (.func (.func fO) #[] #[]) [.slice (some ⟨b, o, none⟩) l c, .slice (some ⟨b', o', none⟩) l' c'] H k = k (.bool false) H := by
  obtain ⟨fn, h2, h3, h4, h5, h6, h7⟩ := hO.fn
  cases ys with
  | nil => exact absurd rfl hy
  | cons y ys =>
    simp [callK, h2, h3, h4, xext, h5, h6, h0, h1, hb, hb', h7, hS, hne, ht, hq, ho, bareK]

def insK (M : Comb) (P : Program) (C : CallF) (n : Nat) (tS tI : TypeId) (fO fR : FuncId) (a0 : Value) (a1 : Value) (a2 : Value) (H : AHeap) (K0 : K) : Res :=
bareK (xslice P tS a0 (some a1) none none H) H fun t12 h1 =>
bareK (xlenM P [tS] a2 h1) h1 fun t14 h2 =>
bareK (xbin P .eql tI (.tmp 15) (.const (.int .i64 0)) t14 (.int .i64 0)) h2 fun t16 h3 =>
M.c t16 (fun k1 => k1 .ret [(6, a0)] h3) (fun k1 => k1 .normal [(16, t16), (15, t14), (7, t14), (14, t14), (13, a2), (12, t12), (11, a1), (10, a0), (6, (.slice none 0 0)), (0, a0), (1, a1), (2, a2)] h3) [0, 1, 2, 7] (seqK (fun tT h4 =>
bareK (xlenM P [tS] (get tT 0) h4) h4 fun t19 h5 =>
bareK (xbin P .eql tI (.tmp 20) (.tmp 21) (get tT 1) t19) h5 fun t22 h6 =>
M.c t22 (fun k2 => bothK (xappend P [tS, tS] (get tT 0) (get tT 2) h6) fun t25 h7 =>
k2 .ret [(6, t25)] h7) (fun k2 => k2 .normal ((22, t22) :: (21, t19) :: (20, (get tT 1)) :: (8, t19) :: (19, t19) :: (18, (get tT 0)) :: tT) h6) [0, 1, 2, 7, 8] (seqK (fun tT_1 h8 =>
bareK (xbin P .add tI (.tmp 26) (.tmp 27) (get tT_1 8) (get tT_1 7)) h8 fun t28 h9 =>
nextK C h9 (xbuiltin P .cap [tS] [(get tT_1 0)] h9) fun t30 h10 =>
bareK (xbin P .gtr tI (.tmp 28) (.tmp 30) t28 t30) h10 fun t31 h11 =>
M.c t31 (fun k3 => bareK (xslice P tS (get tT_1 0) none (some (get tT_1 1)) none h11) h11 fun t34 h12 =>
bareK (xbin P .add tI (.tmp 35) (.tmp 36) (get tT_1 8) (get tT_1 7)) h12 fun t37 h13 =>
bareK (xbin P .sub tI (.tmp 37) (.tmp 38) t37 (get tT_1 1)) h13 fun t39 h14 =>
bothK (xappend P [tS, tI] t34 t39 h14) fun t40 h15 =>
bareK (xslice P tS t40 (some (get tT_1 1)) none none h15) h15 fun t43 h16 =>
bothK (xcopy P [tS, tS] t43 (get tT_1 2) h16) fun t45 h17 =>
bareK (xbin P .add tI (.tmp 47) (.tmp 48) (get tT_1 1) (get tT_1 7)) h17 fun t49 h18 =>
bareK (xslice P tS t40 (some t49) none none h18) h18 fun t50 h19 =>
bareK (xslice P tS (get tT_1 0) (some (get tT_1 1)) none none h19) h19 fun t53 h20 =>
bothK (xcopy P [tS, tS] t50 t53 h20) fun t54 h21 =>
checkK true <|
k3 .ret [(6, t40)] h21) (fun k3 => k3 .normal ((31, t31) :: (30, t30) :: (29, (get tT_1 0)) :: (28, t28) :: (27, (get tT_1 7)) :: (26, (get tT_1 8)) :: tT_1) h11) [0, 1, 2, 7, 8] (seqK (fun tT_2 h22 =>
bareK (xbin P .add tI (.tmp 57) (.tmp 58) (get tT_2 8) (get tT_2 7)) h22 fun t59 h23 =>
bareK (xslice P tS (get tT_2 0) none (some t59) none h23) h23 fun t60 h24 =>
bareK (xbin P .add tI (.tmp 63) (.tmp 64) (get tT_2 1) (get tT_2 7)) h24 fun t65 h25 =>
bareK (xslice P tS t60 (some t65) none none h25) h25 fun t66 h26 =>
callK P C (.func (.func fO) #[] #[]) [(get tT_2 2), t66] h26 fun t67 h27 =>
bareK (xun P .not t67) h27 fun t68 h28 =>
M.c t68 (fun k4 => bareK (xbin P .add tI (.tmp 70) (.tmp 71) (get tT_2 1) (get tT_2 7)) h28 fun t72 h29 =>
bareK (xslice P tS t60 (some t72) none none h29) h29 fun t73 h30 =>
bareK (xslice P tS t60 (some (get tT_2 1)) none none h30) h30 fun t76 h31 =>
bothK (xcopy P [tS, tS] t73 t76 h31) fun t77 h32 =>
checkK true <|
bareK (xslice P tS t60 (some (get tT_2 1)) none none h32) h32 fun t80 h33 =>
bothK (xcopy P [tS, tS] t80 (get tT_2 2) h33) fun t82 h34 =>
k4 .ret [(6, t60)] h34) (fun k4 => k4 .normal ((68, t68) :: (67, t67) :: (66, t66) :: (65, t65) :: (64, (get tT_2 7)) :: (63, (get tT_2 1)) :: (62, t60) :: (61, (get tT_2 2)) :: (0, t60) :: (60, t60) :: (59, t59) :: (58, (get tT_2 7)) :: (57, (get tT_2 8)) :: (56, (get tT_2 0)) :: tT_2) h28) [0, 1, 2, 7, 8] (seqK (fun tT_3 h35 =>
bareK (xslice P tS (get tT_3 0) (some (get tT_3 8)) none none h35) h35 fun t86 h36 =>
bothK (xcopy P [tS, tS] t86 (get tT_3 2) h36) fun t88 h37 =>
bareK (xslice P tS (get tT_3 0) (some (get tT_3 1)) none none h37) h37 fun t91 h38 =>
enterK C fR [t91, (get tT_3 7)] h38 fun t93 h39 =>
K0 .ret [(6, (get tT_3 0))] h39) K0)) K0)) K0)) K0)
/-- THERE IS ROOM: in place. -/
theorem insK_room {C : CallF} {n : Nat} {tS tI el ev : TypeId} {fO fR : FuncId} {K0 : K} (hS : P.underlying tS = some (.slice el)) {sz : Nat} (hq : sizeQ P el = some sz) (hO : Ovl P tS fO)
    {b o l c i m bv ov cv : Nat} {xs ys new old : List Value} (hi : i < l) (hm : m ≠ 0) (hroom : l + m ≤ c) (hbig : l + m < 4611686018427387904) (hH : H.f b = .cells xs el true) (hne : bv ≠ b)
    (hv : H.f bv = .cells ys ev true) (hov : ov ≤ ys.length) (htl : tailQ P ev = 1) (hxs : xs ≠ [])
    (hcut : cut H b (o + i * sz) ((l - i) * sz) = some old) (hst : stL H b (o + (i + m) * sz) old = some H')
    (hcut2 : cut H' bv ov (m * sz) = some new) {H2 : AHeap} (hst2 : stL H' b (o + i * sz) new = some H2) :
    insK std P C n tS tI fO fR (.slice (some ⟨b, o, none⟩) l (2 * c)) (.int .i64 i) (.slice (some ⟨bv, ov, none⟩) m cv) H K0 = K0 .ret [(6, .slice (some ⟨b, o, none⟩) (l + m) (2 * c))] H2 := by
  have w1 : IntKind.wrap .i64 ((l : Int) + m) = ((l + m : Nat) : Int) := by rw [wrap64 (by omega) (by omega)]; simp
  have w2 : IntKind.wrap .i64 ((i : Int) + m) = ((i + m : Nat) : Int) := by rw [wrap64 (by omega) (by omega)]; simp
  unfold insK
  refine bareK_step (sl_from hS hq (by omega) (by omega)) ?_
  refine bareK_step (len_sl hS) ?_
  refine bareK_step (v := .bool false) (by rw [goInt, xbin_eql]; simp; omega) ?_
  refine c_false ?_
  refine after_n ?_
  refine bareK_step (len_sl (l := l) (c := 2 * c) (a := some ⟨b, o, none⟩) hS) ?_
  refine bareK_step (v := .bool false) (by refine Eq.trans (xbin_eql (a := (i : Int)) (b := (l : Int))) ?_; simp; omega) ?_
  refine c_false ?_
  refine after_n ?_
  refine bareK_step (v := .int .i64 ((l + m : Nat) : Int)) (by refine Eq.trans (xbin_add (a := (l : Int)) (b := (m : Int))) ?_; rw [w1]) ?_
  refine Eq.trans (b := nextK C H (some (.val (goInt c) H)) _) (by
    have : xbuiltin P .cap [tS] [.slice (some ⟨b, o, none⟩) l (2 * c)] H = some (.val (goInt c) H) := by
      simp [xbuiltin, bare, xcap, hS]
    exact congrArg (fun x => nextK C H x _) this) ?_
  refine Eq.trans nextK_val ?_
  refine bareK_step (v := .bool false) (by refine Eq.trans (xbin_gtr (a := ((l + m : Nat) : Int)) (b := (c : Int))) ?_; simp; omega) ?_
  refine c_false ?_
  refine after_n ?_
  refine bareK_step (v := .int .i64 ((l + m : Nat) : Int)) (by refine Eq.trans (xbin_add (a := (l : Int)) (b := (m : Int))) ?_; rw [w1]) ?_
  refine bareK_step (sl_to (l := l) (b := b) (o := o) (c := c) (h := l + m) hS hq (by omega) (by omega)) ?_
  refine bareK_step (v := .int .i64 ((i + m : Nat) : Int)) (by refine Eq.trans (xbin_add (a := (i : Int)) (b := (m : Int))) ?_; rw [w2]) ?_
  refine bareK_step (sl_from hS hq (by omega) (by omega)) ?_
  refine Eq.trans (ovl_call hO hS hq hv hH hxs hne htl hov hm (by omega)) ?_
  refine bareK_step xun_not ?_
  refine c_true ?_
  refine bareK_step (v := .int .i64 ((i + m : Nat) : Int)) (by refine Eq.trans (xbin_add (a := (i : Int)) (b := (m : Int))) ?_; rw [w2]) ?_
  refine bareK_step (sl_from hS hq (by omega) (by omega)) ?_
  refine bareK_step (sl_from (i := i) hS hq (by omega) (by omega)) ?_
  have e1 : (if c = i + m then o else o + (i + m) * sz) = o + (i + m) * sz := by rw [if_neg (by omega)]
  have e2 : (if c = i then o else o + i * sz) = o + i * sz := by rw [if_neg (by omega)]
  rw [e1, e2]
  refine bothK_step (copy_sl (m := l - i) hS hq (by show min _ _ = _; omega) (by omega) hcut hst) ?_
  refine Eq.trans checkK_true ?_
  refine bareK_step (sl_from (i := i) hS hq (by omega) (by omega)) ?_
  rw [e2]
  refine bothK_step (copy_sl (m := m) hS hq (by show min _ _ = _; omega) hm hcut2 hst2) ?_
  exact after_r rfl

/-- append(s[:i], make(S, k)...) where there is no room: a new row. -/
theorem app_zeros {tS tI el : TypeId} (hS : P.underlying tS = some (.slice el)) (hI : P.underlying tI = some (.int .i64)) {z : List Value} (hz : zrow P el = some z) {b o c i k : Nat} {old : List Value}
    (hk : k ≠ 0) (hno : c < i + k) (hb1 : (i + k) * P.bytesOf el ≤ 140737488355328) (hb2 : i + k ≤ 140737488355328) (h1 : (zeros z k).all one = true) (ho : oldOf z.length i H (some ⟨b, o, none⟩) = some old) :
    xappend P [tS, tI] (.slice (some ⟨b, o, none⟩) i (2 * c)) (.int .i64 k) H = some (.slice (some ⟨H.n, 0, none⟩) (i + k) (2 * (i + k) + 1), H.push (.cells (old ++ zeros z k) el true)) := by
  have h2 : 2 * c / 2 = c := by omega
  have h3 : 2 * c % 2 = 0 := by omega
  have h4 : k * P.bytesOf el ≤ 140737488355328 := Nat.le_trans (Nat.mul_le_mul_right _ (by omega)) hb1
  have h5 : ¬ (140737488355328 < (i + k) * P.bytesOf el ∨ 140737488355328 < i + k) := by omega
  have h6 : ¬ (i + k ≤ c) := by omega
  have h4' : (k : Int) * (P.bytesOf el : Int) ≤ 140737488355328 := by
    rw [← Int.natCast_mul]
    omega
  have h7 : (k : Int) ≤ 140737488355328 := by omega
  simp [xappend, hS, hz, app, srcOf, hI, srcZ, h4', h7, hk, h5, h2, h3, h6, ho]
  simpa using h1

/-- THERE IS NO ROOM: a new row. -/
theorem insK_new {C : CallF} {n : Nat} {tS tI el : TypeId} {fO fR : FuncId} {K0 : K} (hS : P.underlying tS = some (.slice el)) (hI : P.underlying tI = some (.int .i64)) {z : List Value} (hz : zrow P el = some z) (hq : sizeQ P el = some z.length)
    {b o l c i m bv ov cv : Nat} {old new tail : List Value} (hi : i < l) (hl : l ≤ c) (hm : m ≠ 0) (hno : c < l + m) (hb1 : (l + m) * P.bytesOf el ≤ 140737488355328) (hb2 : l + m ≤ 140737488355328)
    (h1 : (zeros z (l + m - i)).all one = true) (ho : oldOf z.length i H (some ⟨b, o, none⟩) = some old)
    {H1 H2 H3 : AHeap} (hH1 : H1 = H.push (.cells (old ++ zeros z (l + m - i)) el true))
    (hcut : cut H1 bv ov (m * z.length) = some new) (hst : stL H1 H.n (i * z.length) new = some H2)
    (hcut2 : cut H2 b (o + i * z.length) ((l - i) * z.length) = some tail) (hst2 : stL H2 H.n ((i + m) * z.length) tail = some H3) {xs2 : List Value} (hrow : H2.f H.n = .cells xs2 el true) :
    insK std P C n tS tI fO fR (.slice (some ⟨b, o, none⟩) l (2 * c)) (.int .i64 i) (.slice (some ⟨bv, ov, none⟩) m cv) H K0 = K0 .ret [(6, .slice (some ⟨H.n, 0, none⟩) (l + m) (2 * (l + m) + 1))] H3 := by
  have w1 : IntKind.wrap .i64 ((l : Int) + m) = ((l + m : Nat) : Int) := by rw [wrap64 (by omega) (by omega)]; simp
  have w2 : IntKind.wrap .i64 ((i : Int) + m) = ((i + m : Nat) : Int) := by rw [wrap64 (by omega) (by omega)]; simp
  have w3 : IntKind.wrap .i64 (((l + m : Nat) : Int) - i) = ((l + m - i : Nat) : Int) := by rw [wrap64 (by omega) (by omega)]; omega
  unfold insK
  refine bareK_step (sl_from hS hq (by omega) (by omega)) ?_
  refine bareK_step (len_sl hS) ?_
  refine bareK_step (v := .bool false) (by rw [goInt, xbin_eql]; simp; omega) ?_
  refine c_false ?_
  refine after_n ?_
  refine bareK_step (len_sl (l := l) (c := 2 * c) (a := some ⟨b, o, none⟩) hS) ?_
  refine bareK_step (v := .bool false) (by refine Eq.trans (xbin_eql (a := (i : Int)) (b := (l : Int))) ?_; simp; omega) ?_
  refine c_false ?_
  refine after_n ?_
  refine bareK_step (v := .int .i64 ((l + m : Nat) : Int)) (by refine Eq.trans (xbin_add (a := (l : Int)) (b := (m : Int))) ?_; rw [w1]) ?_
  refine Eq.trans (b := nextK C H (some (.val (goInt c) H)) _) (by
    have : xbuiltin P .cap [tS] [.slice (some ⟨b, o, none⟩) l (2 * c)] H = some (.val (goInt c) H) := by
      simp [xbuiltin, bare, xcap, hS]
    exact congrArg (fun x => nextK C H x _) this) ?_
  refine Eq.trans nextK_val ?_
  refine bareK_step (v := .bool true) (by refine Eq.trans (xbin_gtr (a := ((l + m : Nat) : Int)) (b := (c : Int))) ?_; simp; omega) ?_
  refine c_true ?_
  refine bareK_step (sl_to (l := l) (b := b) (o := o) (c := c) (h := i) hS hq (by omega) (by omega)) ?_
  refine bareK_step (v := .int .i64 ((l + m : Nat) : Int)) (by refine Eq.trans (xbin_add (a := (l : Int)) (b := (m : Int))) ?_; rw [w1]) ?_
  refine bareK_step (v := .int .i64 ((l + m - i : Nat) : Int)) (by refine Eq.trans (xbin_sub (a := ((l + m : Nat) : Int)) (b := (i : Int))) ?_; rw [w3]) ?_
  have e0 : i + (l + m - i) = l + m := by omega
  have happ := app_zeros (tS := tS) (tI := tI) (b := b) (o := o) (c := c) (i := i) (k := l + m - i) hS hI hz (by omega) (by omega) (by rw [e0]; exact hb1) (by omega) h1 ho
  rw [e0, ← hH1] at happ
  refine bothK_step happ ?_
  have hr1 : H1.f H.n = .cells (old ++ zeros z (l + m - i)) el true := by rw [hH1]; exact AHeap.push_new _ _
  refine bareK_step (sl_from' (i := i) hS hq (by omega) (by omega) hr1) ?_
  rw [Nat.zero_add]
  refine bothK_step (copy_sl (m := m) hS hq (by show min _ _ = _; omega) hm hcut hst) ?_
  refine bareK_step (v := .int .i64 ((i + m : Nat) : Int)) (by refine Eq.trans (xbin_add (a := (i : Int)) (b := (m : Int))) ?_; rw [w2]) ?_
  refine bareK_step (sl_from' (i := i + m) hS hq (by omega) (by omega) hrow) ?_
  refine bareK_step (sl_from (b := b) (o := o) (l := l) (c := c) (i := i) hS hq (by omega) (by omega)) ?_
  have e2 : (if c = i then o else o + i * z.length) = o + i * z.length := by rw [if_neg (by omega)]
  rw [e2, Nat.zero_add]
  refine bothK_step (copy_sl (m := l - i) hS hq (by show min _ _ = _; omega) (by omega) hcut2 hst2) ?_
  refine Eq.trans checkK_true ?_
  exact after_r rfl

end Go.Proofs.Ytmbppjilnnjdaaa.Eng

/-
  The engine, part 20: slices.Insert, taken as a whole.
  Conditions: none. By an AI agent.
-/
namespace Go.Proofs.Ytmbppjilnnjdaaa.Eng
open Go
set_option linter.unusedVariables false
set_option linter.unusedSimpArgs false

/-- slices.Insert where the capacity is not known: in place if there is room for sure; else the row that comes of it is one that nobody else names. -/
def insS (P : Program) (el : TypeId) (z : List Value) (args : List Value) (H : AHeap) : Res :=
  match args with
  | [.slice (some ⟨b, o, none⟩) l code, .int .i64 (.ofNat i), .slice (some ⟨bv, ov, none⟩) m _] =>
    match H.f b, H.f bv with
    | .cells xs e true, .cells ys ev true =>
      if code % 2 = 1 ∧ e = el ∧ i < l ∧ l ≤ code / 2 ∧ m ≠ 0 ∧ (l + m) * P.bytesOf el ≤ 140737488355328 ∧ l + m ≤ 140737488355328 ∧ bv ≠ b ∧ tailQ P ev = 1 ∧ o + code / 2 * z.length = xs.length ∧
          ov + m * z.length ≤ ys.length ∧ 0 < xs.length ∧ ((ys.drop ov).take (m * z.length)).all one = true ∧ ((xs.drop (o + i * z.length)).take ((l - i) * z.length)).all one = true ∧ (zeros z (l + m - i)).all one = true then
        if l + m ≤ code / 2 then
          some (.slice (some ⟨b, o, none⟩) (l + m) code,
            (H.set b (.cells (spl xs (o + (i + m) * z.length) ((xs.drop (o + i * z.length)).take ((l - i) * z.length))) el true)).set b
              (.cells (spl (spl xs (o + (i + m) * z.length) ((xs.drop (o + i * z.length)).take ((l - i) * z.length))) (o + i * z.length) ((ys.drop ov).take (m * z.length))) el true))
        else some (.slice (some ⟨H.n, 0, none⟩) (l + m) (2 * (l + m) + 1),
            (H.set b .dead).push (.cells ((xs.drop o).take (i * z.length) ++ ((ys.drop ov).take (m * z.length) ++ (xs.drop (o + i * z.length)).take ((l - i) * z.length))) el true))
      else none
    | _, _ => none
  | _ => none

/-- The whole: first its text as it stands, where the engine can run it. -/
def insP (P : Program) (hints : Hints) (f : FuncId) (el : TypeId) (z : List Value) : List Value → AHeap → Res := fun args H =>
  match dBody P hints (fun _ _ _ => none) 1 f args H with
  | some r => some r
  | none => insS P el z args H

theorem spl_get : ∀ (vs xs : List Value) (o j : Nat), o + vs.length ≤ xs.length → (spl xs o vs)[j]? = if o ≤ j ∧ j < o + vs.length then vs[j - o]? else xs[j]?
  | [], xs, o, j, _ => by simp [spl]; intro h1 h2; omega
  | v :: vs, xs, o, j, h => by
    rw [spl, spl_get vs (xs.set o v) (o + 1) j (by simp at h ⊢; omega)]
    simp only [List.length_cons] at h ⊢
    by_cases h1 : o + 1 ≤ j ∧ j < o + 1 + vs.length
    · rw [if_pos h1, if_pos (by omega)]
      obtain ⟨d, hd⟩ : ∃ d, j - o = d + 1 := ⟨j - o - 1, by omega⟩
      rw [hd, show j - (o + 1) = d by omega]
      simp
    · rw [if_neg h1]
      by_cases h2 : j = o
      · subst h2
        rw [if_pos (by omega)]
        simp [show j < xs.length by omega]
      · rw [if_neg (by omega), List.getElem?_set_ne (by omega)]

/-- In place: what stands there then. -/
theorem ins_cells {xs new : List Value} {o A M T : Nat} (hx : o + A + M + T ≤ xs.length) (hM : new.length = M) {j : Nat} (hj : j < A + M + T) :
    (spl (spl xs (o + (A + M)) ((xs.drop (o + A)).take T)) (o + A) new)[o + j]? = ((xs.drop o).take A ++ (new ++ (xs.drop (o + A)).take T))[j]? := by
  have hT : ((xs.drop (o + A)).take T).length = T := by simp; omega
  have hA : ((xs.drop o).take A).length = A := by simp; omega
  rw [spl_get _ _ _ _ (by rw [spl_length]; omega), spl_get _ _ _ _ (by omega)]
  rw [List.getElem?_append, hA, List.getElem?_append, hM, hT]
  by_cases h1 : j < A
  · rw [if_neg (by omega), if_neg (by omega), if_pos h1, List.getElem?_take_of_lt h1, List.getElem?_drop]
  · by_cases h2 : j < A + M
    · rw [if_pos (by omega), if_neg h1, if_pos (by omega), show o + j - (o + A) = j - A by omega]
    · rw [if_neg (by omega), if_pos (by omega), if_neg h1, if_neg (by omega), show o + j - (o + (A + M)) = j - A - M by omega]

/-- In a new row. -/
theorem ins_row {old zs new tail : List Value} (hz : zs.length = new.length + tail.length) : spl (spl (old ++ zs) old.length new) (old.length + new.length) tail = old ++ (new ++ tail) := by
  apply List.ext_getElem?
  intro j
  rw [spl_get _ _ _ _ (by rw [spl_length]; simp; omega), spl_get _ _ _ _ (by simp; omega)]
  rw [List.getElem?_append (l₁ := old) (l₂ := new ++ tail), List.getElem?_append (l₁ := new) (l₂ := tail), List.getElem?_append (l₁ := old) (l₂ := zs)]
  by_cases h1 : j < old.length
  · rw [if_neg (by omega), if_neg (by omega), if_pos h1, if_pos h1]
  · by_cases h2 : j < old.length + new.length
    · rw [if_neg (by omega), if_pos (by omega), if_neg h1, if_pos (by omega)]
    · by_cases h3 : j < old.length + new.length + tail.length
      · rw [if_pos (by omega), if_neg h1, if_neg (by omega), show j - old.length - new.length = j - (old.length + new.length) by omega]
      · rw [if_neg (by omega), if_neg (by omega), if_neg h1, if_neg h1, if_neg (by omega), List.getElem?_eq_none (by omega), List.getElem?_eq_none (by omega)]

variable {P : Program} {B : Nat} {ι : Emb} {H : AHeap} {w : World}

/-- Blocks may be forgotten, and stamps turned. -/
theorem Rel.less {H' : AHeap} (r : Rel P B ι H w) (hn : H'.n = H.n) (hf : ∀ b, H'.f b = H.f b ∨ H'.f b = .dead) (hv : ∀ b, H'.ver b < H'.clk) : Rel P B ι H' w := by
  have hown : ∀ b, owned (H'.f b) = true → owned (H.f b) = true := fun b h => by
    rcases hf b with e | e
    · rwa [e] at h
    · rw [e] at h; simp [owned] at h
  have hal : ∀ b, alive (H'.f b) = true → alive (H.f b) = true := fun b h => by
    rcases hf b with e | e
    · rwa [e] at h
    · rw [e] at h; simp [alive] at h
  refine ⟨fun b L h => ?_, fun b L h => by rw [hn]; exact r.lt b L h, fun b c L M h1 h2 hne ho ha => r.inj b c L M h1 h2 hne (hown b ho) (hal c ha), r.base, hv⟩
  rcases hf b with e | e
  · rw [e]; exact r.blk b L h
  · rw [e]; trivial

theorem Stp.less {ι' : Emb} {H1 H2 : AHeap} {w' : World} (s : Stp ι H w ι' H1 w') (hn : H2.n = H1.n) (hf : ∀ b, H2.f b = H1.f b ∨ H2.f b = .dead) (hv : VO H H2) : Stp ι H w ι' H2 w' :=
  ⟨s.ext, hv.n, s.wn, s.os, s.tape, s.output, s.fr, s.new, fun b L hb hl ho => s.own b L hb hl (by
    rcases hf b with e | e
    · rwa [e] at ho
    · rw [e] at ho; simp [owned] at ho), hv⟩

theorem cut_ok {b o n : Nat} {xs : List Value} {e : TypeId} {rw' : Bool} (h : H.f b = .cells xs e rw') (hf : o + n ≤ xs.length) : cut H b o n = some ((xs.drop o).take n) := by
  unfold cut
  simp [h, hf]

theorem stL_ok {b o : Nat} {xs vs : List Value} {e : TypeId} (h : H.f b = .cells xs e true) (hf : o + vs.length ≤ xs.length) (h1 : vs.all one = true) : stL H b o vs = some (H.set b (.cells (spl xs o vs) e true)) := by
  unfold stL
  simp only [h, hf, if_true, h1]

theorem insS_ad {el : TypeId} {z : List Value} {args : List Value} {v : Value} {H' : AHeap} (h : insS P el z args H = some (v, H')) (hc : Cl H) (ha : ADs H.n args) : OkV H H' v := by
  unfold insS at h
  split at h
  · rename_i b o l code i bv ov m cv
    split at h
    · rename_i xs e ys ev hf1 hf2
      split at h
      · rename_i hcond
        have hxs := hc.cells _ _ _ _ hf1
        have hys := hc.cells _ _ _ _ hf2
        have hb : b < H.n := by
          have := ha (.slice (some ⟨b, o, none⟩) l code) (by simp)
          cases this
          assumption
        split at h
        · cases h
          have h1 : Cl (H.set b (.cells (spl xs (o + (i + m) * z.length) ((xs.drop (o + i * z.length)).take ((l - i) * z.length))) el true)) :=
            hc.set b (fun _ _ _ hk => by cases hk; exact ADs.spl ((hxs.drop _).take _) hxs) (fun _ hk => by cases hk)
          refine ⟨h1.set b (fun _ _ _ hk => by cases hk; exact ADs.spl ((hys.drop _).take _) (ADs.spl ((hxs.drop _).take _) hxs)) (fun _ hk => by cases hk), .sl hb, ?_⟩
          exact (VO.set _ _ _ (by simp [hf1, alive])).trans (VO.set _ _ _ (by simp [alive]))
        · cases h
          have h1 : Cl (H.set b .dead) := hc.kill b
          refine ⟨h1.row ?_, .sl (by simp), (VO.set _ _ _ (by simp [alive])).trans (VO.push _ _)⟩
          have hm : H.n ≤ (H.set b .dead).n + 1 := by simp
          exact (((hxs.drop _).take _).append (((hys.drop _).take _).append ((hxs.drop _).take _))).mono hm
      · cases h
    · cases h
  · cases h

theorem none_ok : CallOK P fun _ _ _ => none := by intro f args H v H' h; cases h
theorem none_ad : CallAd fun _ _ _ => none := by intro f args H v H' h; cases h

/-- What is asked of the program. -/
structure InsOK (P : Program) (hints : Hints) (f : FuncId) (tS tI el : TypeId) (z : List Value) (fO fR : FuncId) : Prop where
  mixed : P.follows .mixedOrders = true
  body : ∀ (C : CallF) (n : Nat) (a0 a1 a2 : Value) (H : AHeap), dBodyK std P hints C n f [a0, a1, a2] H = insK std P C n tS tI fO fR a0 a1 a2 H (endK P [.tmp 6])
  hS : P.underlying tS = some (.slice el)
  hI : P.underlying tI = some (.int .i64)
  hz : zrow P el = some z
  hsz : sizeQ P el = some z.length
  ovl : Ovl P tS fO

theorem InsOK.run {hints : Hints} {f : FuncId} {tS tI el : TypeId} {z : List Value} {fO fR : FuncId} (I : InsOK P hints f tS tI el z fO fR) {n : Nat} {a0 a1 a2 v : Value} {H' : AHeap}
    (h : ∀ C K0, insK std P C n tS tI fO fR a0 a1 a2 H K0 = K0 .ret [(6, v)] H') : dBody P hints (fun _ _ _ => none) n f [a0, a1, a2] H = some (v, H') := by
  rw [← dBodyK_eq, I.body, h]
  rfl

theorem rv_even {ι : Emb} {b o l cc q : Nat} {v' : Value} (h : RV ι (.slice (some ⟨b, o, none⟩) l q) v') (hq : q = 2 * cc) (hl : l ≠ 0) : ∃ L, ι b = some L ∧ v' = .slice (some ⟨L.cb, L.base + o, none⟩) l cc ∧ l ≤ cc := by
  cases h with
  | sle h1 h2 =>
    have := Nat.eq_of_mul_eq_mul_left (by omega : 0 < 2) hq
    subst this
    exact ⟨_, h1, rfl, h2⟩
  | sli h1 _ _ _ => omega
  | sl0 h1 => exact absurd rfl hl

/-- THE PRIM. -/
theorem ins_prim {hints : Hints} {f : FuncId} {tS tI el : TypeId} {z : List Value} {fO fR : FuncId} (I : InsOK P hints f tS tI el z fO fR) :
    (CallAd fun _ args H => insP P hints f el z args H) ∧ CallOK P fun g args H => if g = f then insP P hints f el z args H else none := by
  constructor
  · intro g args H v H' h hl ha
    replace h : insP P hints f el z args H = some (v, H') := h
    unfold insP at h
    split at h
    · rename_i r hr
      cases h
      exact body_ad none_ad 1 f args H v H' hr hl ha
    · exact insS_ad h hl ha
  · intro g args H v H' h2 hl had B ι w args' r ha
    by_cases hg : g = f
    · subst hg
      simp only [if_true] at h2
      unfold insP at h2
      split at h2
      · rename_i r0 hr
        cases h2
        exact body_sound none_ok none_ad I.mixed 1 g args H v H' hr hl had B ι w args' r ha
      · have hOk := insS_ad h2 hl had
        unfold insS at h2
        split at h2
        · rename_i b o l code i bv ov m cv _
          split at h2
          · rename_i xs e ys ev hf1 hf2
            split at h2
            · rename_i hcond
              obtain ⟨hodd, rfl, hil, hlc, hm0, hb1, hb2, hne, htl, hend, hvfit, hx0, hn1, ht1, hz1⟩ := hcond
              cases ha with | cons ha1 t => cases t with | cons ha2 t => cases t with | cons ha3 t => cases t with | nil =>
              cases ha2
              cases ha1 with
              | sle hL hn => omega
              | sl0 hk => omega
              | sli hL hc hn ht =>
                rename_i c cc L _
                have hcode : (2 * c + 1) / 2 = c := by omega
                rw [hcode] at hlc hend h2
                have hblk := r.blk b L hL
                rw [hf1] at hblk
                obtain ⟨cs, e', fr, g1, g2, g3, g4, g5⟩ := hblk
                obtain ⟨gB, rfl, gsz, gfr⟩ := g5 rfl
                have hsz : L.sz = z.length := by rw [gsz]; exact sizeQ_cells I.hsz
                rw [hsz] at ht
                have hA : (i + m) * z.length = i * z.length + m * z.length := Nat.add_mul _ _ _
                have hT : (l - i) * z.length + i * z.length = l * z.length := by rw [← Nat.add_mul]; congr 1; omega
                have hlcz : l * z.length ≤ c * z.length := Nat.mul_le_mul_right _ hlc
                have hvl : ((ys.drop ov).take (m * z.length)).length = m * z.length := by simp; omega
                have htll : ((xs.drop (o + i * z.length)).take ((l - i) * z.length)).length = (l - i) * z.length := by simp; omega
                have hval : ∀ {Hx : AHeap}, Hx.n = H.n → ADs Hx.n [.slice (some ⟨b, o, none⟩) l (2 * cc), .int .i64 (.ofNat i), .slice (some ⟨bv, ov, none⟩) m cv] := by
                  intro Hx hn
                  rw [hn]
                  have k1 := had (.slice (some ⟨b, o, none⟩) l (2 * c + 1)) (by simp)
                  have k3 := had (.slice (some ⟨bv, ov, none⟩) m cv) (by simp)
                  refine ADs.cons ?_ (ADs.cons (.int _ _) (ADs.cons k3 ADs.nil))
                  cases k1; exact .sl (by assumption)
                have hargs : RVs ι [.slice (some ⟨b, o, none⟩) l (2 * cc), .int .i64 (.ofNat i), .slice (some ⟨bv, ov, none⟩) m cv] _ := .cons (.sle hL hn) (.cons (.int _ _) (.cons ha3 .nil))
                by_cases hroom : l + m ≤ cc
                · have hrm : (l + m) * z.length ≤ cc * z.length := Nat.mul_le_mul_right _ hroom
                  have hlm : (l + m) * z.length = l * z.length + m * z.length := Nat.add_mul _ _ _
                  by_cases hsure : l + m ≤ c
                  · rw [if_pos hsure] at h2
                    cases h2
                    have hrm' : (l + m) * z.length ≤ c * z.length := Nat.mul_le_mul_right _ hsure
                    have hrun := I.run (n := 1) (H := H) (fun C K0 => insK_room (C := C) (n := 1) (K0 := K0) (fR := fR) (tI := tI) (cv := cv) I.hS I.hsz I.ovl hil hm0 hroom (by omega) hf1 hne hf2 (by omega) htl (by intro h; subst h; simp at hx0)
                      (cut_ok hf1 (by omega)) (stL_ok hf1 (by rw [htll]; omega) ht1)
                      (cut_ok (xs := ys) (by rw [AHeap.set_other _ _ hne]; exact hf2) (by omega)) (stL_ok (AHeap.set_same _ _ _) (by rw [spl_length, hvl]; omega) hn1))
                    refine (body_sound none_ok none_ad I.mixed 1 g _ H _ _ hrun hl (hval rfl) B ι w _ r hargs).mono ?_
                    rintro e w' ⟨v', ι', rfl, k1, k2, k3⟩
                    refine ⟨v', ι', rfl, ?_, k2, k3⟩
                    have hL' : ι' b = some L := by rw [k3.ext b (r.dom b L hL)]; exact hL
                    obtain ⟨L', e1, rfl, _⟩ := rv_even k1 rfl (by omega)
                    rw [hL'] at e1
                    cases e1
                    exact .sli hL' hc hroom (by rw [hsz]; omega)
                  · rw [if_neg hsure] at h2
                    cases h2
                    have hbn : b < H.n := r.dom b L hL
                    have hcz : (cc - c) * z.length + c * z.length = cc * z.length := by rw [← Nat.add_mul]; congr 1; omega
                    have hxl : (xs ++ List.replicate ((cc - c) * z.length) top).length = o + cc * z.length := by rw [List.length_append, List.length_replicate]; omega
                    have hk : RB P B ι w L (.cells (xs ++ List.replicate ((cc - c) * z.length) top) e' true) := by
                      refine ⟨cs, e', fr, g1, g2, by rw [hxl]; omega, fun j u hj => ?_, fun _ => ⟨gB, rfl, gsz, gfr⟩⟩
                      by_cases hjx : j < xs.length
                      · rw [List.getElem?_append_left hjx] at hj
                        exact g4 j u hj
                      · have hjl := (List.getElem?_eq_some_iff.1 hj).1
                        rw [List.getElem?_append_right (by omega), List.getElem?_replicate] at hj
                        split at hj
                        · cases hj
                          exact ⟨_, Array.getElem?_eq_getElem (by omega), .unk _⟩
                        · cases hj
                    obtain ⟨rx, sx⟩ := r.turn hL (by rw [hf1]; rfl) _ (w' := w) hk rfl (fun _ _ => rfl) rfl rfl rfl
                    have htx : ((xs ++ List.replicate ((cc - c) * z.length) top).drop (o + i * z.length)).take ((l - i) * z.length) = (xs.drop (o + i * z.length)).take ((l - i) * z.length) := by
                      rw [List.drop_append_of_le_length (by omega), List.take_append_of_le_length (by rw [List.length_drop]; omega)]
                    have hclx : Cl (H.set b (.cells (xs ++ List.replicate ((cc - c) * z.length) top) e' true)) := by
                      refine hl.set b (fun _ _ _ hk => ?_) (fun _ hk => by cases hk)
                      cases hk
                      refine ADs.append (hl.cells _ _ _ _ hf1) fun u hu => ?_
                      rw [List.mem_replicate] at hu
                      rw [hu.2]
                      exact .unk
                    have hfit : o + i * z.length + (l - i) * z.length ≤ (xs ++ List.replicate ((cc - c) * z.length) top).length := by rw [hxl]; omega
                    have hfit2 : o + (i + m) * z.length + (l - i) * z.length ≤ (xs ++ List.replicate ((cc - c) * z.length) top).length := by rw [hxl]; omega
                    have hrun := I.run (n := 1) (H := H.set b (.cells (xs ++ List.replicate ((cc - c) * z.length) top) e' true)) (fun C K0 => insK_room (C := C) (n := 1) (K0 := K0) (fR := fR) (tI := tI) (cv := cv) I.hS I.hsz I.ovl hil hm0 hroom (by omega)
                      (AHeap.set_same _ _ _) hne (by rw [AHeap.set_other _ _ hne]; exact hf2) (by omega) htl (by intro h; rw [h] at hxl; simp at hxl; omega)
                      (cut_ok (AHeap.set_same _ _ _) hfit) (stL_ok (AHeap.set_same _ _ _) (by rw [htx, htll]; exact hfit2) (by rw [htx]; exact ht1))
                      (cut_ok (xs := ys) (by rw [AHeap.set_other _ _ hne, AHeap.set_other _ _ hne]; exact hf2) (by omega)) (stL_ok (AHeap.set_same _ _ _) (by rw [spl_length, hvl, hxl]; omega) hn1))
                    refine (body_sound none_ok none_ad I.mixed 1 g _ _ _ _ hrun hclx (hval rfl) B ι w _ rx hargs).mono ?_
                    rintro en w' ⟨v', ι', rfl, k1, k2, k3⟩
                    have k3 := sx.trans k3
                    have hL' : ι' b = some L := by rw [k3.ext b hbn]; exact hL
                    obtain ⟨L', e1, rfl, _⟩ := rv_even k1 rfl (by omega)
                    rw [hL'] at e1
                    cases e1
                    have hblk2 := k2.blk b L hL'
                    rw [AHeap.set_same] at hblk2
                    obtain ⟨cs2, e2, fr2, q1, q2, q3, q4, q5⟩ := hblk2
                    have q5 := q5 rfl
                    rw [spl_length, spl_length, hxl] at q3
                    have hnone : ι' H.n = none := by
                      cases hq : ι' H.n with
                      | none => rfl
                      | some M =>
                        have := (k2.lt _ M hq).1
                        simp at this
                    have hup : ∀ x M, ι' x = some M → up ι' H.n ⟨L.cb, L.base + o, L.sz, L.total⟩ x = some M := by
                      intro x M hx
                      have : x ≠ H.n := by rintro rfl; rw [hnone] at hx; cases hx
                      simp [up, this, hx]
                    have hnew : up ι' H.n ⟨L.cb, L.base + o, L.sz, L.total⟩ H.n = some ⟨L.cb, L.base + o, L.sz, L.total⟩ := by simp [up]
                    have hoth : ∀ x, x ≠ H.n → up ι' H.n ⟨L.cb, L.base + o, L.sz, L.total⟩ x = ι' x := fun x hx => by simp [up, hx]
                    have hfold : ∀ {k : Blk} {x : Nat}, x ≠ H.n → x ≠ b → ((H.set b .dead).push k).f x = H.f x := by
                      intro k x hx hxb
                      rw [AHeap.push_old (H.set b .dead) _ (show x ≠ (H.set b .dead).n from hx), AHeap.set_other _ _ hxb]
                    have hfb : ∀ {k : Blk}, ((H.set b .dead).push k).f b = .dead := by
                      intro k
                      rw [AHeap.push_old (H.set b .dead) _ (show b ≠ (H.set b .dead).n from Nat.ne_of_lt hbn), AHeap.set_same]
                    have hfn : ∀ {k : Blk}, ((H.set b .dead).push k).f H.n = k := fun {k} => AHeap.push_new (H.set b .dead) k
                    refine ⟨_, up ι' H.n ⟨L.cb, L.base + o, L.sz, L.total⟩, rfl, ?_, ⟨fun x M hx => ?_, fun x M hx => ?_, fun x y M M' hx hy hxy hox hay => ?_, k2.base, hOk.1.ver⟩,
                      ⟨fun x hx => ?_, hOk.2.2.n, k3.wn, k3.os, k3.tape, k3.output, k3.fr, fun x M hx hM => ?_, fun x M hx hM ho => ?_, hOk.2.2⟩⟩
                    · have := RV.sli (ι := up ι' H.n ⟨L.cb, L.base + o, L.sz, L.total⟩) (o := 0) (n := l + m) (c := l + m) (cc := cc) hnew hroom hroom (by simp only [hsz]; omega)
                      simpa using this
                    · by_cases hxn : x = H.n
                      · subst hxn
                        rw [hnew] at hx
                        cases hx
                        rw [hfn]
                        refine ⟨cs2, e2, fr2, q1, q2, ?_, fun j u hj => ?_, fun _ => q5⟩
                        · have holdl : ((xs.drop o).take (i * z.length)).length = i * z.length := by rw [List.length_take, List.length_drop]; omega
                          rw [List.length_append, List.length_append, hvl, htll, holdl]
                          show L.base + o + _ ≤ _
                          omega
                        · have hjl := (List.getElem?_eq_some_iff.1 hj).1
                          have holdl : ((xs.drop o).take (i * z.length)).length = i * z.length := by rw [List.length_take, List.length_drop]; omega
                          rw [List.length_append, List.length_append, hvl, htll, holdl] at hjl
                          have hic := ins_cells (xs := xs ++ List.replicate ((cc - c) * z.length) top) (new := (ys.drop ov).take (m * z.length)) (o := o) (A := i * z.length) (M := m * z.length) (T := (l - i) * z.length) (by rw [hxl]; omega) hvl (j := j) (by omega)
                          rw [htx, show ((xs ++ List.replicate ((cc - c) * z.length) top).drop o).take (i * z.length) = (xs.drop o).take (i * z.length) by
                            rw [List.drop_append_of_le_length (by omega), List.take_append_of_le_length (by rw [List.length_drop]; omega)]] at hic
                          rw [← hA] at hic
                          rw [← hic] at hj
                          obtain ⟨u', c1, c2⟩ := q4 (o + j) u (by rw [htx]; exact hj)
                          exact ⟨u', by rw [Nat.add_assoc]; exact c1, c2.mono hup⟩
                      · rw [hoth x hxn] at hx
                        by_cases hxb : x = b
                        · subst hxb
                          rw [hfb]
                          trivial
                        · rw [hfold hxn hxb]
                          have := k2.blk x M hx
                          rw [AHeap.set_other _ _ hxb, AHeap.set_other _ _ hxb, AHeap.set_other _ _ hxb] at this
                          exact this.mono hup
                    · by_cases hxn : x = H.n
                      · subst hxn
                        rw [hnew] at hx
                        cases hx
                        exact ⟨by simp, (k2.lt b L hL').2⟩
                      · rw [hoth x hxn] at hx
                        have := k2.lt x M hx
                        exact ⟨by have := this.1; simp at this ⊢; omega, this.2⟩
                    · have hob : owned (.cells (spl (spl (xs ++ List.replicate ((cc - c) * z.length) top) (o + (i + m) * z.length) (((xs ++ List.replicate ((cc - c) * z.length) top).drop (o + i * z.length)).take ((l - i) * z.length))) (o + i * z.length) ((ys.drop ov).take (m * z.length))) e' true) = true := rfl
                      by_cases hxn : x = H.n
                      · have hyn : y ≠ H.n := by rintro rfl; exact hxy hxn
                        subst hxn
                        rw [hnew] at hx
                        cases hx
                        rw [hoth y hyn] at hy
                        have hyb : y ≠ b := by rintro rfl; rw [hfb] at hay; simp [alive] at hay
                        rw [hfold hyn hyb] at hay
                        exact k2.inj b y L M' hL' hy (Ne.symm hyb) (by rw [AHeap.set_same]; rfl) (by rw [AHeap.set_other _ _ hyb, AHeap.set_other _ _ hyb, AHeap.set_other _ _ hyb]; exact hay)
                      · rw [hoth x hxn] at hx
                        have hxb : x ≠ b := by rintro rfl; rw [hfb] at hox; simp [owned] at hox
                        rw [hfold hxn hxb] at hox
                        by_cases hyn : y = H.n
                        · subst hyn
                          rw [hnew] at hy
                          cases hy
                          exact k2.inj x b M L hx hL' hxb (by rw [AHeap.set_other _ _ hxb, AHeap.set_other _ _ hxb, AHeap.set_other _ _ hxb]; exact hox) (by rw [AHeap.set_same]; rfl)
                        · rw [hoth y hyn] at hy
                          have hyb : y ≠ b := by rintro rfl; rw [hfb] at hay; simp [alive] at hay
                          rw [hfold hyn hyb] at hay
                          exact k2.inj x y M M' hx hy hxy (by rw [AHeap.set_other _ _ hxb, AHeap.set_other _ _ hxb, AHeap.set_other _ _ hxb]; exact hox) (by rw [AHeap.set_other _ _ hyb, AHeap.set_other _ _ hyb, AHeap.set_other _ _ hyb]; exact hay)
                    · rw [hoth x (Nat.ne_of_lt hx)]; exact k3.ext x hx
                    · by_cases hxn : x = H.n
                      · subst hxn
                        rw [hnew] at hM
                        cases hM
                        exact .inr ⟨b, L, hbn, hL, by rw [hf1]; rfl, rfl⟩
                      · rw [hoth x hxn] at hM
                        have := (k2.lt x M hM).1
                        simp at this
                        omega
                    · have hxn : x ≠ H.n := Nat.ne_of_lt hx
                      have hxb : x ≠ b := by rintro rfl; rw [hfb] at ho; simp [owned] at ho
                      rwa [hfold hxn hxb] at ho
                · have hsure : ¬ l + m ≤ c := by omega
                  rw [if_neg hsure] at h2
                  cases h2
                  have hbn : b < H.n := r.dom b L hL
                  have hbvn : bv < H.n := by
                    have k3 := had (.slice (some ⟨bv, ov, none⟩) m cv) (by simp)
                    cases k3
                    assumption
                  have holdl : ((xs.drop o).take (i * z.length)).length = i * z.length := by rw [List.length_take, List.length_drop]; omega
                  have hkk : (l + m - i) * z.length = (l - i) * z.length + m * z.length := by rw [← Nat.add_mul]; congr 1; omega
                  have hzl : (zeros z (l + m - i)).length = (l + m - i) * z.length := zeros_length _ _
                  have ho : oldOf z.length i H (some ⟨b, o, none⟩) = some ((xs.drop o).take (i * z.length)) := by
                    unfold oldOf
                    split
                    · rename_i h0; subst h0; simp
                    · exact cut_ok hf1 (by omega)
                  have hrun := I.run (n := 1) (H := H) (fun C K0 => insK_new (C := C) (n := 1) (K0 := K0) (fO := fO) (fR := fR) (cv := cv) I.hS I.hI I.hz I.hsz hil hn hm0 (by omega) hb1 hb2 hz1 ho rfl
                    (cut_ok (xs := ys) (by rw [AHeap.push_old _ _ (Nat.ne_of_lt hbvn)]; exact hf2) (by omega)) (stL_ok (AHeap.push_new _ _) (by rw [List.length_append, holdl, hzl, hvl]; omega) hn1)
                    (cut_ok (xs := xs) (by rw [AHeap.set_other _ _ (Nat.ne_of_lt hbn), AHeap.push_old _ _ (Nat.ne_of_lt hbn)]; exact hf1) (by omega))
                    (stL_ok (AHeap.set_same _ _ _) (by rw [spl_length, List.length_append, holdl, hzl, htll]; omega) ht1) (AHeap.set_same _ _ _))
                  refine (body_sound none_ok none_ad I.mixed 1 g _ H _ _ hrun hl (hval rfl) B ι w _ r hargs).mono ?_
                  rintro en w' ⟨v', ι', rfl, k1, k2, k3⟩
                  have hrow := ins_row (old := (xs.drop o).take (i * z.length)) (zs := zeros z (l + m - i)) (new := (ys.drop ov).take (m * z.length)) (tail := (xs.drop (o + i * z.length)).take ((l - i) * z.length)) (by rw [hzl, hvl, htll]; omega)
                  rw [holdl, hvl, ← hA] at hrow
                  refine ⟨v', ι', rfl, k1, k2.less rfl (fun x => ?_) hOk.1.ver, k3.less rfl (fun x => ?_) hOk.2.2⟩
                  all_goals
                    by_cases hx : x = H.n
                    · left
                      subst hx
                      rw [AHeap.set_same, ← hrow]
                      exact AHeap.push_new (H.set b .dead) _
                    · by_cases hxb : x = b
                      · right
                        subst hxb
                        rw [AHeap.push_old (H.set x .dead) _ (show x ≠ (H.set x .dead).n from hx), AHeap.set_same]
                      · left
                        rw [AHeap.set_other _ _ hx, AHeap.set_other _ _ hx, AHeap.push_old H _ hx, AHeap.push_old (H.set b .dead) _ (show x ≠ (H.set b .dead).n from hx), AHeap.set_other _ _ hxb]
            · cases h2
          · cases h2
        · cases h2
    · simp [hg] at h2

end Go.Proofs.Ytmbppjilnnjdaaa.Eng

/-
  Chapter 42: slices.Insert as a Prim; known() returns true.
  Conditions: none. By an AI agent.
-/
namespace Go.Proofs.Ytmbppjilnnjdaaa
open Go Eng

theorem mixed : Try.prog.follows .mixedOrders = true := by kernel_rfl

def zIns0 : List Value := [(.string (mk [])), (.string (mk []))]
theorem insOK0 : InsOK Try.prog hints 55 33 3 54 zIns0 64 65 where
  mixed := mixed
  body := fun C n a0 a1 a2 H => by kernel_rfl
  hS := Try.underlying33
  hI := Try.underlying3
  hz := by kernel_rfl
  hsz := by kernel_rfl
  ovl := ⟨Try.f64, by kernel_rfl, by decide, by kernel_rfl, by kernel_rfl, by kernel_rfl, by kernel_rfl⟩

noncomputable def prims0 : Prims := fun f => if f = 55 then some (insP Try.prog hints 55 54 zIns0) else none

theorem prims0_ok : PrimsOK Try.prog prims0 := by
  intro f p h
  unfold prims0 at h
  split at h
  · rename_i hf
    have e := Option.some.inj h
    subst hf
    rw [← e]
    exact ins_prim insOK0
  · cases h

theorem known_run : dCall Try.prog prims0 hints 60 7 [] H0 = some (.bool true, H0) := by kernel_rfl

noncomputable def prims1 : Prims := fun f => if f = 7 then some trueP else prims0 f

theorem prims1_ok : PrimsOK Try.prog prims1 := by
  intro f p h
  unfold prims1 at h
  split at h
  · rename_i hf
    have e := Option.some.inj h
    subst hf
    rw [← e]
    exact true_prim prims0_ok mixed ⟨60, _, known_run⟩
  · exact prims0_ok f p h

/-- What a call gives. -/
noncomputable def CC : CallF := D Try.prog prims1 hints

end Go.Proofs.Ytmbppjilnnjdaaa

/-
  The equations of the seat's functions over calls in the limit (a program of ours printed it).
  Conditions: none. By an AI agent.
-/
set_option linter.unusedVariables false
namespace Go.Proofs.Ytmbppjilnnjdaaa
open Go Eng

theorem u_int : Try.prog.underlying T.int = Try.prog.underlying 3 := rfl
theorem u_bool : Try.prog.underlying T.bool = Try.prog.underlying 4 := rfl
theorem u_string : Try.prog.underlying T.string = Try.prog.underlying 9 := rfl
theorem u_p_cursor_Cursor : Try.prog.underlying T.p_cursor_Cursor = Try.prog.underlying 24 := rfl
theorem u_api_Errno : Try.prog.underlying T.api_Errno = Try.prog.underlying 25 := rfl
theorem u_p_model_Model : Try.prog.underlying T.p_model_Model = Try.prog.underlying 32 := rfl
theorem u_sl_api_Pair : Try.prog.underlying T.sl_api_Pair = Try.prog.underlying 33 := rfl
theorem u_model_Model : Try.prog.underlying T.model_Model = Try.prog.underlying 35 := rfl
theorem u_cursor_span : Try.prog.underlying T.cursor_span = Try.prog.underlying 38 := rfl
theorem u_cursor_side : Try.prog.underlying T.cursor_side = Try.prog.underlying 39 := rfl
theorem u_cursor_Cursor : Try.prog.underlying T.cursor_Cursor = Try.prog.underlying 41 := rfl
theorem u_api_Pair : Try.prog.underlying T.api_Pair = Try.prog.underlying 54 := rfl
theorem u_uint : Try.prog.underlying T.uint = Try.prog.underlying 90 := rfl
@[go_sem] theorem x_int_uint {n : Int} {H : AHeap} : xconv Try.prog T.int T.uint (.int .i64 n) H = some (.int .u64 (IntKind.wrap .u64 n), H) := xconv_int (P := Try.prog) (s := 3) (t := 90) Try.underlying3 Try.underlying90
@[go_sem] theorem x_uint_int {n : Int} {H : AHeap} : xconv Try.prog T.uint T.int (.int .u64 n) H = some (.int .i64 (IntKind.wrap .i64 n), H) := xconv_int (P := Try.prog) (s := 90) (t := 3) Try.underlying90 Try.underlying3
theorem c_model_Model_place {call : CallF} {x c : Array Value} {args : List Value} {H : AHeap} {k : Value → AHeap → Res} : callK Try.prog call (.func (.func F.model_Model_place) x c) args H k = enterK call F.model_Model_place (x.toList ++ args ++ c.toList) H k := by kernel_rfl
theorem c_cursor_Cursor_Prev_1 {call : CallF} {x c : Array Value} {args : List Value} {H : AHeap} {k : Value → AHeap → Res} : callK Try.prog call (.func (.func F.cursor_Cursor_Prev_1) x c) args H k = enterK call F.cursor_Cursor_Prev_1 (x.toList ++ args ++ c.toList) H k := by kernel_rfl
theorem c_cursor_Cursor_Seek_1 {call : CallF} {x c : Array Value} {args : List Value} {H : AHeap} {k : Value → AHeap → Res} : callK Try.prog call (.func (.func F.cursor_Cursor_Seek_1) x c) args H k = enterK call F.cursor_Cursor_Seek_1 (x.toList ++ args ++ c.toList) H k := by kernel_rfl
theorem c_model_Model_place_1 {call : CallF} {x c : Array Value} {args : List Value} {H : AHeap} {k : Value → AHeap → Res} : callK Try.prog call (.func (.func F.model_Model_place_1) x c) args H k = enterK call F.model_Model_place_1 (x.toList ++ args ++ c.toList) H k := by kernel_rfl
theorem c_cursor_span_pairs_1 {call : CallF} {x c : Array Value} {args : List Value} {H : AHeap} {k : Value → AHeap → Res} : callK Try.prog call (.func (.func F.cursor_span_pairs_1) x c) args H k = enterK call F.cursor_span_pairs_1 (x.toList ++ args ++ c.toList) H k := by kernel_rfl
theorem c_cursor_span_pairs_2 {call : CallF} {x c : Array Value} {args : List Value} {H : AHeap} {k : Value → AHeap → Res} : callK Try.prog call (.func (.func F.cursor_span_pairs_2) x c) args H k = enterK call F.cursor_span_pairs_2 (x.toList ++ args ++ c.toList) H k := by kernel_rfl
theorem c_cursor_Cursor_forward_1 {call : CallF} {x c : Array Value} {args : List Value} {H : AHeap} {k : Value → AHeap → Res} : callK Try.prog call (.func (.func F.cursor_Cursor_forward_1) x c) args H k = enterK call F.cursor_Cursor_forward_1 (x.toList ++ args ++ c.toList) H k := by kernel_rfl
theorem c_model_check_1 {call : CallF} {x c : Array Value} {args : List Value} {H : AHeap} {k : Value → AHeap → Res} : callK Try.prog call (.func (.func F.model_check_1) x c) args H k = enterK call F.model_check_1 (x.toList ++ args ++ c.toList) H k := by kernel_rfl

theorem d_law_fails (a0 : Value) (a1 : Value) (a2 : Value) (H : AHeap) {r : Value × AHeap} (h : s_law_fails guardK condL shareL Try.prog CC a0 a1 a2 H (endK Try.prog [.tmp 6]) = some r) : CC F.law_fails [a0, a1, a2] H = some (tidy H r) := D_body (by kernel_rfl) ((s_law_fails_eq stdL CC limLP a0 a1 a2 H).trans (Eq.trans (show s_law_fails stdL.b.g stdL.c stdL.s Try.prog CC a0 a1 a2 H (endK Try.prog [.tmp 6]) = s_law_fails guardK condL shareL Try.prog CC a0 a1 a2 H (endK Try.prog [.tmp 6]) by kernel_rfl) h))

theorem d_cursor_New (a0 : Value) (a1 : Value) (H : AHeap) {r : Value × AHeap} (h : s_cursor_New guardK condL shareL Try.prog CC a0 a1 H (endK Try.prog [.tmp 4, .tmp 5]) = some r) : CC F.cursor_New [a0, a1] H = some (tidy H r) := D_body (by kernel_rfl) ((s_cursor_New_eq stdL CC limLP a0 a1 H).trans (Eq.trans (show s_cursor_New stdL.b.g stdL.c stdL.s Try.prog CC a0 a1 H (endK Try.prog [.tmp 4, .tmp 5]) = s_cursor_New guardK condL shareL Try.prog CC a0 a1 H (endK Try.prog [.tmp 4, .tmp 5]) by kernel_rfl) h))

theorem d_law_alike (a0 : Value) (a1 : Value) (a2 : Value) (H : AHeap) {r : Value × AHeap} (h : s_law_alike guardK condL shareL Try.prog CC a0 a1 a2 H (endK Try.prog [.tmp 6]) = some r) : CC F.law_alike [a0, a1, a2] H = some (tidy H r) := D_body (by kernel_rfl) ((s_law_alike_eq stdL CC limLP a0 a1 a2 H).trans (Eq.trans (show s_law_alike stdL.b.g stdL.c stdL.s Try.prog CC a0 a1 a2 H (endK Try.prog [.tmp 6]) = s_law_alike guardK condL shareL Try.prog CC a0 a1 a2 H (endK Try.prog [.tmp 6]) by kernel_rfl) h))

theorem d_law_next (a0 : Value) (a1 : Value) (a2 : Value) (a3 : Value) (a4 : Value) (H : AHeap) {r : Value × AHeap} (h : s_law_next guardK condL shareL Try.prog CC a0 a1 a2 a3 a4 H (endK Try.prog [.tmp 10]) = some r) : CC F.law_next [a0, a1, a2, a3, a4] H = some (tidy H r) := D_body (by kernel_rfl) ((s_law_next_eq stdL CC limLP a0 a1 a2 a3 a4 H).trans (Eq.trans (show s_law_next stdL.b.g stdL.c stdL.s Try.prog CC a0 a1 a2 a3 a4 H (endK Try.prog [.tmp 10]) = s_law_next guardK condL shareL Try.prog CC a0 a1 a2 a3 a4 H (endK Try.prog [.tmp 10]) by kernel_rfl) h))

theorem d_law_prev (a0 : Value) (a1 : Value) (a2 : Value) (a3 : Value) (a4 : Value) (H : AHeap) {r : Value × AHeap} (h : s_law_prev guardK condL shareL Try.prog CC a0 a1 a2 a3 a4 H (endK Try.prog [.tmp 10]) = some r) : CC F.law_prev [a0, a1, a2, a3, a4] H = some (tidy H r) := D_body (by kernel_rfl) ((s_law_prev_eq stdL CC limLP a0 a1 a2 a3 a4 H).trans (Eq.trans (show s_law_prev stdL.b.g stdL.c stdL.s Try.prog CC a0 a1 a2 a3 a4 H (endK Try.prog [.tmp 10]) = s_law_prev guardK condL shareL Try.prog CC a0 a1 a2 a3 a4 H (endK Try.prog [.tmp 10]) by kernel_rfl) h))

theorem d_law_seek (a0 : Value) (a1 : Value) (a2 : Value) (a3 : Value) (a4 : Value) (a5 : Value) (H : AHeap) {r : Value × AHeap} (h : s_law_seek guardK condL shareL Try.prog CC a0 a1 a2 a3 a4 a5 H (endK Try.prog [.tmp 12]) = some r) : CC F.law_seek [a0, a1, a2, a3, a4, a5] H = some (tidy H r) := D_body (by kernel_rfl) ((s_law_seek_eq stdL CC limLP a0 a1 a2 a3 a4 a5 H).trans (Eq.trans (show s_law_seek stdL.b.g stdL.c stdL.s Try.prog CC a0 a1 a2 a3 a4 a5 H (endK Try.prog [.tmp 12]) = s_law_seek guardK condL shareL Try.prog CC a0 a1 a2 a3 a4 a5 H (endK Try.prog [.tmp 12]) by kernel_rfl) h))

theorem d_law_sees (a0 : Value) (a1 : Value) (a2 : Value) (a3 : Value) (a4 : Value) (H : AHeap) {r : Value × AHeap} (h : s_law_sees guardK condL shareL Try.prog CC a0 a1 a2 a3 a4 H (endK Try.prog [.tmp 10]) = some r) : CC F.law_sees [a0, a1, a2, a3, a4] H = some (tidy H r) := D_body (by kernel_rfl) ((s_law_sees_eq stdL CC limLP a0 a1 a2 a3 a4 H).trans (Eq.trans (show s_law_sees stdL.b.g stdL.c stdL.s Try.prog CC a0 a1 a2 a3 a4 H (endK Try.prog [.tmp 10]) = s_law_sees guardK condL shareL Try.prog CC a0 a1 a2 a3 a4 H (endK Try.prog [.tmp 10]) by kernel_rfl) h))

noncomputable def l_law_rests_0 (v2 : Value) (v9 : Value) (v11 : Value) (H : AHeap) (k : K) : Res := loopL stdL Try.prog hints CC limLP F.law_rests 0 [(2, v2), (9, v9), (11, v11)] H k
theorem r_law_rests_0 (v2 : Value) (v9 : Value) (v11 : Value) (H : AHeap) (k : K) : l_law_rests_0 v2 v9 v11 H k = s_law_rests_b0 guardK condL shareL Try.prog CC l_law_rests_0 v2 v9 v11 H (seqK (fun T H => l_law_rests_0 (get T 2) (get T 9) (get T 11) H k) k) := ((loopL_next (by kernel_rfl) rfl H k).trans (s_law_rests_b0_eq stdL CC limLP v2 v9 v11 H _)).trans (by kernel_rfl)
theorem d_law_rests (a0 : Value) (a1 : Value) (a2 : Value) (a3 : Value) (H : AHeap) {r : Value × AHeap} (h : s_law_rests guardK condL shareL Try.prog CC l_law_rests_0 a0 a1 a2 a3 H (endK Try.prog [.tmp 8]) = some r) : CC F.law_rests [a0, a1, a2, a3] H = some (tidy H r) := D_body (by kernel_rfl) ((s_law_rests_eq stdL CC limLP a0 a1 a2 a3 H).trans (Eq.trans (show s_law_rests stdL.b.g stdL.c stdL.s Try.prog CC (fun v2 v9 v11 H k => loopL stdL Try.prog hints CC limLP F.law_rests 0 [(2, v2), (9, v9), (11, v11)] H k) a0 a1 a2 a3 H (endK Try.prog [.tmp 8]) = s_law_rests guardK condL shareL Try.prog CC l_law_rests_0 a0 a1 a2 a3 H (endK Try.prog [.tmp 8]) by kernel_rfl) h))

theorem d_cursor_Cursor_At (a0 : Value) (H : AHeap) {r : Value × AHeap} (h : s_cursor_Cursor_At guardK condL shareL Try.prog CC a0 H (endK Try.prog [.tmp 2]) = some r) : CC F.cursor_Cursor_At [a0] H = some (tidy H r) := D_body (by kernel_rfl) ((s_cursor_Cursor_At_eq stdL CC limLP a0 H).trans (Eq.trans (show s_cursor_Cursor_At stdL.b.g stdL.c stdL.s Try.prog CC a0 H (endK Try.prog [.tmp 2]) = s_cursor_Cursor_At guardK condL shareL Try.prog CC a0 H (endK Try.prog [.tmp 2]) by kernel_rfl) h))

theorem d_cursor_Cursor_Before (a0 : Value) (H : AHeap) {r : Value × AHeap} (h : s_cursor_Cursor_Before guardK condL shareL Try.prog CC a0 H (endK Try.prog [.tmp 2]) = some r) : CC F.cursor_Cursor_Before [a0] H = some (tidy H r) := D_body (by kernel_rfl) ((s_cursor_Cursor_Before_eq stdL CC limLP a0 H).trans (Eq.trans (show s_cursor_Cursor_Before stdL.b.g stdL.c stdL.s Try.prog CC a0 H (endK Try.prog [.tmp 2]) = s_cursor_Cursor_Before guardK condL shareL Try.prog CC a0 H (endK Try.prog [.tmp 2]) by kernel_rfl) h))

theorem d_cursor_Cursor_Behind (a0 : Value) (H : AHeap) {r : Value × AHeap} (h : s_cursor_Cursor_Behind guardK condL shareL Try.prog CC a0 H (endK Try.prog [.tmp 2]) = some r) : CC F.cursor_Cursor_Behind [a0] H = some (tidy H r) := D_body (by kernel_rfl) ((s_cursor_Cursor_Behind_eq stdL CC limLP a0 H).trans (Eq.trans (show s_cursor_Cursor_Behind stdL.b.g stdL.c stdL.s Try.prog CC a0 H (endK Try.prog [.tmp 2]) = s_cursor_Cursor_Behind guardK condL shareL Try.prog CC a0 H (endK Try.prog [.tmp 2]) by kernel_rfl) h))

theorem d_cursor_Cursor_Copy (a0 : Value) (H : AHeap) {r : Value × AHeap} (h : s_cursor_Cursor_Copy guardK condL shareL Try.prog CC a0 H (endK Try.prog [.tmp 2]) = some r) : CC F.cursor_Cursor_Copy [a0] H = some (tidy H r) := D_body (by kernel_rfl) ((s_cursor_Cursor_Copy_eq stdL CC limLP a0 H).trans (Eq.trans (show s_cursor_Cursor_Copy stdL.b.g stdL.c stdL.s Try.prog CC a0 H (endK Try.prog [.tmp 2]) = s_cursor_Cursor_Copy guardK condL shareL Try.prog CC a0 H (endK Try.prog [.tmp 2]) by kernel_rfl) h))

noncomputable def l_law_small_0 (v0 : Value) (v1 : Value) (v5 : Value) (H : AHeap) (k : K) : Res := loopL stdL Try.prog hints CC limLP F.law_small 0 [(0, v0), (1, v1), (5, v5)] H k
theorem r_law_small_0 (v0 : Value) (v1 : Value) (v5 : Value) (H : AHeap) (k : K) : l_law_small_0 v0 v1 v5 H k = s_law_small_b0 guardK condL shareL Try.prog CC l_law_small_0 v0 v1 v5 H (seqK (fun T H => l_law_small_0 (get T 0) (get T 1) (get T 5) H k) k) := ((loopL_next (by kernel_rfl) rfl H k).trans (s_law_small_b0_eq stdL CC limLP v0 v1 v5 H _)).trans (by kernel_rfl)
theorem d_law_small (a0 : Value) (a1 : Value) (H : AHeap) {r : Value × AHeap} (h : s_law_small guardK condL shareL Try.prog CC l_law_small_0 a0 a1 H (endK Try.prog [.tmp 4]) = some r) : CC F.law_small [a0, a1] H = some (tidy H r) := D_body (by kernel_rfl) ((s_law_small_eq stdL CC limLP a0 a1 H).trans (Eq.trans (show s_law_small stdL.b.g stdL.c stdL.s Try.prog CC (fun v0 v1 v5 H k => loopL stdL Try.prog hints CC limLP F.law_small 0 [(0, v0), (1, v1), (5, v5)] H k) a0 a1 H (endK Try.prog [.tmp 4]) = s_law_small guardK condL shareL Try.prog CC l_law_small_0 a0 a1 H (endK Try.prog [.tmp 4]) by kernel_rfl) h))

theorem d_law_Model_next (a0 : Value) (a1 : Value) (H : AHeap) {r : Value × AHeap} (h : s_law_Model_next guardK condL shareL Try.prog CC a0 a1 H (endK Try.prog [.cell 4 T.api_Pair, .tmp 5]) = some r) : CC F.law_Model_next [a0, a1] H = some (tidy H r) := D_body (by kernel_rfl) ((s_law_Model_next_eq stdL CC limLP a0 a1 H).trans (Eq.trans (show s_law_Model_next stdL.b.g stdL.c stdL.s Try.prog CC a0 a1 H (endK Try.prog [.cell 4 T.api_Pair, .tmp 5]) = s_law_Model_next guardK condL shareL Try.prog CC a0 a1 H (endK Try.prog [.cell 4 T.api_Pair, .tmp 5]) by kernel_rfl) h))

noncomputable def l_law_Model_prev_0 (v0 : Value) (v4 : Value) (v6 : Value) (v7 : Value) (H : AHeap) (k : K) : Res := loopL stdL Try.prog hints CC limLP F.law_Model_prev 0 [(0, v0), (4, v4), (6, v6), (7, v7)] H k
theorem r_law_Model_prev_0 (v0 : Value) (v4 : Value) (v6 : Value) (v7 : Value) (H : AHeap) (k : K) : l_law_Model_prev_0 v0 v4 v6 v7 H k = s_law_Model_prev_b0 guardK condL shareL Try.prog CC l_law_Model_prev_0 v0 v4 v6 v7 H (seqK (fun T H => l_law_Model_prev_0 (get T 0) (get T 4) (get T 6) (get T 7) H k) k) := ((loopL_next (by kernel_rfl) rfl H k).trans (s_law_Model_prev_b0_eq stdL CC limLP v0 v4 v6 v7 H _)).trans (by kernel_rfl)
theorem d_law_Model_prev (a0 : Value) (a1 : Value) (H : AHeap) {r : Value × AHeap} (h : s_law_Model_prev guardK condL shareL Try.prog CC l_law_Model_prev_0 a0 a1 H (endK Try.prog [.cell 4 T.api_Pair, .tmp 5]) = some r) : CC F.law_Model_prev [a0, a1] H = some (tidy H r) := D_body (by kernel_rfl) ((s_law_Model_prev_eq stdL CC limLP a0 a1 H).trans (Eq.trans (show s_law_Model_prev stdL.b.g stdL.c stdL.s Try.prog CC (fun v0 v4 v6 v7 H k => loopL stdL Try.prog hints CC limLP F.law_Model_prev 0 [(0, v0), (4, v4), (6, v6), (7, v7)] H k) a0 a1 H (endK Try.prog [.cell 4 T.api_Pair, .tmp 5]) = s_law_Model_prev guardK condL shareL Try.prog CC l_law_Model_prev_0 a0 a1 H (endK Try.prog [.cell 4 T.api_Pair, .tmp 5]) by kernel_rfl) h))

noncomputable def l_law_Model_seek_0 (v0 : Value) (v2 : Value) (v6 : Value) (v8 : Value) (v9 : Value) (H : AHeap) (k : K) : Res := loopL stdL Try.prog hints CC limLP F.law_Model_seek 0 [(0, v0), (2, v2), (6, v6), (8, v8), (9, v9)] H k
theorem r_law_Model_seek_0 (v0 : Value) (v2 : Value) (v6 : Value) (v8 : Value) (v9 : Value) (H : AHeap) (k : K) : l_law_Model_seek_0 v0 v2 v6 v8 v9 H k = s_law_Model_seek_b0 guardK condL shareL Try.prog CC l_law_Model_seek_0 v0 v2 v6 v8 v9 H (seqK (fun T H => l_law_Model_seek_0 (get T 0) (get T 2) (get T 6) (get T 8) (get T 9) H k) k) := ((loopL_next (by kernel_rfl) rfl H k).trans (s_law_Model_seek_b0_eq stdL CC limLP v0 v2 v6 v8 v9 H _)).trans (by kernel_rfl)
theorem d_law_Model_seek (a0 : Value) (a1 : Value) (a2 : Value) (H : AHeap) {r : Value × AHeap} (h : s_law_Model_seek guardK condL shareL Try.prog CC l_law_Model_seek_0 a0 a1 a2 H (endK Try.prog [.cell 6 T.api_Pair, .tmp 7]) = some r) : CC F.law_Model_seek [a0, a1, a2] H = some (tidy H r) := D_body (by kernel_rfl) ((s_law_Model_seek_eq stdL CC limLP a0 a1 a2 H).trans (Eq.trans (show s_law_Model_seek stdL.b.g stdL.c stdL.s Try.prog CC (fun v0 v2 v6 v8 v9 H k => loopL stdL Try.prog hints CC limLP F.law_Model_seek 0 [(0, v0), (2, v2), (6, v6), (8, v8), (9, v9)] H k) a0 a1 a2 H (endK Try.prog [.cell 6 T.api_Pair, .tmp 7]) = s_law_Model_seek guardK condL shareL Try.prog CC l_law_Model_seek_0 a0 a1 a2 H (endK Try.prog [.cell 6 T.api_Pair, .tmp 7]) by kernel_rfl) h))

theorem d_model_Model_Put (a0 : Value) (a1 : Value) (a2 : Value) (H : AHeap) {r : Value × AHeap} (h : s_model_Model_Put guardK condL shareL Try.prog CC a0 a1 a2 H (endK Try.prog [.tmp 6]) = some r) : CC F.model_Model_Put [a0, a1, a2] H = some (tidy H r) := D_body (by kernel_rfl) ((s_model_Model_Put_eq stdL CC limLP a0 a1 a2 H).trans (Eq.trans (show s_model_Model_Put stdL.b.g stdL.c stdL.s Try.prog CC a0 a1 a2 H (endK Try.prog [.tmp 6]) = s_model_Model_Put guardK condL shareL Try.prog CC a0 a1 a2 H (endK Try.prog [.tmp 6]) by kernel_rfl) h))

theorem d_model_Model_Delete (a0 : Value) (a1 : Value) (H : AHeap) {r : Value × AHeap} (h : s_model_Model_Delete guardK condL shareL Try.prog CC a0 a1 H (endK Try.prog [.tmp 4, .tmp 5]) = some r) : CC F.model_Model_Delete [a0, a1] H = some (tidy H r) := D_body (by kernel_rfl) ((s_model_Model_Delete_eq stdL CC limLP a0 a1 H).trans (Eq.trans (show s_model_Model_Delete stdL.b.g stdL.c stdL.s Try.prog CC a0 a1 H (endK Try.prog [.tmp 4, .tmp 5]) = s_model_Model_Delete guardK condL shareL Try.prog CC a0 a1 H (endK Try.prog [.tmp 4, .tmp 5]) by kernel_rfl) h))

theorem d_cursor_Cursor_Next (a0 : Value) (a1 : Value) (H : AHeap) {r : Value × AHeap} (h : s_cursor_Cursor_Next guardK condL shareL Try.prog CC a0 a1 H (endK Try.prog [.cell 4 T.api_Pair, .tmp 5]) = some r) : CC F.cursor_Cursor_Next [a0, a1] H = some (tidy H r) := D_body (by kernel_rfl) ((s_cursor_Cursor_Next_eq stdL CC limLP a0 a1 H).trans (Eq.trans (show s_cursor_Cursor_Next stdL.b.g stdL.c stdL.s Try.prog CC a0 a1 H (endK Try.prog [.cell 4 T.api_Pair, .tmp 5]) = s_cursor_Cursor_Next guardK condL shareL Try.prog CC a0 a1 H (endK Try.prog [.cell 4 T.api_Pair, .tmp 5]) by kernel_rfl) h))

theorem d_model_Model_Pairs (a0 : Value) (H : AHeap) {r : Value × AHeap} (h : s_model_Model_Pairs guardK condL shareL Try.prog CC a0 H (endK Try.prog [.tmp 2]) = some r) : CC F.model_Model_Pairs [a0] H = some (tidy H r) := D_body (by kernel_rfl) ((s_model_Model_Pairs_eq stdL CC limLP a0 H).trans (Eq.trans (show s_model_Model_Pairs stdL.b.g stdL.c stdL.s Try.prog CC a0 H (endK Try.prog [.tmp 2]) = s_model_Model_Pairs guardK condL shareL Try.prog CC a0 H (endK Try.prog [.tmp 2]) by kernel_rfl) h))

theorem d_model_Model_Copy (a0 : Value) (H : AHeap) {r : Value × AHeap} (h : s_model_Model_Copy guardK condL shareL Try.prog CC a0 H (endK Try.prog [.tmp 2]) = some r) : CC F.model_Model_Copy [a0] H = some (tidy H r) := D_body (by kernel_rfl) ((s_model_Model_Copy_eq stdL CC limLP a0 H).trans (Eq.trans (show s_model_Model_Copy stdL.b.g stdL.c stdL.s Try.prog CC a0 H (endK Try.prog [.tmp 2]) = s_model_Model_Copy guardK condL shareL Try.prog CC a0 H (endK Try.prog [.tmp 2]) by kernel_rfl) h))

theorem d_model_Model_Get (a0 : Value) (a1 : Value) (H : AHeap) {r : Value × AHeap} (h : s_model_Model_Get guardK condL shareL Try.prog CC a0 a1 H (endK Try.prog [.tmp 4, .tmp 5]) = some r) : CC F.model_Model_Get [a0, a1] H = some (tidy H r) := D_body (by kernel_rfl) ((s_model_Model_Get_eq stdL CC limLP a0 a1 H).trans (Eq.trans (show s_model_Model_Get stdL.b.g stdL.c stdL.s Try.prog CC a0 a1 H (endK Try.prog [.tmp 4, .tmp 5]) = s_model_Model_Get guardK condL shareL Try.prog CC a0 a1 H (endK Try.prog [.tmp 4, .tmp 5]) by kernel_rfl) h))

noncomputable def l_model_Of_0 (v0 : Value) (v7 : Value) (v8 : Value) (v9 : Value) (H : AHeap) (k : K) : Res := loopL stdL Try.prog hints CC limLP F.model_Of 0 [(0, v0), (7, v7), (8, v8), (9, v9)] H k
theorem r_model_Of_0 (v0 : Value) (v7 : Value) (v8 : Value) (v9 : Value) (H : AHeap) (k : K) : l_model_Of_0 v0 v7 v8 v9 H k = s_model_Of_b0 guardK condL shareL Try.prog CC l_model_Of_0 v0 v7 v8 v9 H (seqK (fun T H => l_model_Of_0 (get T 0) (get T 7) (get T 8) (get T 9) H k) k) := ((loopL_next (by kernel_rfl) rfl H k).trans (s_model_Of_b0_eq stdL CC limLP v0 v7 v8 v9 H _)).trans (by kernel_rfl)
theorem d_model_Of (a0 : Value) (H : AHeap) {r : Value × AHeap} (h : s_model_Of guardK condL shareL Try.prog CC l_model_Of_0 a0 H (endK Try.prog [.tmp 2, .tmp 3]) = some r) : CC F.model_Of [a0] H = some (tidy H r) := D_body (by kernel_rfl) ((s_model_Of_eq stdL CC limLP a0 H).trans (Eq.trans (show s_model_Of stdL.b.g stdL.c stdL.s Try.prog CC (fun v0 v7 v8 v9 H k => loopL stdL Try.prog hints CC limLP F.model_Of 0 [(0, v0), (7, v7), (8, v8), (9, v9)] H k) a0 H (endK Try.prog [.tmp 2, .tmp 3]) = s_model_Of guardK condL shareL Try.prog CC l_model_Of_0 a0 H (endK Try.prog [.tmp 2, .tmp 3]) by kernel_rfl) h))

theorem d_cursor_Cursor_Rest (a0 : Value) (a1 : Value) (H : AHeap) {r : Value × AHeap} (h : s_cursor_Cursor_Rest guardK condL shareL Try.prog CC a0 a1 H (endK Try.prog [.tmp 4, .tmp 5]) = some r) : CC F.cursor_Cursor_Rest [a0, a1] H = some (tidy H r) := D_body (by kernel_rfl) ((s_cursor_Cursor_Rest_eq stdL CC limLP a0 a1 H).trans (Eq.trans (show s_cursor_Cursor_Rest stdL.b.g stdL.c stdL.s Try.prog CC a0 a1 H (endK Try.prog [.tmp 4, .tmp 5]) = s_cursor_Cursor_Rest guardK condL shareL Try.prog CC a0 a1 H (endK Try.prog [.tmp 4, .tmp 5]) by kernel_rfl) h))

theorem d_keys_Compare (a0 : Value) (a1 : Value) (H : AHeap) {r : Value × AHeap} (h : s_keys_Compare guardK condL shareL Try.prog CC a0 a1 H (endK Try.prog [.tmp 4]) = some r) : CC F.keys_Compare [a0, a1] H = some (tidy H r) := D_body (by kernel_rfl) ((s_keys_Compare_eq stdL CC limLP a0 a1 H).trans (Eq.trans (show s_keys_Compare stdL.b.g stdL.c stdL.s Try.prog CC a0 a1 H (endK Try.prog [.tmp 4]) = s_keys_Compare guardK condL shareL Try.prog CC a0 a1 H (endK Try.prog [.tmp 4]) by kernel_rfl) h))

noncomputable def l_law_Model_rest_0 (v0 : Value) (v5 : Value) (v6 : Value) (v7 : Value) (H : AHeap) (k : K) : Res := loopL stdL Try.prog hints CC limLP F.law_Model_rest 0 [(0, v0), (5, v5), (6, v6), (7, v7)] H k
theorem r_law_Model_rest_0 (v0 : Value) (v5 : Value) (v6 : Value) (v7 : Value) (H : AHeap) (k : K) : l_law_Model_rest_0 v0 v5 v6 v7 H k = s_law_Model_rest_b0 guardK condL shareL Try.prog CC l_law_Model_rest_0 v0 v5 v6 v7 H (seqK (fun T H => l_law_Model_rest_0 (get T 0) (get T 5) (get T 6) (get T 7) H k) k) := ((loopL_next (by kernel_rfl) rfl H k).trans (s_law_Model_rest_b0_eq stdL CC limLP v0 v5 v6 v7 H _)).trans (by kernel_rfl)
theorem d_law_Model_rest (a0 : Value) (a1 : Value) (H : AHeap) {r : Value × AHeap} (h : s_law_Model_rest guardK condL shareL Try.prog CC l_law_Model_rest_0 a0 a1 H (endK Try.prog [.tmp 4]) = some r) : CC F.law_Model_rest [a0, a1] H = some (tidy H r) := D_body (by kernel_rfl) ((s_law_Model_rest_eq stdL CC limLP a0 a1 H).trans (Eq.trans (show s_law_Model_rest stdL.b.g stdL.c stdL.s Try.prog CC (fun v0 v5 v6 v7 H k => loopL stdL Try.prog hints CC limLP F.law_Model_rest 0 [(0, v0), (5, v5), (6, v6), (7, v7)] H k) a0 a1 H (endK Try.prog [.tmp 4]) = s_law_Model_rest guardK condL shareL Try.prog CC l_law_Model_rest_0 a0 a1 H (endK Try.prog [.tmp 4]) by kernel_rfl) h))

theorem d_cursor_Cursor_Prev (a0 : Value) (a1 : Value) (H : AHeap) {r : Value × AHeap} (h : s_cursor_Cursor_Prev guardK condL shareL Try.prog CC a0 a1 H (endK Try.prog [.cell 4 T.api_Pair, .tmp 5]) = some r) : CC F.cursor_Cursor_Prev [a0, a1] H = some (tidy H r) := D_body (by kernel_rfl) ((s_cursor_Cursor_Prev_eq stdL CC limLP a0 a1 H).trans (Eq.trans (show s_cursor_Cursor_Prev stdL.b.g stdL.c stdL.s Try.prog CC a0 a1 H (endK Try.prog [.cell 4 T.api_Pair, .tmp 5]) = s_cursor_Cursor_Prev guardK condL shareL Try.prog CC a0 a1 H (endK Try.prog [.cell 4 T.api_Pair, .tmp 5]) by kernel_rfl) h))

theorem d_cursor_Cursor_Seek (a0 : Value) (a1 : Value) (a2 : Value) (H : AHeap) {r : Value × AHeap} (h : s_cursor_Cursor_Seek guardK condL shareL Try.prog CC a0 a1 a2 H (endK Try.prog [.cell 6 T.api_Pair, .tmp 7]) = some r) : CC F.cursor_Cursor_Seek [a0, a1, a2] H = some (tidy H r) := D_body (by kernel_rfl) ((s_cursor_Cursor_Seek_eq stdL CC limLP a0 a1 a2 H).trans (Eq.trans (show s_cursor_Cursor_Seek stdL.b.g stdL.c stdL.s Try.prog CC a0 a1 a2 H (endK Try.prog [.cell 6 T.api_Pair, .tmp 7]) = s_cursor_Cursor_Seek guardK condL shareL Try.prog CC a0 a1 a2 H (endK Try.prog [.cell 6 T.api_Pair, .tmp 7]) by kernel_rfl) h))

theorem d_cursor_Cursor_See (a0 : Value) (a1 : Value) (H : AHeap) {r : Value × AHeap} (h : s_cursor_Cursor_See guardK condL shareL Try.prog CC a0 a1 H (endK Try.prog [.cell 4 T.api_Pair, .tmp 5]) = some r) : CC F.cursor_Cursor_See [a0, a1] H = some (tidy H r) := D_body (by kernel_rfl) ((s_cursor_Cursor_See_eq stdL CC limLP a0 a1 H).trans (Eq.trans (show s_cursor_Cursor_See stdL.b.g stdL.c stdL.s Try.prog CC a0 a1 H (endK Try.prog [.cell 4 T.api_Pair, .tmp 5]) = s_cursor_Cursor_See guardK condL shareL Try.prog CC a0 a1 H (endK Try.prog [.cell 4 T.api_Pair, .tmp 5]) by kernel_rfl) h))

theorem d_cursor_Cursor_zero (a0 : Value) (H : AHeap) {r : Value × AHeap} (h : s_cursor_Cursor_zero guardK condL shareL Try.prog CC a0 H (endK Try.prog [.tmp 2]) = some r) : CC F.cursor_Cursor_zero [a0] H = some (tidy H r) := D_body (by kernel_rfl) ((s_cursor_Cursor_zero_eq stdL CC limLP a0 H).trans (Eq.trans (show s_cursor_Cursor_zero stdL.b.g stdL.c stdL.s Try.prog CC a0 H (endK Try.prog [.tmp 2]) = s_cursor_Cursor_zero guardK condL shareL Try.prog CC a0 H (endK Try.prog [.tmp 2]) by kernel_rfl) h))

theorem d_law_Model_to (a0 : Value) (a1 : Value) (a2 : Value) (a3 : Value) (H : AHeap) {r : Value × AHeap} (h : s_law_Model_to guardK condL shareL Try.prog CC a0 a1 a2 a3 H (endK Try.prog [.cell 8 T.api_Pair, .tmp 9]) = some r) : CC F.law_Model_to [a0, a1, a2, a3] H = some (tidy H r) := D_body (by kernel_rfl) ((s_law_Model_to_eq stdL CC limLP a0 a1 a2 a3 H).trans (Eq.trans (show s_law_Model_to stdL.b.g stdL.c stdL.s Try.prog CC a0 a1 a2 a3 H (endK Try.prog [.cell 8 T.api_Pair, .tmp 9]) = s_law_Model_to guardK condL shareL Try.prog CC a0 a1 a2 a3 H (endK Try.prog [.cell 8 T.api_Pair, .tmp 9]) by kernel_rfl) h))

noncomputable def l_law_Model_list_0 (v0 : Value) (v5 : Value) (v6 : Value) (v7 : Value) (H : AHeap) (k : K) : Res := loopL stdL Try.prog hints CC limLP F.law_Model_list 0 [(0, v0), (5, v5), (6, v6), (7, v7)] H k
theorem r_law_Model_list_0 (v0 : Value) (v5 : Value) (v6 : Value) (v7 : Value) (H : AHeap) (k : K) : l_law_Model_list_0 v0 v5 v6 v7 H k = s_law_Model_list_b0 guardK condL shareL Try.prog CC l_law_Model_list_0 v0 v5 v6 v7 H (seqK (fun T H => l_law_Model_list_0 (get T 0) (get T 5) (get T 6) (get T 7) H k) k) := ((loopL_next (by kernel_rfl) rfl H k).trans (s_law_Model_list_b0_eq stdL CC limLP v0 v5 v6 v7 H _)).trans (by kernel_rfl)
theorem d_law_Model_list (a0 : Value) (a1 : Value) (H : AHeap) {r : Value × AHeap} (h : s_law_Model_list guardK condL shareL Try.prog CC l_law_Model_list_0 a0 a1 H (endK Try.prog [.tmp 4]) = some r) : CC F.law_Model_list [a0, a1] H = some (tidy H r) := D_body (by kernel_rfl) ((s_law_Model_list_eq stdL CC limLP a0 a1 H).trans (Eq.trans (show s_law_Model_list stdL.b.g stdL.c stdL.s Try.prog CC (fun v0 v5 v6 v7 H k => loopL stdL Try.prog hints CC limLP F.law_Model_list 0 [(0, v0), (5, v5), (6, v6), (7, v7)] H k) a0 a1 H (endK Try.prog [.tmp 4]) = s_law_Model_list guardK condL shareL Try.prog CC l_law_Model_list_0 a0 a1 H (endK Try.prog [.tmp 4]) by kernel_rfl) h))

theorem d_law_Model_in (a0 : Value) (a1 : Value) (H : AHeap) {r : Value × AHeap} (h : s_law_Model_in guardK condL shareL Try.prog CC a0 a1 H (endK Try.prog [.tmp 4]) = some r) : CC F.law_Model_in [a0, a1] H = some (tidy H r) := D_body (by kernel_rfl) ((s_law_Model_in_eq stdL CC limLP a0 a1 H).trans (Eq.trans (show s_law_Model_in stdL.b.g stdL.c stdL.s Try.prog CC a0 a1 H (endK Try.prog [.tmp 4]) = s_law_Model_in guardK condL shareL Try.prog CC a0 a1 H (endK Try.prog [.tmp 4]) by kernel_rfl) h))

theorem d_model_Model_at (a0 : Value) (a1 : Value) (a2 : Value) (H : AHeap) {r : Value × AHeap} (h : s_model_Model_at guardK condL shareL Try.prog CC a0 a1 a2 H (endK Try.prog [.tmp 6, .tmp 7, .tmp 8]) = some r) : CC F.model_Model_at [a0, a1, a2] H = some (tidy H r) := D_body (by kernel_rfl) ((s_model_Model_at_eq stdL CC limLP a0 a1 a2 H).trans (Eq.trans (show s_model_Model_at stdL.b.g stdL.c stdL.s Try.prog CC a0 a1 a2 H (endK Try.prog [.tmp 6, .tmp 7, .tmp 8]) = s_model_Model_at guardK condL shareL Try.prog CC a0 a1 a2 H (endK Try.prog [.tmp 6, .tmp 7, .tmp 8]) by kernel_rfl) h))

theorem d_model_Model_set (a0 : Value) (a1 : Value) (a2 : Value) (a3 : Value) (H : AHeap) {r : Value × AHeap} (h : s_model_Model_set guardK condL shareL Try.prog CC a0 a1 a2 a3 H (endK Try.prog [.tmp 8]) = some r) : CC F.model_Model_set [a0, a1, a2, a3] H = some (tidy H r) := D_body (by kernel_rfl) ((s_model_Model_set_eq stdL CC limLP a0 a1 a2 a3 H).trans (Eq.trans (show s_model_Model_set stdL.b.g stdL.c stdL.s Try.prog CC a0 a1 a2 a3 H (endK Try.prog [.tmp 8]) = s_model_Model_set guardK condL shareL Try.prog CC a0 a1 a2 a3 H (endK Try.prog [.tmp 8]) by kernel_rfl) h))

theorem d_model_Model_place (a0 : Value) (a1 : Value) (H : AHeap) {r : Value × AHeap} (h : s_model_Model_place guardK condL shareL Try.prog CC a0 a1 H (endK Try.prog [.tmp 4, .tmp 5]) = some r) : CC F.model_Model_place [a0, a1] H = some (tidy H r) := D_body (by kernel_rfl) ((s_model_Model_place_eq stdL CC limLP a0 a1 H).trans (Eq.trans (show s_model_Model_place stdL.b.g stdL.c stdL.s Try.prog CC a0 a1 H (endK Try.prog [.tmp 4, .tmp 5]) = s_model_Model_place guardK condL shareL Try.prog CC a0 a1 H (endK Try.prog [.tmp 4, .tmp 5]) by kernel_rfl) h))

theorem d_slices_Delete_Pair (a0 : Value) (a1 : Value) (a2 : Value) (H : AHeap) {r : Value × AHeap} (h : s_slices_Delete_Pair guardK condL shareL Try.prog CC a0 a1 a2 H (endK Try.prog [.tmp 6]) = some r) : CC F.slices_Delete_Pair [a0, a1, a2] H = some (tidy H r) := D_body (by kernel_rfl) ((s_slices_Delete_Pair_eq stdL CC limLP a0 a1 a2 H).trans (Eq.trans (show s_slices_Delete_Pair stdL.b.g stdL.c stdL.s Try.prog CC a0 a1 a2 H (endK Try.prog [.tmp 6]) = s_slices_Delete_Pair guardK condL shareL Try.prog CC a0 a1 a2 H (endK Try.prog [.tmp 6]) by kernel_rfl) h))

theorem d_cursor_span_pairs (a0 : Value) (a1 : Value) (H : AHeap) {r : Value × AHeap} (h : s_cursor_span_pairs guardK condL shareL Try.prog CC a0 a1 H (endK Try.prog [.tmp 4]) = some r) : CC F.cursor_span_pairs [a0, a1] H = some (tidy H r) := D_body (by kernel_rfl) ((s_cursor_span_pairs_eq stdL CC limLP a0 a1 H).trans (Eq.trans (show s_cursor_span_pairs stdL.b.g stdL.c stdL.s Try.prog CC a0 a1 H (endK Try.prog [.tmp 4]) = s_cursor_span_pairs guardK condL shareL Try.prog CC a0 a1 H (endK Try.prog [.tmp 4]) by kernel_rfl) h))

theorem d_cursor_Cursor_set (a0 : Value) (a1 : Value) (a2 : Value) (a3 : Value) (H : AHeap) {r : Value × AHeap} (h : s_cursor_Cursor_set guardK condL shareL Try.prog CC a0 a1 a2 a3 H (endK Try.prog [.cell 8 T.api_Pair, .tmp 9]) = some r) : CC F.cursor_Cursor_set [a0, a1, a2, a3] H = some (tidy H r) := D_body (by kernel_rfl) ((s_cursor_Cursor_set_eq stdL CC limLP a0 a1 a2 a3 H).trans (Eq.trans (show s_cursor_Cursor_set stdL.b.g stdL.c stdL.s Try.prog CC a0 a1 a2 a3 H (endK Try.prog [.cell 8 T.api_Pair, .tmp 9]) = s_cursor_Cursor_set guardK condL shareL Try.prog CC a0 a1 a2 a3 H (endK Try.prog [.cell 8 T.api_Pair, .tmp 9]) by kernel_rfl) h))

theorem d_cursor_Cursor_forward (a0 : Value) (a1 : Value) (H : AHeap) {r : Value × AHeap} (h : s_cursor_Cursor_forward guardK condL shareL Try.prog CC a0 a1 H (endK Try.prog [.tmp 4]) = some r) : CC F.cursor_Cursor_forward [a0, a1] H = some (tidy H r) := D_body (by kernel_rfl) ((s_cursor_Cursor_forward_eq stdL CC limLP a0 a1 H).trans (Eq.trans (show s_cursor_Cursor_forward stdL.b.g stdL.c stdL.s Try.prog CC a0 a1 H (endK Try.prog [.tmp 4]) = s_cursor_Cursor_forward guardK condL shareL Try.prog CC a0 a1 H (endK Try.prog [.tmp 4]) by kernel_rfl) h))

theorem d_slices_Clone_Pair (a0 : Value) (H : AHeap) {r : Value × AHeap} (h : s_slices_Clone_Pair guardK condL shareL Try.prog CC a0 H (endK Try.prog [.tmp 2]) = some r) : CC F.slices_Clone_Pair [a0] H = some (tidy H r) := D_body (by kernel_rfl) ((s_slices_Clone_Pair_eq stdL CC limLP a0 H).trans (Eq.trans (show s_slices_Clone_Pair stdL.b.g stdL.c stdL.s Try.prog CC a0 H (endK Try.prog [.tmp 2]) = s_slices_Clone_Pair guardK condL shareL Try.prog CC a0 H (endK Try.prog [.tmp 2]) by kernel_rfl) h))

theorem d_model_check (a0 : Value) (a1 : Value) (H : AHeap) {r : Value × AHeap} (h : s_model_check guardK condL shareL Try.prog CC a0 a1 H (endK Try.prog [.tmp 4]) = some r) : CC F.model_check [a0, a1] H = some (tidy H r) := D_body (by kernel_rfl) ((s_model_check_eq stdL CC limLP a0 a1 H).trans (Eq.trans (show s_model_check stdL.b.g stdL.c stdL.s Try.prog CC a0 a1 H (endK Try.prog [.tmp 4]) = s_model_check guardK condL shareL Try.prog CC a0 a1 H (endK Try.prog [.tmp 4]) by kernel_rfl) h))

theorem d_strings_Compare (a0 : Value) (a1 : Value) (H : AHeap) {r : Value × AHeap} (h : s_strings_Compare guardK condL shareL Try.prog CC a0 a1 H (endK Try.prog [.tmp 4]) = some r) : CC F.strings_Compare [a0, a1] H = some (tidy H r) := D_body (by kernel_rfl) ((s_strings_Compare_eq stdL CC limLP a0 a1 H).trans (Eq.trans (show s_strings_Compare stdL.b.g stdL.c stdL.s Try.prog CC a0 a1 H (endK Try.prog [.tmp 4]) = s_strings_Compare guardK condL shareL Try.prog CC a0 a1 H (endK Try.prog [.tmp 4]) by kernel_rfl) h))

noncomputable def l_sort_Search_0 (v1 : Value) (v5 : Value) (v6 : Value) (H : AHeap) (k : K) : Res := loopL stdL Try.prog hints CC limLP F.sort_Search 0 [(1, v1), (5, v5), (6, v6)] H k
theorem r_sort_Search_0 (v1 : Value) (v5 : Value) (v6 : Value) (H : AHeap) (k : K) : l_sort_Search_0 v1 v5 v6 H k = s_sort_Search_b0 guardK condL shareL Try.prog CC l_sort_Search_0 v1 v5 v6 H (seqK (fun T H => l_sort_Search_0 (get T 1) (get T 5) (get T 6) H k) k) := ((loopL_next (by kernel_rfl) rfl H k).trans (s_sort_Search_b0_eq stdL CC limLP v1 v5 v6 H _)).trans (by kernel_rfl)
theorem d_sort_Search (a0 : Value) (a1 : Value) (H : AHeap) {r : Value × AHeap} (h : s_sort_Search guardK condL shareL Try.prog CC l_sort_Search_0 a0 a1 H (endK Try.prog [.tmp 4]) = some r) : CC F.sort_Search [a0, a1] H = some (tidy H r) := D_body (by kernel_rfl) ((s_sort_Search_eq stdL CC limLP a0 a1 H).trans (Eq.trans (show s_sort_Search stdL.b.g stdL.c stdL.s Try.prog CC (fun v1 v5 v6 H k => loopL stdL Try.prog hints CC limLP F.sort_Search 0 [(1, v1), (5, v5), (6, v6)] H k) a0 a1 H (endK Try.prog [.tmp 4]) = s_sort_Search guardK condL shareL Try.prog CC l_sort_Search_0 a0 a1 H (endK Try.prog [.tmp 4]) by kernel_rfl) h))

theorem d_cursor_Cursor_Prev_1 (a0 : Value) (a1 : Value) (a2 : Value) (H : AHeap) {r : Value × AHeap} (h : s_cursor_Cursor_Prev_1 guardK condL shareL Try.prog CC a0 a1 a2 H (endK Try.prog [.tmp 4]) = some r) : CC F.cursor_Cursor_Prev_1 [a0, a1, a2] H = some (tidy H r) := D_body (by kernel_rfl) ((s_cursor_Cursor_Prev_1_eq stdL CC limLP a0 a1 a2 H).trans (Eq.trans (show s_cursor_Cursor_Prev_1 stdL.b.g stdL.c stdL.s Try.prog CC a0 a1 a2 H (endK Try.prog [.tmp 4]) = s_cursor_Cursor_Prev_1 guardK condL shareL Try.prog CC a0 a1 a2 H (endK Try.prog [.tmp 4]) by kernel_rfl) h))

theorem d_cursor_span_has (a0 : Value) (a1 : Value) (H : AHeap) {r : Value × AHeap} (h : s_cursor_span_has guardK condL shareL Try.prog CC a0 a1 H (endK Try.prog [.tmp 4]) = some r) : CC F.cursor_span_has [a0, a1] H = some (tidy H r) := D_body (by kernel_rfl) ((s_cursor_span_has_eq stdL CC limLP a0 a1 H).trans (Eq.trans (show s_cursor_span_has stdL.b.g stdL.c stdL.s Try.prog CC a0 a1 H (endK Try.prog [.tmp 4]) = s_cursor_span_has guardK condL shareL Try.prog CC a0 a1 H (endK Try.prog [.tmp 4]) by kernel_rfl) h))

theorem d_cursor_Cursor_Seek_1 (a0 : Value) (a1 : Value) (a2 : Value) (H : AHeap) {r : Value × AHeap} (h : s_cursor_Cursor_Seek_1 guardK condL shareL Try.prog CC a0 a1 a2 H (endK Try.prog [.tmp 4]) = some r) : CC F.cursor_Cursor_Seek_1 [a0, a1, a2] H = some (tidy H r) := D_body (by kernel_rfl) ((s_cursor_Cursor_Seek_1_eq stdL CC limLP a0 a1 a2 H).trans (Eq.trans (show s_cursor_Cursor_Seek_1 stdL.b.g stdL.c stdL.s Try.prog CC a0 a1 a2 H (endK Try.prog [.tmp 4]) = s_cursor_Cursor_Seek_1 guardK condL shareL Try.prog CC a0 a1 a2 H (endK Try.prog [.tmp 4]) by kernel_rfl) h))

noncomputable def l_slices_BinarySearchFunc_string_0 (v0 : Value) (v1 : Value) (v2 : Value) (v8 : Value) (v9 : Value) (v10 : Value) (H : AHeap) (k : K) : Res := loopL stdL Try.prog hints CC limLP F.slices_BinarySearchFunc_string 0 [(0, v0), (1, v1), (2, v2), (8, v8), (9, v9), (10, v10)] H k
theorem r_slices_BinarySearchFunc_string_0 (v0 : Value) (v1 : Value) (v2 : Value) (v8 : Value) (v9 : Value) (v10 : Value) (H : AHeap) (k : K) : l_slices_BinarySearchFunc_string_0 v0 v1 v2 v8 v9 v10 H k = s_slices_BinarySearchFunc_string_b0 guardK condL shareL Try.prog CC l_slices_BinarySearchFunc_string_0 v0 v1 v2 v8 v9 v10 H (seqK (fun T H => l_slices_BinarySearchFunc_string_0 (get T 0) (get T 1) (get T 2) (get T 8) (get T 9) (get T 10) H k) k) := ((loopL_next (by kernel_rfl) rfl H k).trans (s_slices_BinarySearchFunc_string_b0_eq stdL CC limLP v0 v1 v2 v8 v9 v10 H _)).trans (by kernel_rfl)
theorem d_slices_BinarySearchFunc_string (a0 : Value) (a1 : Value) (a2 : Value) (H : AHeap) {r : Value × AHeap} (h : s_slices_BinarySearchFunc_string guardK condL shareL Try.prog CC l_slices_BinarySearchFunc_string_0 a0 a1 a2 H (endK Try.prog [.tmp 6, .tmp 7]) = some r) : CC F.slices_BinarySearchFunc_string [a0, a1, a2] H = some (tidy H r) := D_body (by kernel_rfl) ((s_slices_BinarySearchFunc_string_eq stdL CC limLP a0 a1 a2 H).trans (Eq.trans (show s_slices_BinarySearchFunc_string stdL.b.g stdL.c stdL.s Try.prog CC (fun v0 v1 v2 v8 v9 v10 H k => loopL stdL Try.prog hints CC limLP F.slices_BinarySearchFunc_string 0 [(0, v0), (1, v1), (2, v2), (8, v8), (9, v9), (10, v10)] H k) a0 a1 a2 H (endK Try.prog [.tmp 6, .tmp 7]) = s_slices_BinarySearchFunc_string guardK condL shareL Try.prog CC l_slices_BinarySearchFunc_string_0 a0 a1 a2 H (endK Try.prog [.tmp 6, .tmp 7]) by kernel_rfl) h))

theorem d_model_Model_place_1 (a0 : Value) (a1 : Value) (H : AHeap) {r : Value × AHeap} (h : s_model_Model_place_1 guardK condL shareL Try.prog CC a0 a1 H (endK Try.prog [.tmp 4]) = some r) : CC F.model_Model_place_1 [a0, a1] H = some (tidy H r) := D_body (by kernel_rfl) ((s_model_Model_place_1_eq stdL CC limLP a0 a1 H).trans (Eq.trans (show s_model_Model_place_1 stdL.b.g stdL.c stdL.s Try.prog CC a0 a1 H (endK Try.prog [.tmp 4]) = s_model_Model_place_1 guardK condL shareL Try.prog CC a0 a1 H (endK Try.prog [.tmp 4]) by kernel_rfl) h))

theorem d_cursor_span_pairs_1 (a0 : Value) (a1 : Value) (a2 : Value) (H : AHeap) {r : Value × AHeap} (h : s_cursor_span_pairs_1 guardK condL shareL Try.prog CC a0 a1 a2 H (endK Try.prog [.tmp 4]) = some r) : CC F.cursor_span_pairs_1 [a0, a1, a2] H = some (tidy H r) := D_body (by kernel_rfl) ((s_cursor_span_pairs_1_eq stdL CC limLP a0 a1 a2 H).trans (Eq.trans (show s_cursor_span_pairs_1 stdL.b.g stdL.c stdL.s Try.prog CC a0 a1 a2 H (endK Try.prog [.tmp 4]) = s_cursor_span_pairs_1 guardK condL shareL Try.prog CC a0 a1 a2 H (endK Try.prog [.tmp 4]) by kernel_rfl) h))

theorem d_cursor_span_pairs_2 (a0 : Value) (a1 : Value) (a2 : Value) (H : AHeap) {r : Value × AHeap} (h : s_cursor_span_pairs_2 guardK condL shareL Try.prog CC a0 a1 a2 H (endK Try.prog [.tmp 4]) = some r) : CC F.cursor_span_pairs_2 [a0, a1, a2] H = some (tidy H r) := D_body (by kernel_rfl) ((s_cursor_span_pairs_2_eq stdL CC limLP a0 a1 a2 H).trans (Eq.trans (show s_cursor_span_pairs_2 stdL.b.g stdL.c stdL.s Try.prog CC a0 a1 a2 H (endK Try.prog [.tmp 4]) = s_cursor_span_pairs_2 guardK condL shareL Try.prog CC a0 a1 a2 H (endK Try.prog [.tmp 4]) by kernel_rfl) h))

theorem d_cursor_Cursor_forward_1 (a0 : Value) (a1 : Value) (a2 : Value) (H : AHeap) {r : Value × AHeap} (h : s_cursor_Cursor_forward_1 guardK condL shareL Try.prog CC a0 a1 a2 H (endK Try.prog [.tmp 4]) = some r) : CC F.cursor_Cursor_forward_1 [a0, a1, a2] H = some (tidy H r) := D_body (by kernel_rfl) ((s_cursor_Cursor_forward_1_eq stdL CC limLP a0 a1 a2 H).trans (Eq.trans (show s_cursor_Cursor_forward_1 stdL.b.g stdL.c stdL.s Try.prog CC a0 a1 a2 H (endK Try.prog [.tmp 4]) = s_cursor_Cursor_forward_1 guardK condL shareL Try.prog CC a0 a1 a2 H (endK Try.prog [.tmp 4]) by kernel_rfl) h))

theorem d_slices_ContainsFunc_string (a0 : Value) (a1 : Value) (H : AHeap) {r : Value × AHeap} (h : s_slices_ContainsFunc_string guardK condL shareL Try.prog CC a0 a1 H (endK Try.prog [.tmp 4]) = some r) : CC F.slices_ContainsFunc_string [a0, a1] H = some (tidy H r) := D_body (by kernel_rfl) ((s_slices_ContainsFunc_string_eq stdL CC limLP a0 a1 H).trans (Eq.trans (show s_slices_ContainsFunc_string stdL.b.g stdL.c stdL.s Try.prog CC a0 a1 H (endK Try.prog [.tmp 4]) = s_slices_ContainsFunc_string guardK condL shareL Try.prog CC a0 a1 H (endK Try.prog [.tmp 4]) by kernel_rfl) h))

theorem d_model_check_1 (a0 : Value) (H : AHeap) {r : Value × AHeap} (h : s_model_check_1 guardK condL shareL Try.prog CC a0 H (endK Try.prog [.tmp 2]) = some r) : CC F.model_check_1 [a0] H = some (tidy H r) := D_body (by kernel_rfl) ((s_model_check_1_eq stdL CC limLP a0 H).trans (Eq.trans (show s_model_check_1 stdL.b.g stdL.c stdL.s Try.prog CC a0 H (endK Try.prog [.tmp 2]) = s_model_check_1 guardK condL shareL Try.prog CC a0 H (endK Try.prog [.tmp 2]) by kernel_rfl) h))

theorem d_internal_bytealg_CompareString (a0 : Value) (a1 : Value) (H : AHeap) {r : Value × AHeap} (h : s_internal_bytealg_CompareString guardK condL shareL Try.prog CC a0 a1 H (endK Try.prog [.tmp 4]) = some r) : CC F.internal_bytealg_CompareString [a0, a1] H = some (tidy H r) := D_body (by kernel_rfl) ((s_internal_bytealg_CompareString_eq stdL CC limLP a0 a1 H).trans (Eq.trans (show s_internal_bytealg_CompareString stdL.b.g stdL.c stdL.s Try.prog CC a0 a1 H (endK Try.prog [.tmp 4]) = s_internal_bytealg_CompareString guardK condL shareL Try.prog CC a0 a1 H (endK Try.prog [.tmp 4]) by kernel_rfl) h))

theorem d_slices_rotateRight_Pair (a0 : Value) (a1 : Value) (H : AHeap) {r : Value × AHeap} (h : s_slices_rotateRight_Pair guardK condL shareL Try.prog CC a0 a1 H (endK Try.prog []) = some r) : CC F.slices_rotateRight_Pair [a0, a1] H = some (tidy H r) := D_body (by kernel_rfl) ((s_slices_rotateRight_Pair_eq stdL CC limLP a0 a1 H).trans (Eq.trans (show s_slices_rotateRight_Pair stdL.b.g stdL.c stdL.s Try.prog CC a0 a1 H (endK Try.prog []) = s_slices_rotateRight_Pair guardK condL shareL Try.prog CC a0 a1 H (endK Try.prog []) by kernel_rfl) h))

noncomputable def l_slices_IndexFunc_string_0 (v0 : Value) (v1 : Value) (v7 : Value) (v8 : Value) (H : AHeap) (k : K) : Res := loopL stdL Try.prog hints CC limLP F.slices_IndexFunc_string 0 [(0, v0), (1, v1), (7, v7), (8, v8)] H k
theorem r_slices_IndexFunc_string_0 (v0 : Value) (v1 : Value) (v7 : Value) (v8 : Value) (H : AHeap) (k : K) : l_slices_IndexFunc_string_0 v0 v1 v7 v8 H k = s_slices_IndexFunc_string_b0 guardK condL shareL Try.prog CC l_slices_IndexFunc_string_0 v0 v1 v7 v8 H (seqK (fun T H => l_slices_IndexFunc_string_0 (get T 0) (get T 1) (get T 7) (get T 8) H k) k) := ((loopL_next (by kernel_rfl) rfl H k).trans (s_slices_IndexFunc_string_b0_eq stdL CC limLP v0 v1 v7 v8 H _)).trans (by kernel_rfl)
theorem d_slices_IndexFunc_string (a0 : Value) (a1 : Value) (H : AHeap) {r : Value × AHeap} (h : s_slices_IndexFunc_string guardK condL shareL Try.prog CC l_slices_IndexFunc_string_0 a0 a1 H (endK Try.prog [.tmp 4]) = some r) : CC F.slices_IndexFunc_string [a0, a1] H = some (tidy H r) := D_body (by kernel_rfl) ((s_slices_IndexFunc_string_eq stdL CC limLP a0 a1 H).trans (Eq.trans (show s_slices_IndexFunc_string stdL.b.g stdL.c stdL.s Try.prog CC (fun v0 v1 v7 v8 H k => loopL stdL Try.prog hints CC limLP F.slices_IndexFunc_string 0 [(0, v0), (1, v1), (7, v7), (8, v8)] H k) a0 a1 H (endK Try.prog [.tmp 4]) = s_slices_IndexFunc_string guardK condL shareL Try.prog CC l_slices_IndexFunc_string_0 a0 a1 H (endK Try.prog [.tmp 4]) by kernel_rfl) h))

theorem d_slices_rotateLeft_Pair (a0 : Value) (a1 : Value) (H : AHeap) {r : Value × AHeap} (h : s_slices_rotateLeft_Pair guardK condL shareL Try.prog CC a0 a1 H (endK Try.prog []) = some r) : CC F.slices_rotateLeft_Pair [a0, a1] H = some (tidy H r) := D_body (by kernel_rfl) ((s_slices_rotateLeft_Pair_eq stdL CC limLP a0 a1 H).trans (Eq.trans (show s_slices_rotateLeft_Pair stdL.b.g stdL.c stdL.s Try.prog CC a0 a1 H (endK Try.prog []) = s_slices_rotateLeft_Pair guardK condL shareL Try.prog CC a0 a1 H (endK Try.prog []) by kernel_rfl) h))

noncomputable def l_slices_Reverse_Pair_0 (v0 : Value) (v2 : Value) (v3 : Value) (H : AHeap) (k : K) : Res := loopL stdL Try.prog hints CC limLP F.slices_Reverse_Pair 0 [(0, v0), (2, v2), (3, v3)] H k
theorem r_slices_Reverse_Pair_0 (v0 : Value) (v2 : Value) (v3 : Value) (H : AHeap) (k : K) : l_slices_Reverse_Pair_0 v0 v2 v3 H k = s_slices_Reverse_Pair_b0 guardK condL shareL Try.prog CC l_slices_Reverse_Pair_0 v0 v2 v3 H (seqK (fun T H => l_slices_Reverse_Pair_0 (get T 0) (get T 2) (get T 3) H k) k) := ((loopL_next (by kernel_rfl) rfl H k).trans (s_slices_Reverse_Pair_b0_eq stdL CC limLP v0 v2 v3 H _)).trans (by kernel_rfl)
theorem d_slices_Reverse_Pair (a0 : Value) (H : AHeap) {r : Value × AHeap} (h : s_slices_Reverse_Pair guardK condL shareL Try.prog CC l_slices_Reverse_Pair_0 a0 H (endK Try.prog []) = some r) : CC F.slices_Reverse_Pair [a0] H = some (tidy H r) := D_body (by kernel_rfl) ((s_slices_Reverse_Pair_eq stdL CC limLP a0 H).trans (Eq.trans (show s_slices_Reverse_Pair stdL.b.g stdL.c stdL.s Try.prog CC (fun v0 v2 v3 H k => loopL stdL Try.prog hints CC limLP F.slices_Reverse_Pair 0 [(0, v0), (2, v2), (3, v3)] H k) a0 H (endK Try.prog []) = s_slices_Reverse_Pair guardK condL shareL Try.prog CC l_slices_Reverse_Pair_0 a0 H (endK Try.prog []) by kernel_rfl) h))

end Go.Proofs.Ytmbppjilnnjdaaa

/-
  The engine, part 23: lists that lie in rows of cells: reading, slicing, appending.
  Conditions: none. By an AI agent.
-/
namespace Go.Proofs.Ytmbppjilnnjdaaa.Eng
open Go
set_option linter.unusedVariables false
set_option linter.unusedSimpArgs false

/-- How an element lies in cells. -/
structure Enc (α : Type) where
  w : Nat
  enc : α → List Value
  len : ∀ a, (enc a).length = w
  pos : 0 < w
  one : ∀ a, (enc a).all one = true

namespace Enc
variable {α : Type} (E : Enc α)

def cells (l : List α) : List Value := l.flatMap E.enc
@[simp] theorem cells_nil : E.cells [] = [] := rfl
@[simp] theorem cells_cons (a : α) (l : List α) : E.cells (a :: l) = E.enc a ++ E.cells l := rfl
theorem cells_append (l m : List α) : E.cells (l ++ m) = E.cells l ++ E.cells m := by simp [cells]
@[simp] theorem cells_len : ∀ (l : List α), (E.cells l).length = l.length * E.w
  | [] => by simp
  | a :: l => by simp [E.len, cells_len l, Nat.add_mul]; omega
theorem cells_one : ∀ (l : List α), (E.cells l).all Eng.one = true
  | [] => rfl
  | a :: l => by rw [cells_cons, List.all_append, E.one, cells_one l]; rfl
theorem cells_drop : ∀ (l : List α) (i : Nat), (E.cells l).drop (i * E.w) = E.cells (l.drop i)
  | l, 0 => by simp
  | [], i + 1 => by simp
  | a :: l, i + 1 => by
    rw [cells_cons, List.drop_append, E.len, List.drop_eq_nil_of_le (by rw [E.len, Nat.add_mul]; omega)]
    rw [show (i + 1) * E.w - E.w = i * E.w by rw [Nat.add_mul]; omega, cells_drop l i]
    simp
theorem cells_take : ∀ (l : List α) (i : Nat), (E.cells l).take (i * E.w) = E.cells (l.take i)
  | l, 0 => by simp
  | [], i + 1 => by simp
  | a :: l, i + 1 => by
    rw [cells_cons, List.take_append, E.len, List.take_of_length_le (by rw [E.len, Nat.add_mul]; omega)]
    rw [show (i + 1) * E.w - E.w = i * E.w by rw [Nat.add_mul]; omega, cells_take l i]
    simp
theorem cells_elem (l : List α) (i : Nat) (h : i < l.length) : ((E.cells l).drop (i * E.w)).take E.w = E.enc l[i] := by
  rw [cells_drop, List.drop_eq_getElem_cons h, cells_cons, List.take_append, E.len, Nat.sub_self, List.take_zero, List.append_nil, List.take_of_length_le (by rw [E.len]; exact Nat.le_refl _)]
end Enc

variable {P : Program} {α : Type} {E : Enc α} {H H' : AHeap} {v : Value} {l : List α} {e : TypeId}

/-- A slice that reads as a list. -/
def Rd (E : Enc α) (H : AHeap) (v : Value) (l : List α) : Prop :=
  (l = [] ∧ v = .slice none 0 0) ∨ (l = [] ∧ ∃ a k, v = .slice (some a) 0 k ∧ a.spot = none) ∨
  ∃ b o c, v = .slice (some ⟨b, o, none⟩) l.length c ∧ l ≠ [] ∧ b < H.n ∧ cutB (H.f b) o (l.length * E.w) = some (E.cells l)

/-- The block of a slice that has elements. -/
def Off (S : Nat → Prop) (v : Value) : Prop := ∀ b, blockOf v = some b → ¬ S b

theorem Rd.keep {S : Nat → Prop} (r : Rd E H v l) (h : Fr S H H') (hs : Off S v) : Rd E H' v l := by
  rcases r with r | r | ⟨b, o, c, rfl, hl, hb, hc⟩
  · exact .inl r
  · exact .inr (.inl r)
  · exact .inr (.inr ⟨b, o, c, rfl, hl, Nat.lt_of_lt_of_le hb h.n, by rw [h.f hb (hs b rfl)]; exact hc⟩)
theorem Rd.still (r : Rd E H v l) (h : Still H H') : Rd E H' v l := r.keep h fun _ _ h => h

theorem cutB_sub {k : Blk} {o n : Nat} {xs : List Value} (h : cutB k o n = some xs) {i m : Nat} (hi : i + m ≤ n) : cutB k (o + i) m = some ((xs.drop i).take m) := by
  unfold cutB at h ⊢
  cases k with
  | cells ys e rw =>
    simp only at h ⊢
    split at h
    · cases h
      rw [if_pos (by omega), List.drop_take, List.take_take, List.drop_drop, Nat.min_eq_left (by omega)]
    · cases h
  | _ => cases h

theorem cutB_len {k : Blk} {o n : Nat} {xs : List Value} (h : cutB k o n = some xs) : xs.length = n := by
  unfold cutB at h
  cases k with
  | cells ys e rw =>
    simp only at h
    split at h
    · cases h
      simp; omega
    · cases h
  | _ => cases h

theorem cutB_cell {k : Blk} {o n : Nat} {xs : List Value} (h : cutB k o n = some xs) {i : Nat} (hi : i < n) : cellB k (o + i) = xs[i]? := by
  unfold cutB at h
  unfold cellB
  cases k with
  | cells ys e rw =>
    simp only at h ⊢
    split at h
    · cases h
      rw [List.getElem?_take_of_lt hi, List.getElem?_drop]
    · cases h
  | _ => cases h

/-- Its elements, one by one. -/
theorem Rd.elem (r : Rd E H v l) {i : Nat} (hi : i < l.length) : ∃ b o c, v = .slice (some ⟨b, o, none⟩) l.length c ∧ b < H.n ∧ cutB (H.f b) (o + i * E.w) E.w = some (E.enc l[i]) := by
  rcases r with ⟨rfl, _⟩ | ⟨rfl, _⟩ | ⟨b, o, c, hv, hl, hb, hc⟩
  · simp at hi
  · simp at hi
  · refine ⟨b, o, c, hv, hb, ?_⟩
    rw [cutB_sub hc (i := i * E.w) (m := E.w) (by have := Nat.mul_le_mul_right E.w hi; rw [Nat.succ_mul] at this; exact this), E.cells_elem l i hi]

theorem Rd.shape (r : Rd E H v l) : ∃ a c, v = .slice a l.length c := by
  rcases r with ⟨rfl, rfl⟩ | ⟨rfl, a, k, rfl, _⟩ | ⟨b, o, c, rfl, hl, hb, hc⟩ <;> exact ⟨_, _, rfl⟩

theorem Rd.lenS (r : Rd E H v l) : Eng.lenS v = some (.int .i64 l.length) := by
  obtain ⟨a, c, rfl⟩ := r.shape
  rfl

/-- What append takes of it. -/
theorem Rd.src (r : Rd E H v l) {sz : Nat} (hsz : sz = E.w) : srcS sz v H = some (l.length, E.cells l) := by
  subst hsz
  rcases r with ⟨rfl, rfl⟩ | ⟨rfl, ⟨b, o, s⟩, k, rfl, hs⟩ | ⟨b, o, c, rfl, hl, hb, hc⟩
  · rfl
  · simp only at hs
    subst hs
    rfl
  · unfold srcS
    have h0 : l.length ≠ 0 := fun h => hl (List.length_eq_zero_iff.1 h)
    simp only [h0, if_false, cut_b, hc, Option.map_some]

@[go_sem] theorem ixS_int {sz b o len code : Nat} {i : Int} {q : IntKind} (h : 0 ≤ i ∧ i < (len : Int)) : ixS sz (.slice (some ⟨b, o, none⟩) len code) (.int q i) = some (.pointer (some ⟨b, o + i.toNat * sz, none⟩)) := by
  unfold ixS
  simp only
  rw [if_pos h]
theorem ixS_nat {sz b o len code k : Nat} {q : IntKind} (h : k < len) : ixS sz (.slice (some ⟨b, o, none⟩) len code) (.int q (k : Int)) = some (.pointer (some ⟨b, o + k * sz, none⟩)) := by
  rw [ixS_int ⟨by omega, by omega⟩, Int.toNat_natCast]
attribute [go_sem] Int.toNat_natCast Nat.zero_mul Nat.mul_one

theorem Rd.ix (r : Rd E H v l) {i : Nat} (hi : i < l.length) {q : IntKind} : ∃ b o, ixS E.w v (.int q (i : Int)) = some (.pointer (some ⟨b, o, none⟩)) ∧ b < H.n ∧ cutB (H.f b) o E.w = some (E.enc l[i]) ∧ blockOf v = some b := by
  obtain ⟨b, o, c, rfl, hb, hc⟩ := r.elem hi
  exact ⟨b, o + i * E.w, ixS_nat hi, hb, hc, rfl⟩

/-! ### Rows that are the function's own, and may grow -/

/-- A list in a row of its own that ends with the row's end; or an empty one. -/
def Own (E : Enc α) (H : AHeap) (e : TypeId) (v : Value) (l : List α) : Prop :=
  (l = [] ∧ v = .slice none 0 0) ∨ (l = [] ∧ ∃ a, v = .slice (some a) 0 0 ∧ a.spot = none ∧ a.block < H.n) ∨
  ∃ b o c xs, v = .slice (some ⟨b, o, none⟩) l.length (2 * c + 1) ∧ l.length ≤ c ∧ b < H.n ∧ H.f b = .cells xs e true ∧ o + c * E.w = xs.length ∧ (xs.drop o).take (l.length * E.w) = E.cells l

theorem Own.rd (r : Own E H e v l) : Rd E H v l := by
  rcases r with r | ⟨hl, a, h, hs, _⟩ | ⟨b, o, c, xs, rfl, hl, hb, hf, ho, hx⟩
  · exact .inl r
  · exact .inr (.inl ⟨hl, a, 0, h, hs⟩)
  · by_cases h0 : l = []
    · subst h0; exact .inr (.inl ⟨rfl, _, _, rfl, rfl⟩)
    · refine .inr (.inr ⟨b, o, _, rfl, h0, hb, ?_⟩)
      rw [hf]
      unfold cutB
      simp only
      rw [if_pos (by have := Nat.mul_le_mul_right E.w hl; omega), hx]

theorem Own.keep {S : Nat → Prop} (r : Own E H e v l) (h : Fr S H H') (hs : Off S v) : Own E H' e v l := by
  rcases r with r | ⟨hl, a, hv, hsp, hb⟩ | ⟨b, o, c, xs, rfl, hl, hb, hf, ho, hx⟩
  · exact .inl r
  · exact .inr (.inl ⟨hl, a, hv, hsp, Nat.lt_of_lt_of_le hb h.n⟩)
  · exact .inr (.inr ⟨b, o, c, xs, rfl, hl, Nat.lt_of_lt_of_le hb h.n, by rw [h.f hb (hs b rfl)]; exact hf, ho, hx⟩)
theorem Own.cell (r : Own E H e v l) : Eng.one v = true := by
  rcases r with ⟨_, rfl⟩ | ⟨_, a, rfl, _, hb⟩ | ⟨b', o, c, xs, rfl, _, hb, _⟩ <;> rfl
theorem Own.blk (r : Own E H e v l) {b : Nat} (h : blockOf v = some b) : b < H.n := by
  rcases r with ⟨_, rfl⟩ | ⟨_, a, rfl, _, hb⟩ | ⟨b', o, c, xs, rfl, _, hb, _⟩
  · cases h
  · cases h; exact hb
  · cases h; exact hb
theorem Own.still (r : Own E H e v l) (h : Still H H') : Own E H' e v l := r.keep h fun _ _ h => h

/-- Only its block, or one that is new, may be turned when it grows. -/
def OnlyOf (v : Value) : Nat → Prop := fun b => blockOf v = some b

theorem Fr.kill (H : AHeap) (b : Nat) : Fr (fun c => c = b) H (H.set b .dead) := (Fr.refl H).set b _ fun _ => rfl

/-- Appending to a list of its own. -/
theorem Own.app (r : Own E H e v l) {m : List α} (hm : m ≠ []) {sz bytes : Nat} (hsz : sz = E.w) (hb : (l.length + m.length) * bytes ≤ 140737488355328) (hn : l.length + m.length ≤ 140737488355328)
    {src : Option (Nat × List Value)} (hsrc : src = some (m.length, E.cells m)) :
    ∃ v' H', Eng.app e sz bytes v src H = some (v', H') ∧ Own E H' e v' (l ++ m) ∧ Fr (OnlyOf v) H H' ∧ (blockOf v' = blockOf v ∨ blockOf v' = some H.n) ∧ gr 9 v' = false := by
  subst hsz hsrc
  have hm0 : m.length ≠ 0 := fun h => hm (List.length_eq_zero_iff.1 h)
  have hbig : ¬ ((l.length + m.length) * bytes > 140737488355328 ∨ l.length + m.length > 140737488355328) := by omega
  have hone := E.cells_one m
  rcases r with ⟨rfl, rfl⟩ | ⟨rfl, ⟨b, o, s⟩, rfl, hs, hbb⟩ | ⟨b, o, c, xs, rfl, hl, hbn, hf, ho, hx⟩
  · refine ⟨.slice (some ⟨H.n, 0, none⟩) m.length (2 * m.length + 1), H.push (.cells (E.cells m) e true), ?_, ?_, (Fr.refl H).push _, .inr rfl, rfl⟩
    · simp only [List.length_nil, Nat.zero_add] at hbig
      simp only [Eng.app, Option.bind_some, hm0, if_false, Nat.zero_add, hbig, Nat.zero_div, Nat.le_zero_eq, hone, Bool.true_eq_false, oldOf, if_true, Nat.zero_mod, Option.map_some, List.nil_append]
    · refine .inr (.inr ⟨H.n, 0, m.length, E.cells m, by simp, by simp, by simp, by simp, by simp, ?_⟩)
      simp only [List.drop_zero, List.nil_append]
      rw [List.take_of_length_le (by simp)]
  · simp only at hs
    subst hs
    refine ⟨.slice (some ⟨H.n, 0, none⟩) m.length (2 * m.length + 1), H.push (.cells (E.cells m) e true), ?_, ?_, (Fr.refl H).push _, .inr rfl, rfl⟩
    · simp only [List.length_nil, Nat.zero_add] at hbig
      simp only [Eng.app, Option.bind_some, hm0, if_false, Nat.zero_add, hbig, Nat.zero_div, Nat.le_zero_eq, hone, Bool.true_eq_false, oldOf, if_true, Nat.zero_mod, Option.map_some, List.nil_append]
    · refine .inr (.inr ⟨H.n, 0, m.length, E.cells m, by simp, by simp, by simp, by simp, by simp, ?_⟩)
      simp only [List.drop_zero, List.nil_append]
      rw [List.take_of_length_le (by simp)]
  · have hc2 : (2 * c + 1) / 2 = c := by omega
    have hc3 : (2 * c + 1) % 2 = 1 := by omega
    have hmulc := Nat.mul_le_mul_right E.w hl
    by_cases hroom : l.length + m.length ≤ c
    · have hmul := Nat.mul_le_mul_right E.w hroom
      rw [Nat.add_mul] at hmul
      refine ⟨.slice (some ⟨b, o, none⟩) (l.length + m.length) (2 * c + 1), H.set b (.cells (spl xs (o + l.length * E.w) (E.cells m)) e true), ?_, ?_, (Fr.refl H).set b _ fun _ => rfl, .inl rfl, rfl⟩
      · simp only [Eng.app, Option.bind_some, hm0, if_false, hbig, hc2, hroom, if_true, stL_b, hf]
        rw [wrL_c (by simp; omega) hone]
        rfl
      · refine .inr (.inr ⟨b, o, c, _, by simp, by simp; omega, by simpa using hbn, set_f_eq, ?_, ?_⟩)
        · rw [spl_length, ho]
        · apply List.ext_getElem?
          intro j
          rw [List.length_append, Nat.add_mul]
          by_cases hj : j < l.length * E.w + m.length * E.w
          · rw [List.getElem?_take_of_lt hj, List.getElem?_drop, spl_get _ _ _ _ (by simp; omega), E.cells_append, List.getElem?_append, E.cells_len, E.cells_len]
            by_cases h1 : j < l.length * E.w
            · rw [if_neg (by omega), if_pos h1, ← hx, List.getElem?_take_of_lt h1, List.getElem?_drop]
            · rw [if_pos (by omega), if_neg h1, show o + j - (o + l.length * E.w) = j - l.length * E.w by omega]
          · rw [List.getElem?_eq_none (by simp; omega), List.getElem?_eq_none (by simp [Nat.add_mul]; omega)]
    · refine ⟨.slice (some ⟨H.n, 0, none⟩) (l.length + m.length) (2 * (l.length + m.length) + 1), (H.set b .dead).push (.cells (E.cells l ++ E.cells m) e true), ?_, ?_, Fr.push (Fr.set (S := OnlyOf (.slice (some ⟨b, o, none⟩) l.length (2 * c + 1))) (Fr.refl H) b _ (fun _ => rfl)) _, .inr rfl, rfl⟩
      · have hold : oldOf E.w l.length H (some ⟨b, o, none⟩) = some (E.cells l) := by
          unfold oldOf
          split
          · rename_i h0; rw [List.length_eq_zero_iff.1 h0]; rfl
          · simp only [cut_b, hf]
            rw [cutB_c (by omega), hx]
        have hkill : kill H e c E.w (some ⟨b, o, none⟩) = some (H.set b .dead) := by
          unfold kill
          simp only [hf, true_and, ho, if_true]
        simp only [Eng.app, Option.bind_some, hm0, if_false, hbig, hc2, hroom, hone, Bool.true_eq_false, hold, hc3, Nat.one_ne_zero, hkill, Option.map_some, set_n']
      · refine .inr (.inr ⟨H.n, 0, l.length + m.length, E.cells l ++ E.cells m, by simp, by simp, by simp, push_f_eq rfl, by simp [Nat.add_mul], ?_⟩)
        simp only [List.drop_zero]
        rw [List.take_of_length_le (by simp [Nat.add_mul]), E.cells_append]

/-- Cutting off the front. -/
theorem Own.drop (r : Own E H e v l) {sz : Nat} (hsz : sz = E.w) {i : Nat} (hi : i ≤ l.length) {q : IntKind} : ∃ v', slS e sz v (some (.int q (i : Int))) none none H = some v' ∧ Own E H e v' (l.drop i) ∧ blockOf v' = blockOf v := by
  subst hsz
  rcases r with ⟨rfl, rfl⟩ | ⟨rfl, ⟨b, o, s⟩, rfl, hs, hbb⟩ | ⟨b, o, c, xs, rfl, hl, hbn, hf, ho, hx⟩
  · simp only [List.length_nil, Nat.le_zero_eq] at hi
    subst hi
    exact ⟨.slice none 0 0, rfl, .inl ⟨by simp, rfl⟩, rfl⟩
  · simp only at hs
    subst hs
    simp only [List.length_nil, Nat.le_zero_eq] at hi
    subst hi
    exact ⟨.slice (some ⟨b, o, none⟩) 0 0, by simp [slS, highOf, lowOf, bnd], .inr (.inl ⟨by simp, _, rfl, rfl, hbb⟩), rfl⟩
  · have hc2 : (2 * c + 1) / 2 = c := by omega
    have hmul := Nat.mul_le_mul_right E.w hl
    have hmi := Nat.mul_le_mul_right E.w hi
    refine ⟨.slice (some ⟨b, o + i * E.w, none⟩) (l.length - i) (2 * (c - i) + 1), ?_, .inr (.inr ⟨b, o + i * E.w, c - i, xs, by simp, by simp; omega, hbn, hf, by rw [Nat.sub_mul]; omega, ?_⟩), rfl⟩
    · simp only [slS, highOf, lowOf, bnd, hc2, Option.bind_some, show (0 : Int) ≤ (i : Int) ∧ (i : Int) ≤ (l.length : Nat) from ⟨by omega, by omega⟩, Int.toNat_natCast, hl, hf, rowOf, show (2 * c + 1) % 2 = 1 by omega]
      simp
    · rw [List.length_drop, Nat.sub_mul, ← E.cells_drop, ← hx, List.drop_take, List.drop_drop]

/-- A front part that is only read. -/
theorem Own.front (r : Own E H e v l) {sz : Nat} (hsz : sz = E.w) {i : Nat} (hi : i ≤ l.length) {q : IntKind} : ∃ v', slS e sz v none (some (.int q (i : Int))) (some (.int q (i : Int))) H = some v' ∧ Rd E H v' (l.take i) ∧ blockOf v' = blockOf v := by
  subst hsz
  rcases r with ⟨rfl, rfl⟩ | ⟨rfl, ⟨b, o, s⟩, rfl, hs, hbb⟩ | ⟨b, o, c, xs, rfl, hl, hbn, hf, ho, hx⟩
  · simp only [List.length_nil, Nat.le_zero_eq] at hi
    subst hi
    exact ⟨.slice none 0 0, rfl, .inl ⟨by simp, rfl⟩, rfl⟩
  · simp only at hs
    subst hs
    simp only [List.length_nil, Nat.le_zero_eq] at hi
    subst hi
    exact ⟨.slice (some ⟨b, o, none⟩) 0 0, by simp [slS, lowOf, bnd], .inr (.inl ⟨by simp, _, _, rfl, rfl⟩), rfl⟩
  · have hc2 : (2 * c + 1) / 2 = c := by omega
    have hmul := Nat.mul_le_mul_right E.w hl
    have hmi := Nat.mul_le_mul_right E.w hi
    have hval : slS e E.w (.slice (some ⟨b, o, none⟩) l.length (2 * c + 1)) none (some (.int q (i : Int))) (some (.int q (i : Int))) H = some (.slice (some ⟨b, if i = 0 then o else o + 0 * E.w, none⟩) (i - 0) (2 * (i - 0))) := by
      simp only [slS, lowOf, bnd, hc2, Option.bind_some, show (0 : Int) ≤ (i : Int) ∧ (i : Int) ≤ (c : Nat) from ⟨by omega, by omega⟩, show (0 : Int) ≤ (i : Int) ∧ (i : Int) ≤ (i : Nat) from ⟨by omega, by omega⟩, Int.toNat_natCast, and_self, if_true, Option.map_some]
    refine ⟨_, hval, ?_, rfl⟩
    have e1 : (if i = 0 then o else o + 0 * E.w) = o := by split <;> omega
    rw [e1, Nat.sub_zero]
    by_cases h0 : i = 0
    · subst h0; exact .inr (.inl ⟨by simp, _, _, rfl, rfl⟩)
    · have hlen : (l.take i).length = i := by simp; omega
      refine .inr (.inr ⟨b, o, 2 * i, by rw [hlen], fun h => h0 (by rw [← hlen, h]; rfl), hbn, ?_⟩)
      rw [hlen, hf, cutB_c (by omega), ← E.cells_take, ← hx, List.take_take, Nat.min_eq_left hmi]

end Go.Proofs.Ytmbppjilnnjdaaa.Eng

/-
  The engine, part 24: more numbers: shifts, quotients, conversions.
  Conditions: none. By an AI agent.
-/
namespace Go.Proofs.Ytmbppjilnnjdaaa.Eng
open Go

variable {P : Program} {H : AHeap}

theorem xbin_gr {op : BinOp} {t : TypeId} {ox oy : Operand} {q q' : IntKind} {a b : Int} {v : Value} (h : pv P (do eqGuard op t ox oy (.int q a) (.int q' b); binOp op t (.int q a) (.int q' b)) = some v) (hg : gr 9 v = true) :
    xbin P op t ox oy (.int q a) (.int q' b) = some v := by
  have e : xbin P op t ox oy (.int q a) (.int q' b) = pvg P (do eqGuard op t ox oy (.int q a) (.int q' b); binOp op t (.int q a) (.int q' b)) := rfl
  rw [e, pvg_some h hg]

@[go_sem] theorem shr_lit {t : TypeId} {ox oy : Operand} {q q' : IntKind} {a b : Int} (h : 0 ≤ b ∧ b < 8) : xbin P .shr t ox oy (.int q a) (.int q' b) = some (.int q (a / 2 ^ b.toNat)) := by
  refine xbin_gr ?_ rfl
  have hb : ¬ b < 0 := by omega
  have hm : min b.toNat q.bits = b.toNat := by cases q <;> simp [IntKind.bits] <;> omega
  simp [eqGuard, binOp, Op.shift, Bind.bind, Sem.bind, Pure.pure, pv, hb, hm]
  rw [Int.fdiv_eq_ediv_of_nonneg]
  exact Int.pow_nonneg (by decide)

theorem wrap_u64 {n : Int} (h1 : 0 ≤ n ∧ n < 18446744073709551616) : IntKind.wrap .u64 n = n := by
  unfold IntKind.wrap
  simp only [IntKind.bits, IntKind.signed, Bool.false_and]
  simp
  omega
theorem wrap_u32 {n : Int} (h1 : 0 ≤ n ∧ n < 4294967296) : IntKind.wrap .u32 n = n := by
  unfold IntKind.wrap
  simp only [IntKind.bits, IntKind.signed, Bool.false_and]
  simp
  omega
theorem wrap_u8 {n : Int} (h1 : 0 ≤ n ∧ n < 256) : IntKind.wrap .u8 n = n := by
  unfold IntKind.wrap
  simp only [IntKind.bits, IntKind.signed, Bool.false_and]
  simp
  omega
attribute [go_sem] wrap_i64 wrap_u64 wrap_u32 wrap_u8

end Go.Proofs.Ytmbppjilnnjdaaa.Eng

/-
  The engine, part 25: inserting into, and deleting from, a list of its own.
  Conditions: none. By an AI agent.
-/
namespace Go.Proofs.Ytmbppjilnnjdaaa.Eng
open Go
set_option linter.unusedVariables false
set_option linter.unusedSimpArgs false

variable {P : Program} {α : Type} {E : Enc α} {H H' : AHeap} {v : Value} {l : List α} {e : TypeId}

theorem bnd_nat {y i : Nat} {q : IntKind} (h : i ≤ y) : bnd y (.int q (i : Int)) = some i := by
  unfold bnd
  simp only [Int.toNat_natCast]
  rw [if_pos ⟨by omega, by omega⟩]

theorem sl_lo {b o n c i sz : Nat} {q : IntKind} {xs : List Value} (hf : H.f b = .cells xs e true) (hi : i ≤ n) (hn : n ≤ c) :
    slS e sz (.slice (some ⟨b, o, none⟩) n (2 * c + 1)) (some (.int q (i : Int))) none none H = some (.slice (some ⟨b, o + i * sz, none⟩) (n - i) (2 * (c - i) + 1)) := by
  simp only [slS, highOf, lowOf, bnd_nat hi, show (2 * c + 1) / 2 = c by omega, Option.bind_some, hn, if_true, show ¬ ((2 * c + 1) % 2 = 0) by omega, if_false, hf, rowOf, beq_self_eq_true]
theorem sl_hi {b o n c i sz : Nat} {q : IntKind} {xs : List Value} (hf : H.f b = .cells xs e true) (hi : i ≤ c) :
    slS e sz (.slice (some ⟨b, o, none⟩) n (2 * c + 1)) none (some (.int q (i : Int))) none H = some (.slice (some ⟨b, o, none⟩) i (2 * c + 1)) := by
  simp only [slS, highOf, lowOf, show (2 * c + 1) / 2 = c by omega, bnd_nat hi, Option.bind_some, hi, if_true, show ¬ ((2 * c + 1) % 2 = 0) by omega, if_false, hf, rowOf, beq_self_eq_true]
  simp
theorem sl_lohi {b o n c i j sz : Nat} {q q' : IntKind} {xs : List Value} (hf : H.f b = .cells xs e true) (hi : i ≤ j) (hj : j ≤ c) :
    slS e sz (.slice (some ⟨b, o, none⟩) n (2 * c + 1)) (some (.int q (i : Int))) (some (.int q' (j : Int))) none H = some (.slice (some ⟨b, o + i * sz, none⟩) (j - i) (2 * (c - i) + 1)) := by
  simp only [slS, highOf, lowOf, show (2 * c + 1) / 2 = c by omega, bnd_nat hj, bnd_nat hi, Option.bind_some, hj, if_true, show ¬ ((2 * c + 1) % 2 = 0) by omega, if_false, hf, rowOf, beq_self_eq_true]
theorem sl_three {b o n c i j m sz : Nat} {q q' q'' : IntKind} (hi : i ≤ j) (hj : j ≤ m) (hm : m ≤ c) :
    slS e sz (.slice (some ⟨b, o, none⟩) n (2 * c + 1)) (some (.int q (i : Int))) (some (.int q' (j : Int))) (some (.int q'' (m : Int))) H = some (.slice (some ⟨b, if m = i then o else o + i * sz, none⟩) (j - i) (2 * (m - i))) := by
  simp only [slS, lowOf, show (2 * c + 1) / 2 = c by omega, bnd_nat hm, bnd_nat hj, bnd_nat hi, Option.bind_some, Option.map_some]

/-! ### Insert -/
theorem Enc.cells_ins (E : Enc α) (l m : List α) (i : Nat) : E.cells (l.take i ++ (m ++ l.drop i)) = E.cells (l.take i) ++ (E.cells m ++ E.cells (l.drop i)) := by
  rw [E.cells_append, E.cells_append]

theorem zeros_all {z : List Value} (h : z.all one = true) : ∀ n, (zeros z n).all one = true
  | 0 => rfl
  | n + 1 => by rw [zeros, List.all_append, h, zeros_all h n]; rfl

theorem insS_own {el : TypeId} {z : List Value} {b o c i bv ov cv : Nat} {xs ys : List Value} {ev : TypeId} {m : List α} (hz : z.length = E.w) (hzo : z.all one = true)
    (hl : l.length ≤ c) (hb : b < H.n) (hf : H.f b = .cells xs el true) (ho : o + c * E.w = xs.length) (hx : (xs.drop o).take (l.length * E.w) = E.cells l)
    (hi : i < l.length) (hm : m ≠ []) (hfv : H.f bv = .cells ys ev true) (hbv : bv ≠ b) (htq : tailQ P ev = 1) (hy : ov + m.length * E.w ≤ ys.length) (hyc : (ys.drop ov).take (m.length * E.w) = E.cells m)
    (h1 : (l.length + m.length) * P.bytesOf el ≤ 140737488355328) (h2 : l.length + m.length ≤ 140737488355328) :
    ∃ v' H', insS P el z [.slice (some ⟨b, o, none⟩) l.length (2 * c + 1), .int .i64 (i : Int), .slice (some ⟨bv, ov, none⟩) m.length cv] H = some (v', H') ∧ Own E H' el v' (l.take i ++ (m ++ l.drop i)) ∧
      Fr (fun x => x = b) H H' ∧ (blockOf v' = some b ∨ blockOf v' = some H.n) := by
  have hw := E.pos
  have hm0 : m.length ≠ 0 := fun h => hm (List.length_eq_zero_iff.1 h)
  have hc2 : (2 * c + 1) / 2 = c := by omega
  have hmul := Nat.mul_le_mul_right E.w hl
  have hmi := Nat.mul_le_mul_right E.w (Nat.le_of_lt hi)
  have hsub : (l.length - i) * E.w = l.length * E.w - i * E.w := Nat.sub_mul ..
  have htail : (xs.drop (o + i * E.w)).take ((l.length - i) * E.w) = E.cells (l.drop i) := by
    rw [← E.cells_drop, ← hx, List.drop_take, List.drop_drop, hsub]
  have hhead : (xs.drop o).take (i * E.w) = E.cells (l.take i) := by
    rw [← E.cells_take, ← hx, List.take_take, Nat.min_eq_left hmi]
  have hxpos : 0 < xs.length := by
    have : 0 < l.length := by omega
    have := Nat.mul_pos this hw
    omega
  have hcond : (2 * c + 1) % 2 = 1 ∧ True ∧ i < l.length ∧ l.length ≤ (2 * c + 1) / 2 ∧ m.length ≠ 0 ∧ (l.length + m.length) * P.bytesOf el ≤ 140737488355328 ∧ l.length + m.length ≤ 140737488355328 ∧ bv ≠ b ∧ tailQ P ev = 1 ∧ o + (2 * c + 1) / 2 * z.length = xs.length ∧
          ov + m.length * z.length ≤ ys.length ∧ 0 < xs.length ∧ ((ys.drop ov).take (m.length * z.length)).all one = true ∧ ((xs.drop (o + i * z.length)).take ((l.length - i) * z.length)).all one = true ∧ (zeros z (l.length + m.length - i)).all one = true := by
    rw [hc2, hz]
    exact ⟨by omega, trivial, hi, hl, hm0, h1, h2, hbv, htq, ho, hy, hxpos, by rw [hyc]; exact E.cells_one m, by rw [htail]; exact E.cells_one _, zeros_all hzo _⟩
  have hval : insS P el z [.slice (some ⟨b, o, none⟩) l.length (2 * c + 1), .int .i64 (i : Int), .slice (some ⟨bv, ov, none⟩) m.length cv] H =
      if l.length + m.length ≤ c then
          some (.slice (some ⟨b, o, none⟩) (l.length + m.length) (2 * c + 1),
            (H.set b (.cells (spl xs (o + (i + m.length) * E.w) (E.cells (l.drop i))) el true)).set b
              (.cells (spl (spl xs (o + (i + m.length) * E.w) (E.cells (l.drop i))) (o + i * E.w) (E.cells m)) el true))
        else some (.slice (some ⟨H.n, 0, none⟩) (l.length + m.length) (2 * (l.length + m.length) + 1),
            (H.set b .dead).push (.cells (E.cells (l.take i) ++ (E.cells m ++ E.cells (l.drop i))) el true)) := by
    show (match H.f b, H.f bv with
      | .cells xs e true, .cells ys ev true => _
      | _, _ => none) = _
    rw [hf, hfv]
    simp only
    rw [if_pos hcond]
    simp only [hc2, hz, htail, hhead, hyc]
  have hlen3 : (l.take i ++ (m ++ l.drop i)).length = l.length + m.length := by simp; omega
  rw [hval]
  by_cases hroom : l.length + m.length ≤ c
  · rw [if_pos hroom]
    have hmulr := Nat.mul_le_mul_right E.w hroom
    rw [Nat.add_mul] at hmulr
    refine ⟨_, _, rfl, ?_, Fr.set (S := fun x => x = b) (Fr.set (Fr.refl H) b _ (fun _ => rfl)) b _ (fun _ => rfl), .inl rfl⟩
    refine .inr (.inr ⟨b, o, c, _, by rw [hlen3], by rw [hlen3]; exact hroom, hb, set_f_eq, by rw [spl_length, spl_length, ho], ?_⟩)
    rw [hlen3, E.cells_ins]
    have hA : i * E.w + m.length * E.w + (l.length - i) * E.w = (l.length + m.length) * E.w := by rw [hsub, Nat.add_mul]; omega
    have hcl : (E.cells (l.drop i)).length = (l.length - i) * E.w := by simp
    have hclm : (E.cells m).length = m.length * E.w := by simp
    have hins := fun j hj => ins_cells (xs := xs) (new := E.cells m) (o := o) (A := i * E.w) (M := m.length * E.w) (T := (l.length - i) * E.w) (by omega) hclm (j := j) hj
    apply List.ext_getElem?
    intro j
    by_cases hj : j < (l.length + m.length) * E.w
    · rw [List.getElem?_take_of_lt hj, List.getElem?_drop]
      have := hins j (by rw [hA]; exact hj)
      rw [htail, hhead] at this
      rw [show o + (i + m.length) * E.w = o + (i * E.w + m.length * E.w) by rw [Nat.add_mul]]
      exact this
    · have hlt : (E.cells (l.take i)).length = i * E.w := by rw [E.cells_len, List.length_take, Nat.min_eq_left (Nat.le_of_lt hi)]
      rw [List.getElem?_eq_none (by simp only [List.length_take]; omega), List.getElem?_eq_none (by rw [List.length_append, List.length_append, hlt, hclm, hcl]; omega)]
  · rw [if_neg hroom]
    refine ⟨_, _, rfl, ?_, Fr.push (Fr.set (S := fun x => x = b) (Fr.refl H) b _ (fun _ => rfl)) _, .inr rfl⟩
    refine .inr (.inr ⟨H.n, 0, l.length + m.length, _, by rw [hlen3], by rw [hlen3]; exact Nat.le_refl _, by simp, push_f_eq rfl, ?_, ?_⟩)
    · rw [List.length_append, List.length_append, E.cells_len, E.cells_len, E.cells_len, List.length_take, List.length_drop, Nat.min_eq_left (Nat.le_of_lt hi), hsub, Nat.add_mul]; omega
    · rw [hlen3, E.cells_ins, List.drop_zero]
      apply List.take_of_length_le
      rw [List.length_append, List.length_append, E.cells_len, E.cells_len, E.cells_len, List.length_take, List.length_drop, Nat.min_eq_left (Nat.le_of_lt hi), hsub, Nat.add_mul]; omega

theorem del_cells {xs z : List Value} {o i : Nat} (hz : z.length = E.w) (hi : i < l.length) (hxl : o + l.length * E.w ≤ xs.length) (hx : (xs.drop o).take (l.length * E.w) = E.cells l) :
    ((spl (spl xs (o + i * E.w) (E.cells (l.drop (i + 1)))) (o + (l.length - 1) * E.w) z).drop o).take ((l.take i ++ l.drop (i + 1)).length * E.w) = E.cells (l.take i ++ l.drop (i + 1)) := by
  have hlen : (l.take i ++ l.drop (i + 1)).length = l.length - 1 := by simp; omega
  have hm1 : (l.length - 1) * E.w = l.length * E.w - E.w := by rw [Nat.sub_mul, Nat.one_mul]
  have hm2 : (l.length - (i + 1)) * E.w = l.length * E.w - (i * E.w + E.w) := by rw [Nat.sub_mul, Nat.add_mul, Nat.one_mul]
  have hm3 : (i + 1) * E.w ≤ l.length * E.w := Nat.mul_le_mul_right _ hi
  rw [Nat.add_mul, Nat.one_mul] at hm3
  have hcl : (E.cells (l.drop (i + 1))).length = l.length * E.w - (i * E.w + E.w) := by rw [E.cells_len, List.length_drop, hm2]
  have hct : (E.cells (l.take i)).length = i * E.w := by rw [E.cells_len, List.length_take, Nat.min_eq_left (Nat.le_of_lt hi)]
  rw [hlen, hm1, E.cells_append]
  apply List.ext_getElem?
  intro j
  by_cases hj : j < l.length * E.w - E.w
  · rw [List.getElem?_take_of_lt hj, List.getElem?_drop, spl_get _ _ _ _ (by rw [spl_length, hz]; omega), if_neg (by omega), spl_get _ _ _ _ (by rw [hcl]; omega), hcl, List.getElem?_append, hct]
    by_cases h1 : j < i * E.w
    · rw [if_neg (by omega), if_pos h1, ← E.cells_take, List.getElem?_take_of_lt h1, ← hx, List.getElem?_take_of_lt (by omega), List.getElem?_drop]
    · rw [if_pos (by omega), if_neg h1, show o + j - (o + i * E.w) = j - i * E.w by omega]
  · rw [List.getElem?_eq_none (by simp only [List.length_take]; omega), List.getElem?_eq_none (by rw [List.length_append, hct, hcl]; omega)]

/-! ### Functions without loops, run as they stand -/
def noLoop : DCode → Bool
  | .seq a b => noLoop a && noLoop b
  | .cond _ _ a b => noLoop a && noLoop b
  | .block _ _ b => noLoop b
  | .loop _ _ => false
  | _ => true

theorem dCode_noLoop {N n : Nat} {call : CallF} : ∀ (c : DCode), noLoop c = true → dCode P N call n c = dCodeI P N call c
  | .skip, _ => rfl
  | .region _ _ _, _ => rfl
  | .seq a b, h => by
    simp only [noLoop, Bool.and_eq_true] at h
    funext T H
    rw [dCode, dCodeI, dCode_noLoop a h.1, dCode_noLoop b h.2]
    rfl
  | .cond keep c a b, h => by
    simp only [noLoop, Bool.and_eq_true] at h
    funext T H
    rw [dCode, dCodeI, dCode_noLoop a h.1, dCode_noLoop b h.2]
    rfl
  | .block keep id b, h => by
    funext T H
    rw [dCode, dCodeI, dCode_noLoop b h]
    rfl
  | .loop _ _, h => by simp [noLoop] at h
  | .exit _, _ => rfl
  | .ret _, _ => rfl
  | .bad _, _ => rfl

theorem dBody_noLoop {hints : Hints} {call : CallF} {n : Nat} {f : FuncId} {args : List Value} (h : noLoop (codeOf P hints f) = true) : dBody P hints call n f args H = dBodyL stdL P hints call limLP f args H := by
  unfold codeOf at h
  unfold dBody dBodyL
  cases hf : P.funcs[f]? with
  | none => rfl
  | some fn =>
    rw [hf] at h
    simp only at h ⊢
    cases hb : fn.body with
    | none => rfl
    | some c =>
      rw [hb] at h
      simp only at h ⊢
      rw [dCodeL_eq, dCode_noLoop _ h]
      congr 1
      funext r
      obtain ⟨x, T, H⟩ := r
      cases x with
      | normal => simp only [endK]; rw [resValsK_eq]; cases resVals P H T _ <;> rfl
      | exit i => rfl
      | ret => simp only [endK]; rw [resValsK_eq]; cases resVals P H T _ <;> rfl

@[go_sem, go_sem ↓] theorem nextK_none {call : CallF} {k : Value → AHeap → Res} : nextK call H none k = none := _root_.id rfl
@[go_sem, go_sem ↓] theorem bareK_none {k : Value → AHeap → Res} : bareK none H k = none := _root_.id rfl
theorem cap_odd {t : TypeId} {b o n c : Nat} : xbuiltin P .cap [t] [.slice (some ⟨b, o, none⟩) n (2 * c + 1)] H = none := by
  show bare (xcap P [t] (.slice (some ⟨b, o, none⟩) n (2 * c + 1))) H = none
  have : xcap P [t] (.slice (some ⟨b, o, none⟩) n (2 * c + 1)) = none := by
    unfold xcap
    simp only
    split
    · rename_i h; cases h
    · rename_i h
      cases h
      rw [if_neg (by omega)]
    · rfl
  rw [this]; rfl

end Go.Proofs.Ytmbppjilnnjdaaa.Eng
