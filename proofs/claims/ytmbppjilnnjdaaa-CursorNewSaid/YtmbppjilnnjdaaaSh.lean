/-
  The seat's functions as terms over the engine's combinators (a program of ours printed it).
  Conditions: none. By an AI agent.
-/
import Derived.Test.YtmbppjilnnjdaaaNames
import Derived.Test.YtmbppjilnnjdaaaEng22
import Derived.Test.YtmbppjilnnjdaaaHints
import Derived.Test.YtmbppjilnnjdaaaChecked
import Derived.KernelRfl
set_option linter.unusedVariables false
namespace Go.Proofs.Ytmbppjilnnjdaaa
open Go Eng

/-! ticketline.ticketlinelaw42.fails -/

noncomputable def s_law_fails (mg : GT) (mc : CT) (ms : ST) (P : Program) (C : CallF) (a0 : Value) (a1 : Value) (a2 : Value) (H : AHeap) (K0 : K) : Res :=
enterK C F.cursor_New [a0, a1] H fun t12 h1 =>
bareK (xextract t12 0) h1 fun t13 h2 =>
bareK (xextract t12 1) h2 fun t14 h3 =>
bareK (xbin P .eql T.p_cursor_Cursor (.tmp 15) (.const (.pointer none)) t13 (.pointer none)) h3 fun t16 h4 =>
mg t16 true (fun o1 => o1 t14 h4) h4 fun t18 h5 =>
mg t16 true (fun o2 => o2 a2 h5) h5 fun t19 h6 =>
mg t16 true (fun o3 => bareK (xbin P .eql T.int (.tmp 18) (.tmp 19) t18 t19) h6 o3) h6 fun t20 h7 =>
pickK t16 t20 (.bool false) fun t21 =>
K0 .ret [(6, t21)] h7

theorem s_law_fails_eq (M : CombL) (C : CallF) (LP : LoopH) (a0 : Value) (a1 : Value) (a2 : Value) (H : AHeap) : dBodyL M Try.prog hints C LP F.law_fails [a0, a1, a2] H = s_law_fails M.b.g M.c M.s Try.prog C a0 a1 a2 H (endK Try.prog [.tmp 6]) := by kernel_rfl

/-! ticketline.cursor.New -/

noncomputable def s_cursor_New (mg : GT) (mc : CT) (ms : ST) (P : Program) (C : CallF) (a0 : Value) (a1 : Value) (H : AHeap) (K0 : K) : Res :=
ms (fun k1 =>
bareK (lenT a0) H fun t8 h1 =>
bareK (xbin P .gtr T.int (.tmp 8) (.const (.int .i64 24)) t8 (.int .i64 24)) h1 fun t9 h2 =>
mg t9 false (fun o2 => o2 a1 h2) h2 fun t11 h3 =>
mg t9 false (fun o3 => bareK (lenT t11) h3 o3) h3 fun t12 h4 =>
mg t9 false (fun o4 => bareK (xbin P .gtr T.int (.tmp 12) (.const (.int .i64 24)) t12 (.int .i64 24)) h4 o4) h4 fun t13 h5 =>
pickK t9 (.bool true) t13 fun t14 =>
mc t14 (fun k5 => k5 .ret [(4, (.pointer none)), (5, (.int .i64 5))] h5) (fun k5 =>
bareK (xbin P .neq T.string (.tmp 16) (.const (.string (mk []))) a1 (.string (mk []))) h5 fun t17 h6 =>
mg t17 true (fun o6 => o6 a1 h6) h6 fun t19 h7 =>
mg t17 true (fun o7 => o7 a0 h7) h7 fun t20 h8 =>
mg t17 true (fun o8 => enterK C F.keys_Compare [t19, t20] h8 o8) h8 fun t21 h9 =>
mg t17 true (fun o9 => bareK (xbin P .leq T.int (.tmp 21) (.const (.int .i64 0)) t21 (.int .i64 0)) h9 o9) h9 fun t22 h10 =>
pickK t17 t22 (.bool false) fun t23 =>
mc t23 (fun k10 => k10 .ret [(4, (.pointer none)), (5, (.int .i64 13))] h10) (fun k10 =>
k10 .normal [(0, a0), (1, a1)] h10) (afterK [0, 1] k5)) (blkK [0, 1] 0 k1)) (seqK (fun tT h11 =>
bareK (bldS #[(.string (mk [])), (.string (mk []))] [(0, 1), (1, 1)] [(0, (get tT 0)), (1, (get tT 1))]) h11 fun t26 h12 =>
bareK (bldS #[(.string (mk [])), (.string (mk [])), (.int .i64 0), (.string (mk []))] [(0, 2), (2, 1), (3, 1)] [(0, t26), (1, (.int .i64 1))]) h12 fun t27 h13 =>
bothK (newv T.cursor_Cursor t27 h13) fun t28 h14 =>
K0 .ret [(4, t28), (5, (.int .i64 0))] h14) K0)

theorem s_cursor_New_eq (M : CombL) (C : CallF) (LP : LoopH) (a0 : Value) (a1 : Value) (H : AHeap) : dBodyL M Try.prog hints C LP F.cursor_New [a0, a1] H = s_cursor_New M.b.g M.c M.s Try.prog C a0 a1 H (endK Try.prog [.tmp 4, .tmp 5]) := by kernel_rfl

/-! ticketline.ticketlinelaw42.alike -/

noncomputable def s_law_alike (mg : GT) (mc : CT) (ms : ST) (P : Program) (C : CallF) (a0 : Value) (a1 : Value) (a2 : Value) (H : AHeap) (K0 : K) : Res :=
bareK (xbin P .eql T.p_cursor_Cursor (.tmp 9) (.const (.pointer none)) a0 (.pointer none)) H fun t10 h1 =>
mg t10 false (fun o1 => o1 a0 h1) h1 fun t12 h2 =>
mg t10 false (fun o2 => enterK C F.cursor_Cursor_At [t12] h2 o2) h2 fun t13 h3 =>
mg t10 false (fun o3 => o3 a1 h3) h3 fun t14 h4 =>
mg t10 false (fun o4 => bareK (xnilCheck t14) h4 o4) h4 fun t15 h5 =>
mg t10 false (fun o5 => bareK (fad 2 t15) h5 o5) h5 fun t16 h6 =>
mg t10 false (fun o6 => bareK (ld1 h6 t16) h6 o6) h6 fun t17 h7 =>
mg t10 false (fun o7 => bareK (xbin P .neq T.string (.tmp 13) (.tmp 17) t13 t17) h7 o7) h7 fun t18 h8 =>
pickK t10 (.bool true) t18 fun t19 =>
mg t19 false (fun o8 => o8 a0 h8) h8 fun t21 h9 =>
mg t19 false (fun o9 => enterK C F.cursor_Cursor_Before [t21] h9 o9) h9 fun t22 h10 =>
mg t19 false (fun o10 => o10 a1 h10) h10 fun t23 h11 =>
mg t19 false (fun o11 => bareK (xnilCheck t23) h11 o11) h11 fun t24 h12 =>
mg t19 false (fun o12 => bareK (fad 3 t24) h12 o12) h12 fun t25 h13 =>
mg t19 false (fun o13 => bareK (ld1 h13 t25) h13 o13) h13 fun t26 h14 =>
mg t19 false (fun o14 => bareK (xbin P .lss T.int (.tmp 26) (.const (.int .i64 0)) t26 (.int .i64 0)) h14 o14) h14 fun t27 h15 =>
mg t19 false (fun o15 => bareK (xbin P .neq T.bool (.tmp 22) (.tmp 27) t22 t27) h15 o15) h15 fun t28 h16 =>
pickK t19 (.bool true) t28 fun t29 =>
mg t29 false (fun o16 => o16 a0 h16) h16 fun t31 h17 =>
mg t29 false (fun o17 => enterK C F.cursor_Cursor_Behind [t31] h17 o17) h17 fun t32 h18 =>
mg t29 false (fun o18 => o18 a1 h18) h18 fun t33 h19 =>
mg t29 false (fun o19 => bareK (xnilCheck t33) h19 o19) h19 fun t34 h20 =>
mg t29 false (fun o20 => bareK (fad 3 t34) h20 o20) h20 fun t35 h21 =>
mg t29 false (fun o21 => bareK (ld1 h21 t35) h21 o21) h21 fun t36 h22 =>
mg t29 false (fun o22 => bareK (xbin P .gtr T.int (.tmp 36) (.const (.int .i64 0)) t36 (.int .i64 0)) h22 o22) h22 fun t37 h23 =>
mg t29 false (fun o23 => bareK (xbin P .neq T.bool (.tmp 32) (.tmp 37) t32 t37) h23 o23) h23 fun t38 h24 =>
pickK t29 (.bool true) t38 fun t39 =>
mg t39 false (fun o24 => o24 a0 h24) h24 fun t41 h25 =>
mg t39 false (fun o25 => o25 a2 h25) h25 fun t42 h26 =>
mg t39 false (fun o26 => o26 a1 h26) h26 fun t43 h27 =>
mg t39 false (fun o27 => o27 a2 h27) h27 fun t44 h28 =>
mg t39 false (fun o28 => enterK C F.law_Model_rest [t43, t44] h28 o28) h28 fun t45 h29 =>
mg t39 false (fun o29 => enterK C F.law_rests [t41, t42, t45, (.int .i64 0)] h29 o29) h29 fun t46 h30 =>
mg t39 false (fun o30 => bareK (xun P .not t46) h30 o30) h30 fun t47 h31 =>
pickK t39 (.bool true) t47 fun t48 =>
checkK (okV (goesV t10 false) none h2 h3 h3 h4 && (okV (goesV t10 false) none h2 h3 h4 h5 && (okV (goesV t10 false) none h2 h3 h5 h6 && (okV (goesV t10 false) (blockOf t16) h2 h3 h6 h7 && (okV (goesV t19 false) none h9 h10 h10 h11 && (okV (goesV t19 false) none h9 h10 h11 h12 && (okV (goesV t19 false) none h9 h10 h12 h13 && (okV (goesV t19 false) (blockOf t25) h9 h10 h13 h14 && (okV (goesV t19 false) none h9 h10 h14 h15 && (okV (goesV t29 false) none h17 h18 h18 h19 && (okV (goesV t29 false) none h17 h18 h19 h20 && (okV (goesV t29 false) none h17 h18 h20 h21 && (okV (goesV t29 false) (blockOf t35) h17 h18 h21 h22 && (okV (goesV t29 false) none h17 h18 h22 h23 && (okV (goesV t39 false) none h28 h29 h24 h25 && (okV (goesV t39 false) none h28 h29 h25 h26 && true)))))))))))))))) <|
mc t48 (fun k31 => k31 .ret [(6, (.bool false))] h31) (fun k31 =>
k31 .normal [(0, a0), (1, a1), (2, a2)] h31) (seqK (fun tT h32 =>
bareK (xnilCheck (get tT 1)) h32 fun t52 h33 =>
bareK (fad 2 t52) h33 fun t53 h34 =>
bareK (ld1 h34 t53) h34 fun t54 h35 =>
enterK C F.model_Model_Get [(get tT 2), t54] h35 fun t55 h36 =>
bareK (xextract t55 0) h36 fun t56 h37 =>
bareK (xextract t55 1) h37 fun t57 h38 =>
bareK (xnilCheck (get tT 1)) h38 fun t59 h39 =>
bareK (fad 3 t59) h39 fun t60 h40 =>
bareK (ld1 h40 t60) h40 fun t61 h41 =>
bareK (xbin P .eql T.int (.tmp 61) (.const (.int .i64 0)) t61 (.int .i64 0)) h41 fun t62 h42 =>
mg t62 true (fun o32 => o32 t57 h42) h42 fun t64 h43 =>
mg t62 true (fun o33 => bareK (xbin P .eql T.api_Errno (.tmp 64) (.const (.int .i64 0)) t64 (.int .i64 0)) h43 o33) h43 fun t65 h44 =>
pickK t62 t65 (.bool false) fun t66 =>
mc t66 (fun k34 => bareK (xnilCheck (get tT 1)) h44 fun t70 h45 =>
bareK (fad 2 t70) h45 fun t71 h46 =>
bareK (ld1 h46 t71) h46 fun t72 h47 =>
enterK C F.law_sees [(get tT 0), (get tT 2), t72, t56, (.int .i64 0)] h47 fun t74 h48 =>
k34 .ret [(6, t74)] h48) (fun k34 =>
k34 .normal [(0, (get tT 0)), (2, (get tT 2))] h44) (seqK (fun tT_1 h49 =>
enterK C F.law_sees [(get tT_1 0), (get tT_1 2), (.string (mk [])), (.string (mk [])), (.int .i64 9)] h49 fun t77 h50 =>
K0 .ret [(6, t77)] h50) K0)) K0)

theorem s_law_alike_eq (M : CombL) (C : CallF) (LP : LoopH) (a0 : Value) (a1 : Value) (a2 : Value) (H : AHeap) : dBodyL M Try.prog hints C LP F.law_alike [a0, a1, a2] H = s_law_alike M.b.g M.c M.s Try.prog C a0 a1 a2 H (endK Try.prog [.tmp 6]) := by kernel_rfl

/-! ticketline.ticketlinelaw42.next -/

noncomputable def s_law_next (mg : GT) (mc : CT) (ms : ST) (P : Program) (C : CallF) (a0 : Value) (a1 : Value) (a2 : Value) (a3 : Value) (a4 : Value) (H : AHeap) (K0 : K) : Res :=
enterK C F.cursor_Cursor_Next [a0, a1] H fun t16 h1 =>
bareK (xextract t16 0) h1 fun t17 h2 =>
bareK (xextract t16 1) h2 fun t18 h3 =>
bothK (newv T.api_Pair (.agg #[(.string (mk [])), (.string (mk []))]) h3) fun t11 h4 =>
quietK (stN 2 h4 t11 t17) fun _ h5 =>
bareK (fad 0 t11) h5 fun t19 h6 =>
bareK (ld1 h6 t19) h6 fun t20 h7 =>
bareK (xbin P .eql T.string (.tmp 20) (.tmp 21) t20 a2) h7 fun t22 h8 =>
mg t22 true (fun o1 => bareK (fad 1 t11) h8 o1) h8 fun t24 h9 =>
mg t22 true (fun o2 => bareK (ld1 h9 t24) h9 o2) h9 fun t25 h10 =>
mg t22 true (fun o3 => o3 a3 h10) h10 fun t26 h11 =>
mg t22 true (fun o4 => bareK (xbin P .eql T.string (.tmp 25) (.tmp 26) t25 t26) h11 o4) h11 fun t27 h12 =>
pickK t22 t27 (.bool false) fun t28 =>
mg t28 true (fun o5 => o5 t18 h12) h12 fun t30 h13 =>
mg t28 true (fun o6 => o6 a4 h13) h13 fun t31 h14 =>
mg t28 true (fun o7 => bareK (xbin P .eql T.int (.tmp 30) (.tmp 31) t30 t31) h14 o7) h14 fun t32 h15 =>
pickK t28 t32 (.bool false) fun t33 =>
K0 .ret [(10, t33)] h15

theorem s_law_next_eq (M : CombL) (C : CallF) (LP : LoopH) (a0 : Value) (a1 : Value) (a2 : Value) (a3 : Value) (a4 : Value) (H : AHeap) : dBodyL M Try.prog hints C LP F.law_next [a0, a1, a2, a3, a4] H = s_law_next M.b.g M.c M.s Try.prog C a0 a1 a2 a3 a4 H (endK Try.prog [.tmp 10]) := by kernel_rfl

/-! ticketline.ticketlinelaw42.prev -/

noncomputable def s_law_prev (mg : GT) (mc : CT) (ms : ST) (P : Program) (C : CallF) (a0 : Value) (a1 : Value) (a2 : Value) (a3 : Value) (a4 : Value) (H : AHeap) (K0 : K) : Res :=
enterK C F.cursor_Cursor_Prev [a0, a1] H fun t16 h1 =>
bareK (xextract t16 0) h1 fun t17 h2 =>
bareK (xextract t16 1) h2 fun t18 h3 =>
bothK (newv T.api_Pair (.agg #[(.string (mk [])), (.string (mk []))]) h3) fun t11 h4 =>
quietK (stN 2 h4 t11 t17) fun _ h5 =>
bareK (fad 0 t11) h5 fun t19 h6 =>
bareK (ld1 h6 t19) h6 fun t20 h7 =>
bareK (xbin P .eql T.string (.tmp 20) (.tmp 21) t20 a2) h7 fun t22 h8 =>
mg t22 true (fun o1 => bareK (fad 1 t11) h8 o1) h8 fun t24 h9 =>
mg t22 true (fun o2 => bareK (ld1 h9 t24) h9 o2) h9 fun t25 h10 =>
mg t22 true (fun o3 => o3 a3 h10) h10 fun t26 h11 =>
mg t22 true (fun o4 => bareK (xbin P .eql T.string (.tmp 25) (.tmp 26) t25 t26) h11 o4) h11 fun t27 h12 =>
pickK t22 t27 (.bool false) fun t28 =>
mg t28 true (fun o5 => o5 t18 h12) h12 fun t30 h13 =>
mg t28 true (fun o6 => o6 a4 h13) h13 fun t31 h14 =>
mg t28 true (fun o7 => bareK (xbin P .eql T.int (.tmp 30) (.tmp 31) t30 t31) h14 o7) h14 fun t32 h15 =>
pickK t28 t32 (.bool false) fun t33 =>
K0 .ret [(10, t33)] h15

theorem s_law_prev_eq (M : CombL) (C : CallF) (LP : LoopH) (a0 : Value) (a1 : Value) (a2 : Value) (a3 : Value) (a4 : Value) (H : AHeap) : dBodyL M Try.prog hints C LP F.law_prev [a0, a1, a2, a3, a4] H = s_law_prev M.b.g M.c M.s Try.prog C a0 a1 a2 a3 a4 H (endK Try.prog [.tmp 10]) := by kernel_rfl

/-! ticketline.ticketlinelaw42.seek -/

noncomputable def s_law_seek (mg : GT) (mc : CT) (ms : ST) (P : Program) (C : CallF) (a0 : Value) (a1 : Value) (a2 : Value) (a3 : Value) (a4 : Value) (a5 : Value) (H : AHeap) (K0 : K) : Res :=
enterK C F.cursor_Cursor_Seek [a0, a1, a2] H fun t19 h1 =>
bareK (xextract t19 0) h1 fun t20 h2 =>
bareK (xextract t19 1) h2 fun t21 h3 =>
bothK (newv T.api_Pair (.agg #[(.string (mk [])), (.string (mk []))]) h3) fun t13 h4 =>
quietK (stN 2 h4 t13 t20) fun _ h5 =>
bareK (fad 0 t13) h5 fun t22 h6 =>
bareK (ld1 h6 t22) h6 fun t23 h7 =>
bareK (xbin P .eql T.string (.tmp 23) (.tmp 24) t23 a3) h7 fun t25 h8 =>
mg t25 true (fun o1 => bareK (fad 1 t13) h8 o1) h8 fun t27 h9 =>
mg t25 true (fun o2 => bareK (ld1 h9 t27) h9 o2) h9 fun t28 h10 =>
mg t25 true (fun o3 => o3 a4 h10) h10 fun t29 h11 =>
mg t25 true (fun o4 => bareK (xbin P .eql T.string (.tmp 28) (.tmp 29) t28 t29) h11 o4) h11 fun t30 h12 =>
pickK t25 t30 (.bool false) fun t31 =>
mg t31 true (fun o5 => o5 t21 h12) h12 fun t33 h13 =>
mg t31 true (fun o6 => o6 a5 h13) h13 fun t34 h14 =>
mg t31 true (fun o7 => bareK (xbin P .eql T.int (.tmp 33) (.tmp 34) t33 t34) h14 o7) h14 fun t35 h15 =>
pickK t31 t35 (.bool false) fun t36 =>
K0 .ret [(12, t36)] h15

theorem s_law_seek_eq (M : CombL) (C : CallF) (LP : LoopH) (a0 : Value) (a1 : Value) (a2 : Value) (a3 : Value) (a4 : Value) (a5 : Value) (H : AHeap) : dBodyL M Try.prog hints C LP F.law_seek [a0, a1, a2, a3, a4, a5] H = s_law_seek M.b.g M.c M.s Try.prog C a0 a1 a2 a3 a4 a5 H (endK Try.prog [.tmp 12]) := by kernel_rfl

/-! ticketline.ticketlinelaw42.sees -/

noncomputable def s_law_sees (mg : GT) (mc : CT) (ms : ST) (P : Program) (C : CallF) (a0 : Value) (a1 : Value) (a2 : Value) (a3 : Value) (a4 : Value) (H : AHeap) (K0 : K) : Res :=
enterK C F.cursor_Cursor_See [a0, a1] H fun t16 h1 =>
bareK (xextract t16 0) h1 fun t17 h2 =>
bareK (xextract t16 1) h2 fun t18 h3 =>
bothK (newv T.api_Pair (.agg #[(.string (mk [])), (.string (mk []))]) h3) fun t11 h4 =>
quietK (stN 2 h4 t11 t17) fun _ h5 =>
bareK (fad 0 t11) h5 fun t19 h6 =>
bareK (ld1 h6 t19) h6 fun t20 h7 =>
bareK (xbin P .eql T.string (.tmp 20) (.tmp 21) t20 a2) h7 fun t22 h8 =>
mg t22 true (fun o1 => bareK (fad 1 t11) h8 o1) h8 fun t24 h9 =>
mg t22 true (fun o2 => bareK (ld1 h9 t24) h9 o2) h9 fun t25 h10 =>
mg t22 true (fun o3 => o3 a3 h10) h10 fun t26 h11 =>
mg t22 true (fun o4 => bareK (xbin P .eql T.string (.tmp 25) (.tmp 26) t25 t26) h11 o4) h11 fun t27 h12 =>
pickK t22 t27 (.bool false) fun t28 =>
mg t28 true (fun o5 => o5 t18 h12) h12 fun t30 h13 =>
mg t28 true (fun o6 => o6 a4 h13) h13 fun t31 h14 =>
mg t28 true (fun o7 => bareK (xbin P .eql T.int (.tmp 30) (.tmp 31) t30 t31) h14 o7) h14 fun t32 h15 =>
pickK t28 t32 (.bool false) fun t33 =>
K0 .ret [(10, t33)] h15

theorem s_law_sees_eq (M : CombL) (C : CallF) (LP : LoopH) (a0 : Value) (a1 : Value) (a2 : Value) (a3 : Value) (a4 : Value) (H : AHeap) : dBodyL M Try.prog hints C LP F.law_sees [a0, a1, a2, a3, a4] H = s_law_sees M.b.g M.c M.s Try.prog C a0 a1 a2 a3 a4 H (endK Try.prog [.tmp 10]) := by kernel_rfl

/-! ticketline.ticketlinelaw42.rests -/

noncomputable def s_law_rests (mg : GT) (mc : CT) (ms : ST) (P : Program) (C : CallF) (L0 : Value → Value → Value → AHeap → K → Res) (a0 : Value) (a1 : Value) (a2 : Value) (a3 : Value) (H : AHeap) (K0 : K) : Res :=
enterK C F.cursor_Cursor_Rest [a0, a1] H fun t15 h1 =>
bareK (xextract t15 0) h1 fun t16 h2 =>
bareK (xextract t15 1) h2 fun t17 h3 =>
bareK (lenS t16) h3 fun t19 h4 =>
bareK (lenS a2) h4 fun t21 h5 =>
bareK (xbin P .neq T.int (.tmp 19) (.tmp 21) t19 t21) h5 fun t22 h6 =>
mg t22 false (fun o1 => o1 t17 h6) h6 fun t24 h7 =>
mg t22 false (fun o2 => o2 a3 h7) h7 fun t25 h8 =>
mg t22 false (fun o3 => bareK (xbin P .neq T.int (.tmp 24) (.tmp 25) t24 t25) h8 o3) h8 fun t26 h9 =>
pickK t22 (.bool true) t26 fun t27 =>
mc t27 (fun k4 => k4 .ret [(8, (.bool false))] h9) (fun k4 =>
k4 .normal [(2, a2), (9, t16)] h9) (seqK (fun tT h10 =>
ms (fun k5 =>
L0 (get tT 2) (get tT 9) (.int .i64 0) h10 (blkK [] 0 k5)) (seqK (fun tT_1 h11 =>
K0 .ret [(8, (.bool true))] h11) K0)) K0)

noncomputable def s_law_rests_b0 (mg : GT) (mc : CT) (ms : ST) (P : Program) (C : CallF) (L0 : Value → Value → Value → AHeap → K → Res) (v2 : Value) (v9 : Value) (v11 : Value) (H : AHeap) (k : K) : Res :=
bareK (lenS v9) H fun t30 h11 =>
bareK (xbin P .lss T.int (.tmp 28) (.tmp 30) v11 t30) h11 fun t31 h12 =>
mc t31 (fun k6 => k6 .normal [(2, v2), (9, v9), (11, v11)] h12) (fun k6 =>
k6 (.exit 0) [(31, t31), (30, t30), (29, v9), (28, v11), (2, v2), (9, v9), (11, v11)] h12) (seqK (fun tT h13 =>
ms (fun k7 =>
bareK (ixS 2 (get tT 9) (get tT 11)) h13 fun t36 h14 =>
bareK (ldN 2 h14 t36) h14 fun t37 h15 =>
bareK (ixS 2 (get tT 2) (get tT 11)) h15 fun t40 h16 =>
bareK (ldN 2 h16 t40) h16 fun t41 h17 =>
bareK (xbin P .neq T.api_Pair (.tmp 37) (.tmp 41) t37 t41) h17 fun t42 h18 =>
checkK true <|
mc t42 (fun k8 => k8 .ret [(8, (.bool false))] h18) (fun k8 =>
k8 .normal [(2, (get tT 2)), (9, (get tT 9)), (11, (get tT 11))] h18) (blkK [2, 9, 11] 1 k7)) (seqK (fun tT_1 h19 =>
bareK (xbin P .add T.int (.tmp 32) (.const (.int .i64 1)) (get tT_1 11) (.int .i64 1)) h19 fun t33 h20 =>
k .normal [(2, (get tT_1 2)), (9, (get tT_1 9)), (11, t33)] h20) (afterK [2, 9, 11] k))) (afterK [2, 9, 11] k))

theorem s_law_rests_eq (M : CombL) (C : CallF) (LP : LoopH) (a0 : Value) (a1 : Value) (a2 : Value) (a3 : Value) (H : AHeap) : dBodyL M Try.prog hints C LP F.law_rests [a0, a1, a2, a3] H = s_law_rests M.b.g M.c M.s Try.prog C (fun v2 v9 v11 H k => loopL M Try.prog hints C LP F.law_rests 0 [(2, v2), (9, v9), (11, v11)] H k) a0 a1 a2 a3 H (endK Try.prog [.tmp 8]) := by kernel_rfl

theorem s_law_rests_b0_eq (M : CombL) (C : CallF) (LP : LoopH) (v2 : Value) (v9 : Value) (v11 : Value) (H : AHeap) (k : K) : bodyL M Try.prog hints C LP F.law_rests 0 [(2, v2), (9, v9), (11, v11)] H (afterK [2, 9, 11] k) = s_law_rests_b0 M.b.g M.c M.s Try.prog C (fun v2 v9 v11 H k => loopL M Try.prog hints C LP F.law_rests 0 [(2, v2), (9, v9), (11, v11)] H k) v2 v9 v11 H k := by kernel_rfl

/-! (*ticketline.cursor.Cursor).At -/

noncomputable def s_cursor_Cursor_At (mg : GT) (mc : CT) (ms : ST) (P : Program) (C : CallF) (a0 : Value) (H : AHeap) (K0 : K) : Res :=
enterK C F.cursor_Cursor_zero [a0] H fun t4 h1 =>
mc t4 (fun k1 => k1 .ret [(2, (.string (mk [])))] h1) (fun k1 =>
k1 .normal [(0, a0)] h1) (seqK (fun tT h2 =>
bareK (xnilCheck (get tT 0)) h2 fun t6 h3 =>
bareK (fad 3 t6) h3 fun t7 h4 =>
bareK (ld1 h4 t7) h4 fun t8 h5 =>
K0 .ret [(2, t8)] h5) K0)

theorem s_cursor_Cursor_At_eq (M : CombL) (C : CallF) (LP : LoopH) (a0 : Value) (H : AHeap) : dBodyL M Try.prog hints C LP F.cursor_Cursor_At [a0] H = s_cursor_Cursor_At M.b.g M.c M.s Try.prog C a0 H (endK Try.prog [.tmp 2]) := by kernel_rfl

/-! (*ticketline.cursor.Cursor).Before -/

noncomputable def s_cursor_Cursor_Before (mg : GT) (mc : CT) (ms : ST) (P : Program) (C : CallF) (a0 : Value) (H : AHeap) (K0 : K) : Res :=
enterK C F.cursor_Cursor_zero [a0] H fun t4 h1 =>
bareK (xun P .not t4) h1 fun t5 h2 =>
mg t5 true (fun o1 => o1 a0 h2) h2 fun t7 h3 =>
mg t5 true (fun o2 => bareK (xnilCheck t7) h3 o2) h3 fun t8 h4 =>
mg t5 true (fun o3 => bareK (fad 2 t8) h4 o3) h4 fun t9 h5 =>
mg t5 true (fun o4 => bareK (ld1 h5 t9) h5 o4) h5 fun t10 h6 =>
mg t5 true (fun o5 => bareK (xbin P .eql T.cursor_side (.tmp 10) (.const (.int .i64 1)) t10 (.int .i64 1)) h6 o5) h6 fun t11 h7 =>
pickK t5 t11 (.bool false) fun t12 =>
K0 .ret [(2, t12)] h7

theorem s_cursor_Cursor_Before_eq (M : CombL) (C : CallF) (LP : LoopH) (a0 : Value) (H : AHeap) : dBodyL M Try.prog hints C LP F.cursor_Cursor_Before [a0] H = s_cursor_Cursor_Before M.b.g M.c M.s Try.prog C a0 H (endK Try.prog [.tmp 2]) := by kernel_rfl

/-! (*ticketline.cursor.Cursor).Behind -/

noncomputable def s_cursor_Cursor_Behind (mg : GT) (mc : CT) (ms : ST) (P : Program) (C : CallF) (a0 : Value) (H : AHeap) (K0 : K) : Res :=
enterK C F.cursor_Cursor_zero [a0] H fun t4 h1 =>
bareK (xun P .not t4) h1 fun t5 h2 =>
mg t5 true (fun o1 => o1 a0 h2) h2 fun t7 h3 =>
mg t5 true (fun o2 => bareK (xnilCheck t7) h3 o2) h3 fun t8 h4 =>
mg t5 true (fun o3 => bareK (fad 2 t8) h4 o3) h4 fun t9 h5 =>
mg t5 true (fun o4 => bareK (ld1 h5 t9) h5 o4) h5 fun t10 h6 =>
mg t5 true (fun o5 => bareK (xbin P .eql T.cursor_side (.tmp 10) (.const (.int .i64 3)) t10 (.int .i64 3)) h6 o5) h6 fun t11 h7 =>
pickK t5 t11 (.bool false) fun t12 =>
K0 .ret [(2, t12)] h7

theorem s_cursor_Cursor_Behind_eq (M : CombL) (C : CallF) (LP : LoopH) (a0 : Value) (H : AHeap) : dBodyL M Try.prog hints C LP F.cursor_Cursor_Behind [a0] H = s_cursor_Cursor_Behind M.b.g M.c M.s Try.prog C a0 H (endK Try.prog [.tmp 2]) := by kernel_rfl

/-! (*ticketline.cursor.Cursor).Copy -/

noncomputable def s_cursor_Cursor_Copy (mg : GT) (mc : CT) (ms : ST) (P : Program) (C : CallF) (a0 : Value) (H : AHeap) (K0 : K) : Res :=
enterK C F.cursor_Cursor_zero [a0] H fun t5 h1 =>
mc t5 (fun k1 => k1 .ret [(2, (.pointer none))] h1) (fun k1 =>
k1 .normal [(0, a0)] h1) (seqK (fun tT h2 =>
bareK (xnilCheck (get tT 0)) h2 fun t7 h3 =>
bareK (ldN 4 h3 t7) h3 fun t8 h4 =>
bothK (newv T.cursor_Cursor (.agg #[(.string (mk [])), (.string (mk [])), (.int .i64 0), (.string (mk []))]) h4) fun t3 h5 =>
quietK (stN 4 h5 t3 t8) fun _ h6 =>
K0 .ret [(2, t3)] h6) K0)

theorem s_cursor_Cursor_Copy_eq (M : CombL) (C : CallF) (LP : LoopH) (a0 : Value) (H : AHeap) : dBodyL M Try.prog hints C LP F.cursor_Cursor_Copy [a0] H = s_cursor_Cursor_Copy M.b.g M.c M.s Try.prog C a0 H (endK Try.prog [.tmp 2]) := by kernel_rfl

/-! ticketline.ticketlinelaw42.small -/

noncomputable def s_law_small (mg : GT) (mc : CT) (ms : ST) (P : Program) (C : CallF) (L0 : Value → Value → Value → AHeap → K → Res) (a0 : Value) (a1 : Value) (H : AHeap) (K0 : K) : Res :=
ms (fun k1 =>
L0 a0 a1 (.int .i64 0) H (blkK [0, 1] 0 k1)) (seqK (fun tT h1 =>
bareK (lenS (get tT 0)) h1 fun t34 h2 =>
bareK (xbin P .leq T.int (.tmp 34) (.tmp 35) t34 (get tT 1)) h2 fun t36 h3 =>
K0 .ret [(4, t36)] h3) K0)

noncomputable def s_law_small_b0 (mg : GT) (mc : CT) (ms : ST) (P : Program) (C : CallF) (L0 : Value → Value → Value → AHeap → K → Res) (v0 : Value) (v1 : Value) (v5 : Value) (H : AHeap) (k : K) : Res :=
bareK (lenS v0) H fun t8 h1 =>
bareK (xbin P .lss T.int (.tmp 6) (.tmp 8) v5 t8) h1 fun t9 h2 =>
mg t9 true (fun o2 => o2 v5 h2) h2 fun t11 h3 =>
mg t9 true (fun o3 => o3 v1 h3) h3 fun t12 h4 =>
mg t9 true (fun o4 => bareK (xbin P .lss T.int (.tmp 11) (.tmp 12) t11 t12) h4 o4) h4 fun t13 h5 =>
pickK t9 t13 (.bool false) fun t14 =>
mc t14 (fun k5 => k5 .normal [(0, v0), (1, v1), (5, v5)] h5) (fun k5 =>
k5 (.exit 0) [(14, t14), (13, t13), (12, t12), (11, t11), (10, t9), (9, t9), (8, t8), (7, v0), (6, v5), (0, v0), (1, v1), (5, v5)] h5) (seqK (fun tT h6 =>
ms (fun k6 =>
bareK (ixS 3 (get tT 0) (get tT 5)) h6 fun t19 h7 =>
bareK (fad 1 t19) h7 fun t20 h8 =>
bareK (ld1 h8 t20) h8 fun t21 h9 =>
bareK (lenT t21) h9 fun t22 h10 =>
bareK (xbin P .gtr T.int (.tmp 22) (.const (.int .i64 30)) t22 (.int .i64 30)) h10 fun t23 h11 =>
mg t23 false (fun o7 => o7 (get tT 0) h11) h11 fun t25 h12 =>
mg t23 false (fun o8 => o8 (get tT 5) h12) h12 fun t26 h13 =>
mg t23 false (fun o9 => bareK (ixS 3 t25 t26) h13 o9) h13 fun t27 h14 =>
mg t23 false (fun o10 => bareK (fad 2 t27) h14 o10) h14 fun t28 h15 =>
mg t23 false (fun o11 => bareK (ld1 h15 t28) h15 o11) h15 fun t29 h16 =>
mg t23 false (fun o12 => bareK (lenT t29) h16 o12) h16 fun t30 h17 =>
mg t23 false (fun o13 => bareK (xbin P .gtr T.int (.tmp 30) (.const (.int .i64 44)) t30 (.int .i64 44)) h17 o13) h17 fun t31 h18 =>
pickK t23 (.bool true) t31 fun t32 =>
mc t32 (fun k14 => k14 .ret [(4, (.bool false))] h18) (fun k14 =>
k14 .normal [(0, (get tT 0)), (1, (get tT 1)), (5, (get tT 5))] h18) (blkK [0, 1, 5] 1 k6)) (seqK (fun tT_1 h19 =>
bareK (xbin P .add T.int (.tmp 15) (.const (.int .i64 1)) (get tT_1 5) (.int .i64 1)) h19 fun t16 h20 =>
k .normal [(0, (get tT_1 0)), (1, (get tT_1 1)), (5, t16)] h20) (afterK [0, 1, 5] k))) (afterK [0, 1, 5] k))

theorem s_law_small_eq (M : CombL) (C : CallF) (LP : LoopH) (a0 : Value) (a1 : Value) (H : AHeap) : dBodyL M Try.prog hints C LP F.law_small [a0, a1] H = s_law_small M.b.g M.c M.s Try.prog C (fun v0 v1 v5 H k => loopL M Try.prog hints C LP F.law_small 0 [(0, v0), (1, v1), (5, v5)] H k) a0 a1 H (endK Try.prog [.tmp 4]) := by kernel_rfl

theorem s_law_small_b0_eq (M : CombL) (C : CallF) (LP : LoopH) (v0 : Value) (v1 : Value) (v5 : Value) (H : AHeap) (k : K) : bodyL M Try.prog hints C LP F.law_small 0 [(0, v0), (1, v1), (5, v5)] H (afterK [0, 1, 5] k) = s_law_small_b0 M.b.g M.c M.s Try.prog C (fun v0 v1 v5 H k => loopL M Try.prog hints C LP F.law_small 0 [(0, v0), (1, v1), (5, v5)] H k) v0 v1 v5 H k := by kernel_rfl

/-! (*ticketline.ticketlinelaw42.Model).next -/

noncomputable def s_law_Model_next (mg : GT) (mc : CT) (ms : ST) (P : Program) (C : CallF) (a0 : Value) (a1 : Value) (H : AHeap) (K0 : K) : Res :=
bothK (newv T.api_Pair (.agg #[(.string (mk [])), (.string (mk []))]) H) fun t4 h1 =>
enterK C F.law_Model_rest [a0, a1] h1 fun t9 h2 =>
bareK (lenS t9) h2 fun t11 h3 =>
bareK (xbin P .eql T.int (.tmp 11) (.const (.int .i64 0)) t11 (.int .i64 0)) h3 fun t12 h4 =>
mc t12 (fun k1 => bareK (bldS #[(.string (mk [])), (.string (mk []))] [(0, 1), (1, 1)] []) h4 fun t14 h5 =>
enterK C F.law_Model_to [a0, t14, (.bool false), (.int .i64 1)] h5 fun t15 h6 =>
bareK (xextract t15 0) h6 fun t16 h7 =>
bareK (xextract t15 1) h7 fun t17 h8 =>
quietK (stN 2 h8 t4 t16) fun _ h9 =>
k1 .ret [(4, t4), (5, t17)] h9) (fun k1 =>
k1 .normal [(0, a0), (4, t4), (6, t9)] h4) (seqK (fun tT h10 =>
bareK (ixS 2 (get tT 6) (.int .i64 0)) h10 fun t20 h11 =>
bareK (ldN 2 h11 t20) h11 fun t21 h12 =>
enterK C F.law_Model_to [(get tT 0), t21, (.bool true), (.int .i64 1)] h12 fun t22 h13 =>
bareK (xextract t22 0) h13 fun t23 h14 =>
bareK (xextract t22 1) h14 fun t24 h15 =>
quietK (stN 2 h15 (get tT 4) t23) fun _ h16 =>
K0 .ret [(4, (get tT 4)), (5, t24)] h16) K0)

theorem s_law_Model_next_eq (M : CombL) (C : CallF) (LP : LoopH) (a0 : Value) (a1 : Value) (H : AHeap) : dBodyL M Try.prog hints C LP F.law_Model_next [a0, a1] H = s_law_Model_next M.b.g M.c M.s Try.prog C a0 a1 H (endK Try.prog [.cell 4 T.api_Pair, .tmp 5]) := by kernel_rfl

/-! (*ticketline.ticketlinelaw42.Model).prev -/

noncomputable def s_law_Model_prev (mg : GT) (mc : CT) (ms : ST) (P : Program) (C : CallF) (L0 : Value → Value → Value → Value → AHeap → K → Res) (a0 : Value) (a1 : Value) (H : AHeap) (K0 : K) : Res :=
bothK (newv T.api_Pair (.agg #[(.string (mk [])), (.string (mk []))]) H) fun t4 h1 =>
enterK C F.law_Model_list [a0, a1] h1 fun t10 h2 =>
bareK (lenS t10) h2 fun t12 h3 =>
bareK (xbin P .sub T.int (.tmp 12) (.const (.int .i64 1)) t12 (.int .i64 1)) h3 fun t13 h4 =>
ms (fun k1 =>
L0 a0 t4 t10 t13 h4 (blkK [0, 4] 0 k1)) (seqK (fun tT h5 =>
bareK (bldS #[(.string (mk [])), (.string (mk []))] [(0, 1), (1, 1)] []) h5 fun t51 h6 =>
enterK C F.law_Model_to [(get tT 0), t51, (.bool false), (.int .i64 (-1))] h6 fun t52 h7 =>
bareK (xextract t52 0) h7 fun t53 h8 =>
bareK (xextract t52 1) h8 fun t54 h9 =>
quietK (stN 2 h9 (get tT 4) t53) fun _ h10 =>
K0 .ret [(4, (get tT 4)), (5, t54)] h10) K0)

noncomputable def s_law_Model_prev_b0 (mg : GT) (mc : CT) (ms : ST) (P : Program) (C : CallF) (L0 : Value → Value → Value → Value → AHeap → K → Res) (v0 : Value) (v4 : Value) (v6 : Value) (v7 : Value) (H : AHeap) (k : K) : Res :=
bareK (xbin P .geq T.int (.tmp 14) (.const (.int .i64 0)) v7 (.int .i64 0)) H fun t15 h5 =>
mc t15 (fun k2 => k2 .normal [(0, v0), (4, v4), (6, v6), (7, v7)] h5) (fun k2 =>
k2 (.exit 0) [(15, t15), (14, v7), (0, v0), (4, v4), (6, v6), (7, v7)] h5) (seqK (fun tT h6 =>
ms (fun k3 =>
bareK (xnilCheck (get tT 0)) h6 fun t19 h7 =>
bareK (fad 3 t19) h7 fun t20 h8 =>
bareK (ld1 h8 t20) h8 fun t21 h9 =>
bareK (xbin P .gtr T.int (.tmp 21) (.const (.int .i64 0)) t21 (.int .i64 0)) h9 fun t22 h10 =>
mg t22 false (fun o4 => o4 (get tT 0) h10) h10 fun t24 h11 =>
mg t22 false (fun o5 => bareK (xnilCheck t24) h11 o5) h11 fun t25 h12 =>
mg t22 false (fun o6 => bareK (fad 3 t25) h12 o6) h12 fun t26 h13 =>
mg t22 false (fun o7 => bareK (ld1 h13 t26) h13 o7) h13 fun t27 h14 =>
mg t22 false (fun o8 => bareK (xbin P .eql T.int (.tmp 27) (.const (.int .i64 0)) t27 (.int .i64 0)) h14 o8) h14 fun t28 h15 =>
mg t22 false (fun o9 => o9 t28 h15) h15 fun t29 h16 =>
mg t29 true (fun o10 => o10 (get tT 6) h16) h16 fun t30 h17 =>
mg t29 true (fun o11 => o11 (get tT 7) h17) h17 fun t31 h18 =>
mg t29 true (fun o12 => bareK (ixS 2 t30 t31) h18 o12) h18 fun t32 h19 =>
mg t29 true (fun o13 => bareK (fad 0 t32) h19 o13) h19 fun t33 h20 =>
mg t29 true (fun o14 => bareK (ld1 h20 t33) h20 o14) h20 fun t34 h21 =>
mg t29 true (fun o15 => o15 (get tT 0) h21) h21 fun t35 h22 =>
mg t29 true (fun o16 => bareK (xnilCheck t35) h22 o16) h22 fun t36 h23 =>
mg t29 true (fun o17 => bareK (fad 2 t36) h23 o17) h23 fun t37 h24 =>
mg t29 true (fun o18 => bareK (ld1 h24 t37) h24 o18) h24 fun t38 h25 =>
mg t29 true (fun o19 => bareK (xbin P .lss T.string (.tmp 34) (.tmp 38) t34 t38) h25 o19) h25 fun t39 h26 =>
mg t22 false (fun o20 => pickK t29 t39 (.bool false) fun v => o20 v h26) h26 fun t40 h27 =>
pickK t22 (.bool true) t40 fun t41 =>
checkK true <|
mc t41 (fun k21 => bareK (ixS 2 (get tT 6) (get tT 7)) h27 fun t45 h28 =>
bareK (ldN 2 h28 t45) h28 fun t46 h29 =>
enterK C F.law_Model_to [(get tT 0), t46, (.bool true), (.int .i64 (-1))] h29 fun t47 h30 =>
bareK (xextract t47 0) h30 fun t48 h31 =>
bareK (xextract t47 1) h31 fun t49 h32 =>
quietK (stN 2 h32 (get tT 4) t48) fun _ h33 =>
k21 .ret [(4, (get tT 4)), (5, t49)] h33) (fun k21 =>
k21 .normal [(0, (get tT 0)), (4, (get tT 4)), (6, (get tT 6)), (7, (get tT 7))] h27) (blkK [0, 4, 6, 7] 1 k3)) (seqK (fun tT_1 h34 =>
bareK (xbin P .sub T.int (.tmp 16) (.const (.int .i64 1)) (get tT_1 7) (.int .i64 1)) h34 fun t17 h35 =>
k .normal [(0, (get tT_1 0)), (4, (get tT_1 4)), (6, (get tT_1 6)), (7, t17)] h35) (afterK [0, 4, 6, 7] k))) (afterK [0, 4, 6, 7] k))

theorem s_law_Model_prev_eq (M : CombL) (C : CallF) (LP : LoopH) (a0 : Value) (a1 : Value) (H : AHeap) : dBodyL M Try.prog hints C LP F.law_Model_prev [a0, a1] H = s_law_Model_prev M.b.g M.c M.s Try.prog C (fun v0 v4 v6 v7 H k => loopL M Try.prog hints C LP F.law_Model_prev 0 [(0, v0), (4, v4), (6, v6), (7, v7)] H k) a0 a1 H (endK Try.prog [.cell 4 T.api_Pair, .tmp 5]) := by kernel_rfl

theorem s_law_Model_prev_b0_eq (M : CombL) (C : CallF) (LP : LoopH) (v0 : Value) (v4 : Value) (v6 : Value) (v7 : Value) (H : AHeap) (k : K) : bodyL M Try.prog hints C LP F.law_Model_prev 0 [(0, v0), (4, v4), (6, v6), (7, v7)] H (afterK [0, 4, 6, 7] k) = s_law_Model_prev_b0 M.b.g M.c M.s Try.prog C (fun v0 v4 v6 v7 H k => loopL M Try.prog hints C LP F.law_Model_prev 0 [(0, v0), (4, v4), (6, v6), (7, v7)] H k) v0 v4 v6 v7 H k := by kernel_rfl

/-! (*ticketline.ticketlinelaw42.Model).seek -/

noncomputable def s_law_Model_seek (mg : GT) (mc : CT) (ms : ST) (P : Program) (C : CallF) (L0 : Value → Value → Value → Value → Value → AHeap → K → Res) (a0 : Value) (a1 : Value) (a2 : Value) (H : AHeap) (K0 : K) : Res :=
bothK (newv T.api_Pair (.agg #[(.string (mk [])), (.string (mk []))]) H) fun t6 h1 =>
ms (fun k1 =>
bareK (lenT a2) h1 fun t12 h2 =>
bareK (xbin P .eql T.int (.tmp 12) (.const (.int .i64 0)) t12 (.int .i64 0)) h2 fun t13 h3 =>
mc t13 (fun k2 => bareK (bldS #[(.string (mk [])), (.string (mk []))] [(0, 1), (1, 1)] []) h3 fun t14 h4 =>
quietK (stN 2 h4 t6 t14) fun _ h5 =>
k2 .ret [(6, t6), (7, (.int .i64 2))] h5) (fun k2 =>
bareK (lenT a2) h3 fun t17 h6 =>
bareK (xbin P .gtr T.int (.tmp 17) (.const (.int .i64 24)) t17 (.int .i64 24)) h6 fun t18 h7 =>
mc t18 (fun k3 => bareK (bldS #[(.string (mk [])), (.string (mk []))] [(0, 1), (1, 1)] []) h7 fun t19 h8 =>
quietK (stN 2 h8 t6 t19) fun _ h9 =>
k3 .ret [(6, t6), (7, (.int .i64 5))] h9) (fun k3 =>
enterK C F.law_Model_in [a0, a2] h7 fun t23 h10 =>
bareK (xun P .not t23) h10 fun t24 h11 =>
mc t24 (fun k4 => bareK (bldS #[(.string (mk [])), (.string (mk []))] [(0, 1), (1, 1)] []) h11 fun t25 h12 =>
quietK (stN 2 h12 t6 t25) fun _ h13 =>
k4 .ret [(6, t6), (7, (.int .i64 3))] h13) (fun k4 =>
k4 .normal [(0, a0), (1, a1), (2, a2), (6, t6)] h11) (afterK [0, 1, 2, 6] k3)) (afterK [0, 1, 2, 6] k2)) (blkK [0, 1, 2, 6] 0 k1)) (seqK (fun tT h14 =>
enterK C F.law_Model_list [(get tT 0), (get tT 1)] h14 fun t28 h15 =>
ms (fun k5 =>
L0 (get tT 0) (get tT 2) (get tT 6) t28 (.int .i64 0) h15 (blkK [0, 6] 1 k5)) (seqK (fun tT_1 h16 =>
bareK (bldS #[(.string (mk [])), (.string (mk []))] [(0, 1), (1, 1)] []) h16 fun t51 h17 =>
enterK C F.law_Model_to [(get tT_1 0), t51, (.bool false), (.int .i64 1)] h17 fun t52 h18 =>
bareK (xextract t52 0) h18 fun t53 h19 =>
bareK (xextract t52 1) h19 fun t54 h20 =>
quietK (stN 2 h20 (get tT_1 6) t53) fun _ h21 =>
K0 .ret [(6, (get tT_1 6)), (7, t54)] h21) K0)) K0)

noncomputable def s_law_Model_seek_b0 (mg : GT) (mc : CT) (ms : ST) (P : Program) (C : CallF) (L0 : Value → Value → Value → Value → Value → AHeap → K → Res) (v0 : Value) (v2 : Value) (v6 : Value) (v8 : Value) (v9 : Value) (H : AHeap) (k : K) : Res :=
bareK (lenS v8) H fun t31 h16 =>
bareK (xbin P .lss T.int (.tmp 29) (.tmp 31) v9 t31) h16 fun t32 h17 =>
mc t32 (fun k6 => k6 .normal [(0, v0), (2, v2), (6, v6), (8, v8), (9, v9)] h17) (fun k6 =>
k6 (.exit 1) [(32, t32), (31, t31), (30, v8), (29, v9), (0, v0), (2, v2), (6, v6), (8, v8), (9, v9)] h17) (seqK (fun tT h18 =>
ms (fun k7 =>
bareK (ixS 2 (get tT 8) (get tT 9)) h18 fun t37 h19 =>
bareK (fad 0 t37) h19 fun t38 h20 =>
bareK (ld1 h20 t38) h20 fun t39 h21 =>
bareK (xbin P .geq T.string (.tmp 39) (.tmp 40) t39 (get tT 2)) h21 fun t41 h22 =>
mc t41 (fun k8 => bareK (ixS 2 (get tT 8) (get tT 9)) h22 fun t45 h23 =>
bareK (ldN 2 h23 t45) h23 fun t46 h24 =>
enterK C F.law_Model_to [(get tT 0), t46, (.bool true), (.int .i64 1)] h24 fun t47 h25 =>
bareK (xextract t47 0) h25 fun t48 h26 =>
bareK (xextract t47 1) h26 fun t49 h27 =>
quietK (stN 2 h27 (get tT 6) t48) fun _ h28 =>
k8 .ret [(6, (get tT 6)), (7, t49)] h28) (fun k8 =>
k8 .normal [(0, (get tT 0)), (2, (get tT 2)), (6, (get tT 6)), (8, (get tT 8)), (9, (get tT 9))] h22) (blkK [0, 2, 6, 8, 9] 2 k7)) (seqK (fun tT_1 h29 =>
bareK (xbin P .add T.int (.tmp 33) (.const (.int .i64 1)) (get tT_1 9) (.int .i64 1)) h29 fun t34 h30 =>
k .normal [(0, (get tT_1 0)), (2, (get tT_1 2)), (6, (get tT_1 6)), (8, (get tT_1 8)), (9, t34)] h30) (afterK [0, 2, 6, 8, 9] k))) (afterK [0, 2, 6, 8, 9] k))

theorem s_law_Model_seek_eq (M : CombL) (C : CallF) (LP : LoopH) (a0 : Value) (a1 : Value) (a2 : Value) (H : AHeap) : dBodyL M Try.prog hints C LP F.law_Model_seek [a0, a1, a2] H = s_law_Model_seek M.b.g M.c M.s Try.prog C (fun v0 v2 v6 v8 v9 H k => loopL M Try.prog hints C LP F.law_Model_seek 0 [(0, v0), (2, v2), (6, v6), (8, v8), (9, v9)] H k) a0 a1 a2 H (endK Try.prog [.cell 6 T.api_Pair, .tmp 7]) := by kernel_rfl

theorem s_law_Model_seek_b0_eq (M : CombL) (C : CallF) (LP : LoopH) (v0 : Value) (v2 : Value) (v6 : Value) (v8 : Value) (v9 : Value) (H : AHeap) (k : K) : bodyL M Try.prog hints C LP F.law_Model_seek 0 [(0, v0), (2, v2), (6, v6), (8, v8), (9, v9)] H (afterK [0, 2, 6, 8, 9] k) = s_law_Model_seek_b0 M.b.g M.c M.s Try.prog C (fun v0 v2 v6 v8 v9 H k => loopL M Try.prog hints C LP F.law_Model_seek 0 [(0, v0), (2, v2), (6, v6), (8, v8), (9, v9)] H k) v0 v2 v6 v8 v9 H k := by kernel_rfl

/-! (*ticketline.model.Model).Put -/

noncomputable def s_model_Model_Put (mg : GT) (mc : CT) (ms : ST) (P : Program) (C : CallF) (a0 : Value) (a1 : Value) (a2 : Value) (H : AHeap) (K0 : K) : Res :=
bothK (bldL T.string [(.string (mk []))] 1 [(0, a2)] H) fun t14 h1 =>
enterK C F.model_Model_at [a0, a1, t14] h1 fun t15 h2 =>
bareK (xextract t15 0) h2 fun t16 h3 =>
bareK (xextract t15 1) h3 fun t17 h4 =>
bareK (xextract t15 2) h4 fun t18 h5 =>
bareK (xbin P .neq T.api_Errno (.tmp 19) (.const (.int .i64 0)) t18 (.int .i64 0)) h5 fun t20 h6 =>
mc t20 (fun k1 => k1 .ret [(6, t18)] h6) (fun k1 =>
k1 .normal [(0, a0), (1, a1), (2, a2), (7, t16), (8, t17)] h6) (seqK (fun tT h7 =>
bareK (bldS #[(.string (mk [])), (.string (mk []))] [(0, 1), (1, 1)] [(0, (get tT 1)), (1, (get tT 2))]) h7 fun t27 h8 =>
enterK C F.model_Model_set [(get tT 0), (get tT 7), (get tT 8), t27] h8 fun t28 h9 =>
K0 .ret [(6, t28)] h9) K0)

theorem s_model_Model_Put_eq (M : CombL) (C : CallF) (LP : LoopH) (a0 : Value) (a1 : Value) (a2 : Value) (H : AHeap) : dBodyL M Try.prog hints C LP F.model_Model_Put [a0, a1, a2] H = s_model_Model_Put M.b.g M.c M.s Try.prog C a0 a1 a2 H (endK Try.prog [.tmp 6]) := by kernel_rfl

/-! (*ticketline.model.Model).Delete -/

noncomputable def s_model_Model_Delete (mg : GT) (mc : CT) (ms : ST) (P : Program) (C : CallF) (a0 : Value) (a1 : Value) (H : AHeap) (K0 : K) : Res :=
enterK C F.model_Model_Get [a0, a1] H fun t13 h1 =>
bareK (xextract t13 0) h1 fun t14 h2 =>
bareK (xextract t13 1) h2 fun t15 h3 =>
bareK (xbin P .neq T.api_Errno (.tmp 16) (.const (.int .i64 0)) t15 (.int .i64 0)) h3 fun t17 h4 =>
mc t17 (fun k1 => k1 .ret [(4, (.string (mk []))), (5, t15)] h4) (fun k1 =>
k1 .normal [(0, a0), (1, a1), (6, t14)] h4) (seqK (fun tT h5 =>
enterK C F.model_Model_place [(get tT 0), (get tT 1)] h5 fun t22 h6 =>
bareK (xextract t22 0) h6 fun t23 h7 =>
bareK (xextract t22 1) h7 fun t24 h8 =>
bareK (xnilCheck (get tT 0)) h8 fun t27 h9 =>
bareK (fad 0 t27) h9 fun t28 h10 =>
bareK (ld1 h10 t28) h10 fun t29 h11 =>
bareK (xbin P .add T.int (.tmp 31) (.const (.int .i64 1)) t23 (.int .i64 1)) h11 fun t32 h12 =>
enterK C F.slices_Delete_Pair [t29, t23, t32] h12 fun t33 h13 =>
bareK (xnilCheck (get tT 0)) h13 fun t34 h14 =>
bareK (fad 0 t34) h14 fun t35 h15 =>
quietK (st1 h15 t35 t33) fun _ h16 =>
K0 .ret [(4, (get tT 6)), (5, (.int .i64 0))] h16) K0)

theorem s_model_Model_Delete_eq (M : CombL) (C : CallF) (LP : LoopH) (a0 : Value) (a1 : Value) (H : AHeap) : dBodyL M Try.prog hints C LP F.model_Model_Delete [a0, a1] H = s_model_Model_Delete M.b.g M.c M.s Try.prog C a0 a1 H (endK Try.prog [.tmp 4, .tmp 5]) := by kernel_rfl

/-! (*ticketline.cursor.Cursor).Next -/

noncomputable def s_cursor_Cursor_Next (mg : GT) (mc : CT) (ms : ST) (P : Program) (C : CallF) (a0 : Value) (a1 : Value) (H : AHeap) (K0 : K) : Res :=
bothK (newv T.api_Pair (.agg #[(.string (mk [])), (.string (mk []))]) H) fun t4 h1 =>
enterK C F.cursor_Cursor_zero [a0] h1 fun t8 h2 =>
mg t8 false (fun o1 => o1 a1 h2) h2 fun t10 h3 =>
mg t8 false (fun o2 => bareK (xbin P .eql T.p_model_Model (.tmp 10) (.const (.pointer none)) t10 (.pointer none)) h3 o2) h3 fun t11 h4 =>
pickK t8 (.bool true) t11 fun t12 =>
mc t12 (fun k3 => bareK (bldS #[(.string (mk [])), (.string (mk []))] [(0, 1), (1, 1)] []) h4 fun t13 h5 =>
quietK (stN 2 h5 t4 t13) fun _ h6 =>
k3 .ret [(4, t4), (5, (.int .i64 1))] h6) (fun k3 =>
k3 .normal [(0, a0), (1, a1), (4, t4)] h4) (seqK (fun tT h7 =>
bareK (xnilCheck (get tT 0)) h7 fun t15 h8 =>
bareK (fad 0 t15) h8 fun t16 h9 =>
bareK (ldN 2 h9 t16) h9 fun t17 h10 =>
enterK C F.cursor_span_pairs [t17, (get tT 1)] h10 fun t19 h11 =>
enterK C F.cursor_Cursor_forward [(get tT 0), t19] h11 fun t24 h12 =>
enterK C F.cursor_Cursor_set [(get tT 0), t19, t24, (.int .i64 3)] h12 fun t25 h13 =>
bareK (xextract t25 0) h13 fun t26 h14 =>
bareK (xextract t25 1) h14 fun t27 h15 =>
quietK (stN 2 h15 (get tT 4) t26) fun _ h16 =>
K0 .ret [(4, (get tT 4)), (5, t27)] h16) K0)

theorem s_cursor_Cursor_Next_eq (M : CombL) (C : CallF) (LP : LoopH) (a0 : Value) (a1 : Value) (H : AHeap) : dBodyL M Try.prog hints C LP F.cursor_Cursor_Next [a0, a1] H = s_cursor_Cursor_Next M.b.g M.c M.s Try.prog C a0 a1 H (endK Try.prog [.cell 4 T.api_Pair, .tmp 5]) := by kernel_rfl

/-! (*ticketline.model.Model).Pairs -/

noncomputable def s_model_Model_Pairs (mg : GT) (mc : CT) (ms : ST) (P : Program) (C : CallF) (a0 : Value) (H : AHeap) (K0 : K) : Res :=
bareK (xbin P .eql T.p_model_Model (.tmp 3) (.const (.pointer none)) a0 (.pointer none)) H fun t4 h1 =>
mc t4 (fun k1 => k1 .ret [(2, (.slice none 0 0))] h1) (fun k1 =>
k1 .normal [(0, a0)] h1) (seqK (fun tT h2 =>
bareK (xnilCheck (get tT 0)) h2 fun t6 h3 =>
bareK (fad 0 t6) h3 fun t7 h4 =>
bareK (ld1 h4 t7) h4 fun t8 h5 =>
enterK C F.slices_Clone_Pair [t8] h5 fun t9 h6 =>
K0 .ret [(2, t9)] h6) K0)

theorem s_model_Model_Pairs_eq (M : CombL) (C : CallF) (LP : LoopH) (a0 : Value) (H : AHeap) : dBodyL M Try.prog hints C LP F.model_Model_Pairs [a0] H = s_model_Model_Pairs M.b.g M.c M.s Try.prog C a0 H (endK Try.prog [.tmp 2]) := by kernel_rfl

/-! (*ticketline.model.Model).Copy -/

noncomputable def s_model_Model_Copy (mg : GT) (mc : CT) (ms : ST) (P : Program) (C : CallF) (a0 : Value) (H : AHeap) (K0 : K) : Res :=
bareK (xbin P .eql T.p_model_Model (.tmp 3) (.const (.pointer none)) a0 (.pointer none)) H fun t4 h1 =>
mc t4 (fun k1 => k1 .ret [(2, (.pointer none))] h1) (fun k1 =>
k1 .normal [(0, a0)] h1) (seqK (fun tT h2 =>
bareK (xnilCheck (get tT 0)) h2 fun t6 h3 =>
bareK (fad 0 t6) h3 fun t7 h4 =>
bareK (ld1 h4 t7) h4 fun t8 h5 =>
enterK C F.slices_Clone_Pair [t8] h5 fun t9 h6 =>
bareK (bldS #[(.slice none 0 0)] [(0, 1)] [(0, t9)]) h6 fun t10 h7 =>
bothK (newv T.model_Model t10 h7) fun t11 h8 =>
K0 .ret [(2, t11)] h8) K0)

theorem s_model_Model_Copy_eq (M : CombL) (C : CallF) (LP : LoopH) (a0 : Value) (H : AHeap) : dBodyL M Try.prog hints C LP F.model_Model_Copy [a0] H = s_model_Model_Copy M.b.g M.c M.s Try.prog C a0 H (endK Try.prog [.tmp 2]) := by kernel_rfl

/-! (*ticketline.model.Model).Get -/

noncomputable def s_model_Model_Get (mg : GT) (mc : CT) (ms : ST) (P : Program) (C : CallF) (a0 : Value) (a1 : Value) (H : AHeap) (K0 : K) : Res :=
enterK C F.model_Model_at [a0, a1, (.slice none 0 0)] H fun t12 h1 =>
bareK (xextract t12 0) h1 fun t13 h2 =>
bareK (xextract t12 1) h2 fun t14 h3 =>
bareK (xextract t12 2) h3 fun t15 h4 =>
ms (fun k1 =>
bareK (xbin P .neq T.api_Errno (.tmp 17) (.const (.int .i64 0)) t15 (.int .i64 0)) h4 fun t18 h5 =>
mc t18 (fun k2 => k2 .ret [(4, (.string (mk []))), (5, t15)] h5) (fun k2 =>
bareK (xun P .not t14) h5 fun t22 h6 =>
mc t22 (fun k3 => k3 .ret [(4, (.string (mk []))), (5, (.int .i64 9))] h6) (fun k3 =>
k3 .normal [(0, a0), (6, t13)] h6) (afterK [0, 6] k2)) (blkK [0, 6] 0 k1)) (seqK (fun tT h7 =>
bareK (xnilCheck (get tT 0)) h7 fun t24 h8 =>
bareK (fad 0 t24) h8 fun t25 h9 =>
bareK (ld1 h9 t25) h9 fun t26 h10 =>
bareK (ixS 2 t26 (get tT 6)) h10 fun t28 h11 =>
bareK (fad 1 t28) h11 fun t29 h12 =>
bareK (ld1 h12 t29) h12 fun t30 h13 =>
K0 .ret [(4, t30), (5, (.int .i64 0))] h13) K0)

theorem s_model_Model_Get_eq (M : CombL) (C : CallF) (LP : LoopH) (a0 : Value) (a1 : Value) (H : AHeap) : dBodyL M Try.prog hints C LP F.model_Model_Get [a0, a1] H = s_model_Model_Get M.b.g M.c M.s Try.prog C a0 a1 H (endK Try.prog [.tmp 4, .tmp 5]) := by kernel_rfl

/-! ticketline.model.Of -/

noncomputable def s_model_Of (mg : GT) (mc : CT) (ms : ST) (P : Program) (C : CallF) (L0 : Value → Value → Value → Value → AHeap → K → Res) (a0 : Value) (H : AHeap) (K0 : K) : Res :=
bareK (lenS a0) H fun t8 h1 =>
ms (fun k1 =>
L0 a0 a0 t8 (.int .i64 0) h1 (blkK [0] 0 k1)) (seqK (fun tT h2 =>
bareK (lenS (get tT 0)) h2 fun t39 h3 =>
bareK (xbin P .gtr T.int (.tmp 39) (.const (.int .i64 20000)) t39 (.int .i64 20000)) h3 fun t40 h4 =>
mc t40 (fun k2 => k2 .ret [(2, (.pointer none)), (3, (.int .i64 7))] h4) (fun k2 =>
k2 .normal [(0, (get tT 0))] h4) (seqK (fun tT_1 h5 =>
enterK C F.slices_Clone_Pair [(get tT_1 0)] h5 fun t42 h6 =>
bareK (bldS #[(.slice none 0 0)] [(0, 1)] [(0, t42)]) h6 fun t43 h7 =>
bothK (newv T.model_Model t43 h7) fun t44 h8 =>
K0 .ret [(2, t44), (3, (.int .i64 0))] h8) K0)) K0)

noncomputable def s_model_Of_b0 (mg : GT) (mc : CT) (ms : ST) (P : Program) (C : CallF) (L0 : Value → Value → Value → Value → AHeap → K → Res) (v0 : Value) (v7 : Value) (v8 : Value) (v9 : Value) (H : AHeap) (k : K) : Res :=
bareK (xbin P .lss T.int (.tmp 9) (.tmp 8) v9 v8) H fun t10 h2 =>
mc t10 (fun k2 => k2 .normal [(0, v0), (7, v7), (8, v8), (9, v9)] h2) (fun k2 =>
k2 (.exit 0) [(10, t10), (0, v0), (7, v7), (8, v8), (9, v9)] h2) (seqK (fun tT h3 =>
ms (fun k3 =>
bareK (ixS 2 (get tT 7) (get tT 9)) h3 fun t12 h4 =>
bareK (ldN 2 h4 t12) h4 fun t13 h5 =>
bothK (newv T.api_Pair (.agg #[(.string (mk [])), (.string (mk []))]) h5) fun t5 h6 =>
quietK (stN 2 h6 t5 t13) fun _ h7 =>
bareK (fad 0 t5) h7 fun t14 h8 =>
bareK (ld1 h8 t14) h8 fun t15 h9 =>
bareK (fad 1 t5) h9 fun t16 h10 =>
bareK (ld1 h10 t16) h10 fun t17 h11 =>
bothK (bldL T.string [(.string (mk []))] 1 [(0, t17)] h11) fun t18 h12 =>
enterK C F.model_check [t15, t18] h12 fun t19 h13 =>
bareK (xbin P .neq T.api_Errno (.tmp 20) (.const (.int .i64 0)) t19 (.int .i64 0)) h13 fun t21 h14 =>
mc t21 (fun k4 => k4 .ret [(2, (.pointer none)), (3, t19)] h14) (fun k4 =>
k4 .normal [(0, (get tT 0)), (4, (get tT 9)), (5, t5), (7, (get tT 7)), (8, (get tT 8)), (9, (get tT 9))] h14) (seqK (fun tT_1 h15 =>
bareK (xbin P .gtr T.int (.tmp 23) (.const (.int .i64 0)) (get tT_1 4) (.int .i64 0)) h15 fun t24 h16 =>
mg t24 true (fun o5 => o5 (get tT_1 0) h16) h16 fun t26 h17 =>
mg t24 true (fun o6 => o6 (get tT_1 4) h17) h17 fun t27 h18 =>
mg t24 true (fun o7 => bareK (xbin P .sub T.int (.tmp 27) (.const (.int .i64 1)) t27 (.int .i64 1)) h18 o7) h18 fun t28 h19 =>
mg t24 true (fun o8 => bareK (ixS 2 t26 t28) h19 o8) h19 fun t29 h20 =>
mg t24 true (fun o9 => bareK (fad 0 t29) h20 o9) h20 fun t30 h21 =>
mg t24 true (fun o10 => bareK (ld1 h21 t30) h21 o10) h21 fun t31 h22 =>
mg t24 true (fun o11 => bareK (fad 0 (get tT_1 5)) h22 o11) h22 fun t32 h23 =>
mg t24 true (fun o12 => bareK (ld1 h23 t32) h23 o12) h23 fun t33 h24 =>
mg t24 true (fun o13 => enterK C F.keys_Compare [t31, t33] h24 o13) h24 fun t34 h25 =>
mg t24 true (fun o14 => bareK (xbin P .geq T.int (.tmp 34) (.const (.int .i64 0)) t34 (.int .i64 0)) h25 o14) h25 fun t35 h26 =>
pickK t24 t35 (.bool false) fun t36 =>
checkK true <|
mc t36 (fun k15 => k15 .ret [(2, (.pointer none)), (3, (.int .i64 13))] h26) (fun k15 =>
k15 .normal [(0, (get tT_1 0)), (7, (get tT_1 7)), (8, (get tT_1 8)), (9, (get tT_1 9))] h26) (blkK [0, 7, 8, 9] 1 k3)) (blkK [0, 7, 8, 9] 1 k3))) (seqK (fun tT_2 h27 =>
bareK (xbin P .add T.int (.tmp 9) (.const (.int .i64 1)) (get tT_2 9) (.int .i64 1)) h27 fun t37 h28 =>
k .normal [(0, (get tT_2 0)), (7, (get tT_2 7)), (8, (get tT_2 8)), (9, t37)] h28) (afterK [0, 7, 8, 9] k))) (afterK [0, 7, 8, 9] k))

theorem s_model_Of_eq (M : CombL) (C : CallF) (LP : LoopH) (a0 : Value) (H : AHeap) : dBodyL M Try.prog hints C LP F.model_Of [a0] H = s_model_Of M.b.g M.c M.s Try.prog C (fun v0 v7 v8 v9 H k => loopL M Try.prog hints C LP F.model_Of 0 [(0, v0), (7, v7), (8, v8), (9, v9)] H k) a0 H (endK Try.prog [.tmp 2, .tmp 3]) := by kernel_rfl

theorem s_model_Of_b0_eq (M : CombL) (C : CallF) (LP : LoopH) (v0 : Value) (v7 : Value) (v8 : Value) (v9 : Value) (H : AHeap) (k : K) : bodyL M Try.prog hints C LP F.model_Of 0 [(0, v0), (7, v7), (8, v8), (9, v9)] H (afterK [0, 7, 8, 9] k) = s_model_Of_b0 M.b.g M.c M.s Try.prog C (fun v0 v7 v8 v9 H k => loopL M Try.prog hints C LP F.model_Of 0 [(0, v0), (7, v7), (8, v8), (9, v9)] H k) v0 v7 v8 v9 H k := by kernel_rfl

/-! (*ticketline.cursor.Cursor).Rest -/

noncomputable def s_cursor_Cursor_Rest (mg : GT) (mc : CT) (ms : ST) (P : Program) (C : CallF) (a0 : Value) (a1 : Value) (H : AHeap) (K0 : K) : Res :=
enterK C F.cursor_Cursor_zero [a0] H fun t8 h1 =>
mg t8 false (fun o1 => o1 a1 h1) h1 fun t10 h2 =>
mg t8 false (fun o2 => bareK (xbin P .eql T.p_model_Model (.tmp 10) (.const (.pointer none)) t10 (.pointer none)) h2 o2) h2 fun t11 h3 =>
pickK t8 (.bool true) t11 fun t12 =>
mc t12 (fun k3 => k3 .ret [(4, (.slice none 0 0)), (5, (.int .i64 1))] h3) (fun k3 =>
k3 .normal [(0, a0), (1, a1)] h3) (seqK (fun tT h4 =>
bareK (xnilCheck (get tT 0)) h4 fun t14 h5 =>
bareK (fad 0 t14) h5 fun t15 h6 =>
bareK (ldN 2 h6 t15) h6 fun t16 h7 =>
enterK C F.cursor_span_pairs [t16, (get tT 1)] h7 fun t18 h8 =>
enterK C F.cursor_Cursor_forward [(get tT 0), t18] h8 fun t22 h9 =>
bareK (slS T.api_Pair 2 t18 (some t22) none none h9) h9 fun t23 h10 =>
K0 .ret [(4, t23), (5, (.int .i64 0))] h10) K0)

theorem s_cursor_Cursor_Rest_eq (M : CombL) (C : CallF) (LP : LoopH) (a0 : Value) (a1 : Value) (H : AHeap) : dBodyL M Try.prog hints C LP F.cursor_Cursor_Rest [a0, a1] H = s_cursor_Cursor_Rest M.b.g M.c M.s Try.prog C a0 a1 H (endK Try.prog [.tmp 4, .tmp 5]) := by kernel_rfl

/-! ticketline.keys.Compare -/

noncomputable def s_keys_Compare (mg : GT) (mc : CT) (ms : ST) (P : Program) (C : CallF) (a0 : Value) (a1 : Value) (H : AHeap) (K0 : K) : Res :=
enterK C F.strings_Compare [a0, a1] H fun t7 h1 =>
K0 .ret [(4, t7)] h1

theorem s_keys_Compare_eq (M : CombL) (C : CallF) (LP : LoopH) (a0 : Value) (a1 : Value) (H : AHeap) : dBodyL M Try.prog hints C LP F.keys_Compare [a0, a1] H = s_keys_Compare M.b.g M.c M.s Try.prog C a0 a1 H (endK Try.prog [.tmp 4]) := by kernel_rfl

/-! (*ticketline.ticketlinelaw42.Model).rest -/

noncomputable def s_law_Model_rest (mg : GT) (mc : CT) (ms : ST) (P : Program) (C : CallF) (L0 : Value → Value → Value → Value → AHeap → K → Res) (a0 : Value) (a1 : Value) (H : AHeap) (K0 : K) : Res :=
enterK C F.law_Model_list [a0, a1] H fun t10 h1 =>
ms (fun k1 =>
L0 a0 (.slice none 0 0) t10 (.int .i64 0) h1 (blkK [5] 0 k1)) (seqK (fun tT h2 =>
K0 .ret [(4, (get tT 5))] h2) K0)

noncomputable def s_law_Model_rest_b0 (mg : GT) (mc : CT) (ms : ST) (P : Program) (C : CallF) (L0 : Value → Value → Value → Value → AHeap → K → Res) (v0 : Value) (v5 : Value) (v6 : Value) (v7 : Value) (H : AHeap) (k : K) : Res :=
bareK (lenS v6) H fun t13 h2 =>
bareK (xbin P .lss T.int (.tmp 11) (.tmp 13) v7 t13) h2 fun t14 h3 =>
mc t14 (fun k2 => k2 .normal [(0, v0), (5, v5), (6, v6), (7, v7)] h3) (fun k2 =>
k2 (.exit 0) [(14, t14), (13, t13), (12, v6), (11, v7), (0, v0), (5, v5), (6, v6), (7, v7)] h3) (seqK (fun tT h4 =>
ms (fun k3 =>
bareK (xnilCheck (get tT 0)) h4 fun t18 h5 =>
bareK (fad 3 t18) h5 fun t19 h6 =>
bareK (ld1 h6 t19) h6 fun t20 h7 =>
bareK (xbin P .lss T.int (.tmp 20) (.const (.int .i64 0)) t20 (.int .i64 0)) h7 fun t21 h8 =>
mg t21 false (fun o4 => o4 (get tT 0) h8) h8 fun t23 h9 =>
mg t21 false (fun o5 => bareK (xnilCheck t23) h9 o5) h9 fun t24 h10 =>
mg t21 false (fun o6 => bareK (fad 3 t24) h10 o6) h10 fun t25 h11 =>
mg t21 false (fun o7 => bareK (ld1 h11 t25) h11 o7) h11 fun t26 h12 =>
mg t21 false (fun o8 => bareK (xbin P .eql T.int (.tmp 26) (.const (.int .i64 0)) t26 (.int .i64 0)) h12 o8) h12 fun t27 h13 =>
mg t21 false (fun o9 => o9 t27 h13) h13 fun t28 h14 =>
mg t28 true (fun o10 => o10 (get tT 6) h14) h14 fun t29 h15 =>
mg t28 true (fun o11 => o11 (get tT 7) h15) h15 fun t30 h16 =>
mg t28 true (fun o12 => bareK (ixS 2 t29 t30) h16 o12) h16 fun t31 h17 =>
mg t28 true (fun o13 => bareK (fad 0 t31) h17 o13) h17 fun t32 h18 =>
mg t28 true (fun o14 => bareK (ld1 h18 t32) h18 o14) h18 fun t33 h19 =>
mg t28 true (fun o15 => o15 (get tT 0) h19) h19 fun t34 h20 =>
mg t28 true (fun o16 => bareK (xnilCheck t34) h20 o16) h20 fun t35 h21 =>
mg t28 true (fun o17 => bareK (fad 2 t35) h21 o17) h21 fun t36 h22 =>
mg t28 true (fun o18 => bareK (ld1 h22 t36) h22 o18) h22 fun t37 h23 =>
mg t28 true (fun o19 => bareK (xbin P .gtr T.string (.tmp 33) (.tmp 37) t33 t37) h23 o19) h23 fun t38 h24 =>
mg t21 false (fun o20 => pickK t28 t38 (.bool false) fun v => o20 v h24) h24 fun t39 h25 =>
pickK t21 (.bool true) t39 fun t40 =>
checkK true <|
mc t40 (fun k21 => bareK (ixS 2 (get tT 6) (get tT 7)) h25 fun t44 h26 =>
bareK (ldN 2 h26 t44) h26 fun t45 h27 =>
bothK (bldL T.api_Pair [(.string (mk [])), (.string (mk []))] 1 [(0, t45)] h27) fun t46 h28 =>
bothK (app T.api_Pair 2 32 (get tT 5) (srcS 2 t46 h28) h28) fun t47 h29 =>
k21 .normal [(0, (get tT 0)), (5, t47), (6, (get tT 6)), (7, (get tT 7))] h29) (fun k21 =>
k21 .normal [(0, (get tT 0)), (5, (get tT 5)), (6, (get tT 6)), (7, (get tT 7))] h25) (blkK [0, 5, 6, 7] 1 k3)) (seqK (fun tT_1 h30 =>
bareK (xbin P .add T.int (.tmp 15) (.const (.int .i64 1)) (get tT_1 7) (.int .i64 1)) h30 fun t16 h31 =>
k .normal [(0, (get tT_1 0)), (5, (get tT_1 5)), (6, (get tT_1 6)), (7, t16)] h31) (afterK [0, 5, 6, 7] k))) (afterK [0, 5, 6, 7] k))

theorem s_law_Model_rest_eq (M : CombL) (C : CallF) (LP : LoopH) (a0 : Value) (a1 : Value) (H : AHeap) : dBodyL M Try.prog hints C LP F.law_Model_rest [a0, a1] H = s_law_Model_rest M.b.g M.c M.s Try.prog C (fun v0 v5 v6 v7 H k => loopL M Try.prog hints C LP F.law_Model_rest 0 [(0, v0), (5, v5), (6, v6), (7, v7)] H k) a0 a1 H (endK Try.prog [.tmp 4]) := by kernel_rfl

theorem s_law_Model_rest_b0_eq (M : CombL) (C : CallF) (LP : LoopH) (v0 : Value) (v5 : Value) (v6 : Value) (v7 : Value) (H : AHeap) (k : K) : bodyL M Try.prog hints C LP F.law_Model_rest 0 [(0, v0), (5, v5), (6, v6), (7, v7)] H (afterK [0, 5, 6, 7] k) = s_law_Model_rest_b0 M.b.g M.c M.s Try.prog C (fun v0 v5 v6 v7 H k => loopL M Try.prog hints C LP F.law_Model_rest 0 [(0, v0), (5, v5), (6, v6), (7, v7)] H k) v0 v5 v6 v7 H k := by kernel_rfl

/-! (*ticketline.cursor.Cursor).Prev -/

noncomputable def s_cursor_Cursor_Prev (mg : GT) (mc : CT) (ms : ST) (P : Program) (C : CallF) (a0 : Value) (a1 : Value) (H : AHeap) (K0 : K) : Res :=
bothK (newv T.p_cursor_Cursor a0 H) fun t2 h1 =>
bothK (newv T.api_Pair (.agg #[(.string (mk [])), (.string (mk []))]) h1) fun t4 h2 =>
bareK (ld1 h2 t2) h2 fun t8 h3 =>
enterK C F.cursor_Cursor_zero [t8] h3 fun t9 h4 =>
mg t9 false (fun o1 => o1 a1 h4) h4 fun t11 h5 =>
mg t9 false (fun o2 => bareK (xbin P .eql T.p_model_Model (.tmp 11) (.const (.pointer none)) t11 (.pointer none)) h5 o2) h5 fun t12 h6 =>
pickK t9 (.bool true) t12 fun t13 =>
mc t13 (fun k3 => bareK (bldS #[(.string (mk [])), (.string (mk []))] [(0, 1), (1, 1)] []) h6 fun t14 h7 =>
quietK (stN 2 h7 t4 t14) fun _ h8 =>
k3 .ret [(4, t4), (5, (.int .i64 1))] h8) (fun k3 =>
k3 .normal [(1, a1), (2, t2), (4, t4)] h6) (seqK (fun tT h9 =>
bareK (ld1 h9 (get tT 2)) h9 fun t15 h10 =>
bareK (xnilCheck t15) h10 fun t16 h11 =>
bareK (fad 0 t16) h11 fun t17 h12 =>
bareK (ldN 2 h12 t17) h12 fun t18 h13 =>
enterK C F.cursor_span_pairs [t18, (get tT 1)] h13 fun t20 h14 =>
bothK (newv T.sl_api_Pair (.slice none 0 0) h14) fun t6 h15 =>
quietK (st1 h15 t6 t20) fun _ h16 =>
bareK (ld1 h16 (get tT 2)) h16 fun t21 h17 =>
bareK (xnilCheck t21) h17 fun t22 h18 =>
bareK (fad 2 t22) h18 fun t23 h19 =>
bareK (ld1 h19 t23) h19 fun t24 h20 =>
ms (fun k4 =>
bareK (xbin P .eql T.cursor_side (.tmp 24) (.const (.int .i64 3)) t24 (.int .i64 3)) h20 fun t26 h21 =>
mc t26 (fun k5 => bareK (ld1 h21 t6) h21 fun t27 h22 =>
bareK (lenS t27) h22 fun t28 h23 =>
bareK (xbin P .sub T.int (.tmp 28) (.const (.int .i64 1)) t28 (.int .i64 1)) h23 fun t29 h24 =>
k5 .normal [(2, (get tT 2)), (4, (get tT 4)), (6, t6), (7, t29)] h24) (fun k5 =>
bareK (xbin P .eql T.cursor_side (.tmp 24) (.const (.int .i64 2)) t24 (.int .i64 2)) h21 fun t31 h25 =>
mc t31 (fun k6 => bareK (ld1 h25 t6) h25 fun t32 h26 =>
bareK (lenS t32) h26 fun t33 h27 =>
enterK C F.sort_Search [t33, (.func (.func F.cursor_Cursor_Prev_1) #[] #[t6, (get tT 2)])] h27 fun t35 h28 =>
bareK (xbin P .sub T.int (.tmp 35) (.const (.int .i64 1)) t35 (.int .i64 1)) h28 fun t36 h29 =>
k6 .normal [(2, (get tT 2)), (4, (get tT 4)), (6, t6), (7, t36)] h29) (fun k6 =>
k6 .normal [(2, (get tT 2)), (4, (get tT 4)), (6, t6), (7, (.int .i64 (-1)))] h25) (afterK [2, 4, 6, 7] k5)) (blkK [2, 4, 6, 7] 0 k4)) (seqK (fun tT_1 h30 =>
bareK (ld1 h30 (get tT_1 2)) h30 fun t37 h31 =>
bareK (ld1 h31 (get tT_1 6)) h31 fun t38 h32 =>
enterK C F.cursor_Cursor_set [t37, t38, (get tT_1 7), (.int .i64 1)] h32 fun t40 h33 =>
bareK (xextract t40 0) h33 fun t41 h34 =>
bareK (xextract t40 1) h34 fun t42 h35 =>
quietK (stN 2 h35 (get tT_1 4) t41) fun _ h36 =>
K0 .ret [(4, (get tT_1 4)), (5, t42)] h36) K0)) K0)

theorem s_cursor_Cursor_Prev_eq (M : CombL) (C : CallF) (LP : LoopH) (a0 : Value) (a1 : Value) (H : AHeap) : dBodyL M Try.prog hints C LP F.cursor_Cursor_Prev [a0, a1] H = s_cursor_Cursor_Prev M.b.g M.c M.s Try.prog C a0 a1 H (endK Try.prog [.cell 4 T.api_Pair, .tmp 5]) := by kernel_rfl

/-! (*ticketline.cursor.Cursor).Seek -/

noncomputable def s_cursor_Cursor_Seek (mg : GT) (mc : CT) (ms : ST) (P : Program) (C : CallF) (a0 : Value) (a1 : Value) (a2 : Value) (H : AHeap) (K0 : K) : Res :=
bothK (newv T.string a2 H) fun t5 h1 =>
bothK (newv T.api_Pair (.agg #[(.string (mk [])), (.string (mk []))]) h1) fun t6 h2 =>
ms (fun k1 =>
enterK C F.cursor_Cursor_zero [a0] h2 fun t11 h3 =>
mg t11 false (fun o2 => o2 a1 h3) h3 fun t13 h4 =>
mg t11 false (fun o3 => bareK (xbin P .eql T.p_model_Model (.tmp 13) (.const (.pointer none)) t13 (.pointer none)) h4 o3) h4 fun t14 h5 =>
pickK t11 (.bool true) t14 fun t15 =>
mc t15 (fun k4 => bareK (bldS #[(.string (mk [])), (.string (mk []))] [(0, 1), (1, 1)] []) h5 fun t16 h6 =>
quietK (stN 2 h6 t6 t16) fun _ h7 =>
k4 .ret [(6, t6), (7, (.int .i64 1))] h7) (fun k4 =>
bareK (ld1 h5 t5) h5 fun t18 h8 =>
bareK (xbin P .eql T.string (.tmp 18) (.const (.string (mk []))) t18 (.string (mk []))) h8 fun t19 h9 =>
mc t19 (fun k5 => bareK (bldS #[(.string (mk [])), (.string (mk []))] [(0, 1), (1, 1)] []) h9 fun t20 h10 =>
quietK (stN 2 h10 t6 t20) fun _ h11 =>
k5 .ret [(6, t6), (7, (.int .i64 2))] h11) (fun k5 =>
bareK (ld1 h9 t5) h9 fun t22 h12 =>
bareK (lenT t22) h12 fun t23 h13 =>
bareK (xbin P .gtr T.int (.tmp 23) (.const (.int .i64 24)) t23 (.int .i64 24)) h13 fun t24 h14 =>
mc t24 (fun k6 => bareK (bldS #[(.string (mk [])), (.string (mk []))] [(0, 1), (1, 1)] []) h14 fun t25 h15 =>
quietK (stN 2 h15 t6 t25) fun _ h16 =>
k6 .ret [(6, t6), (7, (.int .i64 5))] h16) (fun k6 =>
bareK (xnilCheck a0) h14 fun t28 h17 =>
bareK (fad 0 t28) h17 fun t29 h18 =>
bareK (ldN 2 h18 t29) h18 fun t30 h19 =>
bareK (ld1 h19 t5) h19 fun t31 h20 =>
enterK C F.cursor_span_has [t30, t31] h20 fun t32 h21 =>
bareK (xun P .not t32) h21 fun t33 h22 =>
checkK true <|
mc t33 (fun k7 => bareK (bldS #[(.string (mk [])), (.string (mk []))] [(0, 1), (1, 1)] []) h22 fun t34 h23 =>
quietK (stN 2 h23 t6 t34) fun _ h24 =>
k7 .ret [(6, t6), (7, (.int .i64 3))] h24) (fun k7 =>
k7 .normal [(0, a0), (1, a1), (5, t5), (6, t6)] h22) (afterK [0, 1, 5, 6] k6)) (afterK [0, 1, 5, 6] k5)) (afterK [0, 1, 5, 6] k4)) (blkK [0, 1, 5, 6] 0 k1)) (seqK (fun tT h25 =>
bareK (xnilCheck (get tT 0)) h25 fun t36 h26 =>
bareK (fad 0 t36) h26 fun t37 h27 =>
bareK (ldN 2 h27 t37) h27 fun t38 h28 =>
enterK C F.cursor_span_pairs [t38, (get tT 1)] h28 fun t40 h29 =>
bothK (newv T.sl_api_Pair (.slice none 0 0) h29) fun t8 h30 =>
quietK (st1 h30 t8 t40) fun _ h31 =>
bareK (ld1 h31 t8) h31 fun t42 h32 =>
bareK (ld1 h32 t8) h32 fun t43 h33 =>
bareK (lenS t43) h33 fun t44 h34 =>
enterK C F.sort_Search [t44, (.func (.func F.cursor_Cursor_Seek_1) #[] #[t8, (get tT 5)])] h34 fun t46 h35 =>
enterK C F.cursor_Cursor_set [(get tT 0), t42, t46, (.int .i64 3)] h35 fun t47 h36 =>
bareK (xextract t47 0) h36 fun t48 h37 =>
bareK (xextract t47 1) h37 fun t49 h38 =>
quietK (stN 2 h38 (get tT 6) t48) fun _ h39 =>
checkK (okV (some true) none h34 h35 h31 h31 && (okV (some true) (blockOf t8) h34 h35 h31 h32 && true)) <|
K0 .ret [(6, (get tT 6)), (7, t49)] h39) K0)

theorem s_cursor_Cursor_Seek_eq (M : CombL) (C : CallF) (LP : LoopH) (a0 : Value) (a1 : Value) (a2 : Value) (H : AHeap) : dBodyL M Try.prog hints C LP F.cursor_Cursor_Seek [a0, a1, a2] H = s_cursor_Cursor_Seek M.b.g M.c M.s Try.prog C a0 a1 a2 H (endK Try.prog [.cell 6 T.api_Pair, .tmp 7]) := by kernel_rfl

/-! (*ticketline.cursor.Cursor).See -/

noncomputable def s_cursor_Cursor_See (mg : GT) (mc : CT) (ms : ST) (P : Program) (C : CallF) (a0 : Value) (a1 : Value) (H : AHeap) (K0 : K) : Res :=
bothK (newv T.api_Pair (.agg #[(.string (mk [])), (.string (mk []))]) H) fun t4 h1 =>
ms (fun k1 =>
enterK C F.cursor_Cursor_zero [a0] h1 fun t10 h2 =>
mg t10 false (fun o2 => o2 a1 h2) h2 fun t12 h3 =>
mg t10 false (fun o3 => bareK (xbin P .eql T.p_model_Model (.tmp 12) (.const (.pointer none)) t12 (.pointer none)) h3 o3) h3 fun t13 h4 =>
pickK t10 (.bool true) t13 fun t14 =>
mc t14 (fun k4 => bareK (bldS #[(.string (mk [])), (.string (mk []))] [(0, 1), (1, 1)] []) h4 fun t15 h5 =>
quietK (stN 2 h5 t4 t15) fun _ h6 =>
k4 .ret [(4, t4), (5, (.int .i64 1))] h6) (fun k4 =>
bareK (xnilCheck a0) h4 fun t18 h7 =>
bareK (fad 2 t18) h7 fun t19 h8 =>
bareK (ld1 h8 t19) h8 fun t20 h9 =>
bareK (xbin P .neq T.cursor_side (.tmp 20) (.const (.int .i64 2)) t20 (.int .i64 2)) h9 fun t21 h10 =>
mc t21 (fun k5 => bareK (bldS #[(.string (mk [])), (.string (mk []))] [(0, 1), (1, 1)] []) h10 fun t22 h11 =>
quietK (stN 2 h11 t4 t22) fun _ h12 =>
k5 .ret [(4, t4), (5, (.int .i64 9))] h12) (fun k5 =>
k5 .normal [(0, a0), (1, a1), (4, t4)] h10) (afterK [0, 1, 4] k4)) (blkK [0, 1, 4] 0 k1)) (seqK (fun tT h13 =>
bareK (xnilCheck (get tT 0)) h13 fun t26 h14 =>
bareK (fad 3 t26) h14 fun t27 h15 =>
bareK (ld1 h15 t27) h15 fun t28 h16 =>
enterK C F.model_Model_Get [(get tT 1), t28] h16 fun t29 h17 =>
bareK (xextract t29 0) h17 fun t30 h18 =>
bareK (xextract t29 1) h18 fun t31 h19 =>
bareK (xbin P .neq T.api_Errno (.tmp 32) (.const (.int .i64 0)) t31 (.int .i64 0)) h19 fun t33 h20 =>
mc t33 (fun k6 => bareK (bldS #[(.string (mk [])), (.string (mk []))] [(0, 1), (1, 1)] []) h20 fun t34 h21 =>
quietK (stN 2 h21 (get tT 4) t34) fun _ h22 =>
k6 .ret [(4, (get tT 4)), (5, (.int .i64 9))] h22) (fun k6 =>
k6 .normal [(0, (get tT 0)), (4, (get tT 4)), (6, t30)] h20) (seqK (fun tT_1 h23 =>
bareK (xnilCheck (get tT_1 0)) h23 fun t36 h24 =>
bareK (fad 3 t36) h24 fun t37 h25 =>
bareK (ld1 h25 t37) h25 fun t38 h26 =>
bareK (bldS #[(.string (mk [])), (.string (mk []))] [(0, 1), (1, 1)] [(0, t38), (1, (get tT_1 6))]) h26 fun t40 h27 =>
quietK (stN 2 h27 (get tT_1 4) t40) fun _ h28 =>
K0 .ret [(4, (get tT_1 4)), (5, (.int .i64 0))] h28) K0)) K0)

theorem s_cursor_Cursor_See_eq (M : CombL) (C : CallF) (LP : LoopH) (a0 : Value) (a1 : Value) (H : AHeap) : dBodyL M Try.prog hints C LP F.cursor_Cursor_See [a0, a1] H = s_cursor_Cursor_See M.b.g M.c M.s Try.prog C a0 a1 H (endK Try.prog [.cell 4 T.api_Pair, .tmp 5]) := by kernel_rfl

/-! (*ticketline.cursor.Cursor).zero -/

noncomputable def s_cursor_Cursor_zero (mg : GT) (mc : CT) (ms : ST) (P : Program) (C : CallF) (a0 : Value) (H : AHeap) (K0 : K) : Res :=
bareK (xbin P .eql T.p_cursor_Cursor (.tmp 3) (.const (.pointer none)) a0 (.pointer none)) H fun t4 h1 =>
mg t4 false (fun o1 => o1 a0 h1) h1 fun t6 h2 =>
mg t4 false (fun o2 => bareK (xnilCheck t6) h2 o2) h2 fun t7 h3 =>
mg t4 false (fun o3 => bareK (fad 2 t7) h3 o3) h3 fun t8 h4 =>
mg t4 false (fun o4 => bareK (ld1 h4 t8) h4 o4) h4 fun t9 h5 =>
mg t4 false (fun o5 => bareK (xbin P .eql T.cursor_side (.tmp 9) (.const (.int .i64 0)) t9 (.int .i64 0)) h5 o5) h5 fun t10 h6 =>
pickK t4 (.bool true) t10 fun t11 =>
K0 .ret [(2, t11)] h6

theorem s_cursor_Cursor_zero_eq (M : CombL) (C : CallF) (LP : LoopH) (a0 : Value) (H : AHeap) : dBodyL M Try.prog hints C LP F.cursor_Cursor_zero [a0] H = s_cursor_Cursor_zero M.b.g M.c M.s Try.prog C a0 H (endK Try.prog [.tmp 2]) := by kernel_rfl

/-! (*ticketline.ticketlinelaw42.Model).to -/

noncomputable def s_law_Model_to (mg : GT) (mc : CT) (ms : ST) (P : Program) (C : CallF) (a0 : Value) (a1 : Value) (a2 : Value) (a3 : Value) (H : AHeap) (K0 : K) : Res :=
bothK (newv T.api_Pair a1 H) fun t5 h1 =>
bothK (newv T.api_Pair (.agg #[(.string (mk [])), (.string (mk []))]) h1) fun t8 h2 =>
bareK (xun P .not a2) h2 fun t11 h3 =>
mc t11 (fun k1 => bareK (xnilCheck a0) h3 fun t15 h4 =>
bareK (fad 2 t15) h4 fun t16 h5 =>
quietK (st1 h5 t16 (.string (mk []))) fun _ h6 =>
bareK (xnilCheck a0) h6 fun t17 h7 =>
bareK (fad 3 t17) h7 fun t18 h8 =>
quietK (st1 h8 t18 a3) fun _ h9 =>
bareK (bldS #[(.string (mk [])), (.string (mk []))] [(0, 1), (1, 1)] []) h9 fun t19 h10 =>
quietK (stN 2 h10 t8 t19) fun _ h11 =>
k1 .ret [(8, t8), (9, (.int .i64 17))] h11) (fun k1 =>
k1 .normal [(0, a0), (5, t5), (8, t8)] h3) (seqK (fun tT h12 =>
bareK (fad 0 (get tT 5)) h12 fun t22 h13 =>
bareK (ld1 h13 t22) h13 fun t23 h14 =>
bareK (xnilCheck (get tT 0)) h14 fun t24 h15 =>
bareK (fad 2 t24) h15 fun t25 h16 =>
quietK (st1 h16 t25 t23) fun _ h17 =>
bareK (xnilCheck (get tT 0)) h17 fun t26 h18 =>
bareK (fad 3 t26) h18 fun t27 h19 =>
quietK (st1 h19 t27 (.int .i64 0)) fun _ h20 =>
bareK (ldN 2 h20 (get tT 5)) h20 fun t28 h21 =>
quietK (stN 2 h21 (get tT 8) t28) fun _ h22 =>
K0 .ret [(8, (get tT 8)), (9, (.int .i64 0))] h22) K0)

theorem s_law_Model_to_eq (M : CombL) (C : CallF) (LP : LoopH) (a0 : Value) (a1 : Value) (a2 : Value) (a3 : Value) (H : AHeap) : dBodyL M Try.prog hints C LP F.law_Model_to [a0, a1, a2, a3] H = s_law_Model_to M.b.g M.c M.s Try.prog C a0 a1 a2 a3 H (endK Try.prog [.cell 8 T.api_Pair, .tmp 9]) := by kernel_rfl

/-! (*ticketline.ticketlinelaw42.Model).list -/

noncomputable def s_law_Model_list (mg : GT) (mc : CT) (ms : ST) (P : Program) (C : CallF) (L0 : Value → Value → Value → Value → AHeap → K → Res) (a0 : Value) (a1 : Value) (H : AHeap) (K0 : K) : Res :=
enterK C F.model_Model_Pairs [a1] H fun t9 h1 =>
ms (fun k1 =>
L0 a0 (.slice none 0 0) t9 (.int .i64 0) h1 (blkK [5] 0 k1)) (seqK (fun tT h2 =>
K0 .ret [(4, (get tT 5))] h2) K0)

noncomputable def s_law_Model_list_b0 (mg : GT) (mc : CT) (ms : ST) (P : Program) (C : CallF) (L0 : Value → Value → Value → Value → AHeap → K → Res) (v0 : Value) (v5 : Value) (v6 : Value) (v7 : Value) (H : AHeap) (k : K) : Res :=
bareK (lenS v6) H fun t12 h2 =>
bareK (xbin P .lss T.int (.tmp 10) (.tmp 12) v7 t12) h2 fun t13 h3 =>
mc t13 (fun k2 => k2 .normal [(0, v0), (5, v5), (6, v6), (7, v7)] h3) (fun k2 =>
k2 (.exit 0) [(13, t13), (12, t12), (11, v6), (10, v7), (0, v0), (5, v5), (6, v6), (7, v7)] h3) (seqK (fun tT h4 =>
ms (fun k3 =>
bareK (ixS 2 (get tT 6) (get tT 7)) h4 fun t19 h5 =>
bareK (fad 0 t19) h5 fun t20 h6 =>
bareK (ld1 h6 t20) h6 fun t21 h7 =>
enterK C F.law_Model_in [(get tT 0), t21] h7 fun t22 h8 =>
mc t22 (fun k4 => bareK (ixS 2 (get tT 6) (get tT 7)) h8 fun t26 h9 =>
bareK (ldN 2 h9 t26) h9 fun t27 h10 =>
bothK (bldL T.api_Pair [(.string (mk [])), (.string (mk []))] 1 [(0, t27)] h10) fun t28 h11 =>
bothK (app T.api_Pair 2 32 (get tT 5) (srcS 2 t28 h11) h11) fun t29 h12 =>
k4 .normal [(0, (get tT 0)), (5, t29), (6, (get tT 6)), (7, (get tT 7))] h12) (fun k4 =>
k4 .normal [(0, (get tT 0)), (5, (get tT 5)), (6, (get tT 6)), (7, (get tT 7))] h8) (blkK [0, 5, 6, 7] 1 k3)) (seqK (fun tT_1 h13 =>
bareK (xbin P .add T.int (.tmp 14) (.const (.int .i64 1)) (get tT_1 7) (.int .i64 1)) h13 fun t15 h14 =>
k .normal [(0, (get tT_1 0)), (5, (get tT_1 5)), (6, (get tT_1 6)), (7, t15)] h14) (afterK [0, 5, 6, 7] k))) (afterK [0, 5, 6, 7] k))

theorem s_law_Model_list_eq (M : CombL) (C : CallF) (LP : LoopH) (a0 : Value) (a1 : Value) (H : AHeap) : dBodyL M Try.prog hints C LP F.law_Model_list [a0, a1] H = s_law_Model_list M.b.g M.c M.s Try.prog C (fun v0 v5 v6 v7 H k => loopL M Try.prog hints C LP F.law_Model_list 0 [(0, v0), (5, v5), (6, v6), (7, v7)] H k) a0 a1 H (endK Try.prog [.tmp 4]) := by kernel_rfl

theorem s_law_Model_list_b0_eq (M : CombL) (C : CallF) (LP : LoopH) (v0 : Value) (v5 : Value) (v6 : Value) (v7 : Value) (H : AHeap) (k : K) : bodyL M Try.prog hints C LP F.law_Model_list 0 [(0, v0), (5, v5), (6, v6), (7, v7)] H (afterK [0, 5, 6, 7] k) = s_law_Model_list_b0 M.b.g M.c M.s Try.prog C (fun v0 v5 v6 v7 H k => loopL M Try.prog hints C LP F.law_Model_list 0 [(0, v0), (5, v5), (6, v6), (7, v7)] H k) v0 v5 v6 v7 H k := by kernel_rfl

/-! (*ticketline.ticketlinelaw42.Model).in -/

noncomputable def s_law_Model_in (mg : GT) (mc : CT) (ms : ST) (P : Program) (C : CallF) (a0 : Value) (a1 : Value) (H : AHeap) (K0 : K) : Res :=
bareK (xnilCheck a0) H fun t7 h1 =>
bareK (fad 0 t7) h1 fun t8 h2 =>
bareK (ld1 h2 t8) h2 fun t9 h3 =>
bareK (xbin P .geq T.string (.tmp 5) (.tmp 9) a1 t9) h3 fun t10 h4 =>
mg t10 true (fun o1 => o1 a0 h4) h4 fun t12 h5 =>
mg t10 true (fun o2 => bareK (xnilCheck t12) h5 o2) h5 fun t13 h6 =>
mg t10 true (fun o3 => bareK (fad 1 t13) h6 o3) h6 fun t14 h7 =>
mg t10 true (fun o4 => bareK (ld1 h7 t14) h7 o4) h7 fun t15 h8 =>
mg t10 true (fun o5 => bareK (xbin P .eql T.string (.tmp 15) (.const (.string (mk []))) t15 (.string (mk []))) h8 o5) h8 fun t16 h9 =>
mg t10 true (fun o6 => o6 t16 h9) h9 fun t17 h10 =>
mg t17 false (fun o7 => o7 a1 h10) h10 fun t18 h11 =>
mg t17 false (fun o8 => o8 a0 h11) h11 fun t19 h12 =>
mg t17 false (fun o9 => bareK (xnilCheck t19) h12 o9) h12 fun t20 h13 =>
mg t17 false (fun o10 => bareK (fad 1 t20) h13 o10) h13 fun t21 h14 =>
mg t17 false (fun o11 => bareK (ld1 h14 t21) h14 o11) h14 fun t22 h15 =>
mg t17 false (fun o12 => bareK (xbin P .lss T.string (.tmp 18) (.tmp 22) t18 t22) h15 o12) h15 fun t23 h16 =>
mg t10 true (fun o13 => pickK t17 (.bool true) t23 fun v => o13 v h16) h16 fun t24 h17 =>
pickK t10 t24 (.bool false) fun t25 =>
K0 .ret [(4, t25)] h17

theorem s_law_Model_in_eq (M : CombL) (C : CallF) (LP : LoopH) (a0 : Value) (a1 : Value) (H : AHeap) : dBodyL M Try.prog hints C LP F.law_Model_in [a0, a1] H = s_law_Model_in M.b.g M.c M.s Try.prog C a0 a1 H (endK Try.prog [.tmp 4]) := by kernel_rfl

/-! (*ticketline.model.Model).at -/

noncomputable def s_model_Model_at (mg : GT) (mc : CT) (ms : ST) (P : Program) (C : CallF) (a0 : Value) (a1 : Value) (a2 : Value) (H : AHeap) (K0 : K) : Res :=
bareK (xbin P .eql T.p_model_Model (.tmp 13) (.const (.pointer none)) a0 (.pointer none)) H fun t14 h1 =>
mc t14 (fun k1 => k1 .ret [(6, (.int .i64 0)), (7, (.bool false)), (8, (.int .i64 1))] h1) (fun k1 =>
k1 .normal [(0, a0), (1, a1), (2, a2)] h1) (seqK (fun tT h2 =>
enterK C F.model_check [(get tT 1), (get tT 2)] h2 fun t17 h3 =>
bareK (xbin P .neq T.api_Errno (.tmp 18) (.const (.int .i64 0)) t17 (.int .i64 0)) h3 fun t19 h4 =>
mc t19 (fun k2 => k2 .ret [(6, (.int .i64 0)), (7, (.bool false)), (8, t17)] h4) (fun k2 =>
k2 .normal [(0, (get tT 0)), (1, (get tT 1))] h4) (seqK (fun tT_1 h5 =>
callK P C (.func (.func F.model_Model_place) #[(get tT_1 0)] #[]) [(get tT_1 1)] h5 fun t26 h6 =>
bareK (xextract t26 0) h6 fun t27 h7 =>
bareK (xextract t26 1) h7 fun t28 h8 =>
K0 .ret [(6, t27), (7, t28), (8, (.int .i64 0))] h8) K0)) K0)

theorem s_model_Model_at_eq (M : CombL) (C : CallF) (LP : LoopH) (a0 : Value) (a1 : Value) (a2 : Value) (H : AHeap) : dBodyL M Try.prog hints C LP F.model_Model_at [a0, a1, a2] H = s_model_Model_at M.b.g M.c M.s Try.prog C a0 a1 a2 H (endK Try.prog [.tmp 6, .tmp 7, .tmp 8]) := by kernel_rfl

/-! (*ticketline.model.Model).set -/

noncomputable def s_model_Model_set (mg : GT) (mc : CT) (ms : ST) (P : Program) (C : CallF) (a0 : Value) (a1 : Value) (a2 : Value) (a3 : Value) (H : AHeap) (K0 : K) : Res :=
bothK (newv T.api_Pair a3 H) fun t7 h1 =>
ms (fun k1 =>
mc a2 (fun k2 => bareK (xnilCheck a0) h1 fun t23 h2 =>
bareK (fad 0 t23) h2 fun t24 h3 =>
bareK (ld1 h3 t24) h3 fun t25 h4 =>
bareK (ldN 2 h4 t7) h4 fun t27 h5 =>
bareK (ixS 2 t25 a1) h5 fun t28 h6 =>
quietK (stN 2 h6 t28 t27) fun _ h7 =>
checkK true <|
k2 .normal [] h7) (fun k2 =>
bareK (xnilCheck a0) h1 fun t31 h8 =>
bareK (fad 0 t31) h8 fun t32 h9 =>
bareK (ld1 h9 t32) h9 fun t33 h10 =>
bareK (lenS t33) h10 fun t34 h11 =>
bareK (xbin P .eql T.int (.tmp 34) (.const (.int .i64 20000)) t34 (.int .i64 20000)) h11 fun t35 h12 =>
mc t35 (fun k3 => k3 .ret [(8, (.int .i64 7))] h12) (fun k3 =>
bareK (xnilCheck a0) h12 fun t11 h13 =>
bareK (fad 0 t11) h13 fun t12 h14 =>
bareK (ld1 h14 t12) h14 fun t13 h15 =>
bareK (ldN 2 h15 t7) h15 fun t15 h16 =>
bothK (bldL T.api_Pair [(.string (mk [])), (.string (mk []))] 1 [(0, t15)] h16) fun t16 h17 =>
enterK C F.slices_Insert_Pair [t13, a1, t16] h17 fun t17 h18 =>
bareK (xnilCheck a0) h18 fun t18 h19 =>
bareK (fad 0 t18) h19 fun t19 h20 =>
quietK (st1 h20 t19 t17) fun _ h21 =>
checkK (okV (some true) none h17 h18 h12 h12 && true) <|
k3 .normal [] h21) (afterK [] k2)) (blkK [] 0 k1)) (seqK (fun tT h22 =>
K0 .ret [(8, (.int .i64 0))] h22) K0)

theorem s_model_Model_set_eq (M : CombL) (C : CallF) (LP : LoopH) (a0 : Value) (a1 : Value) (a2 : Value) (a3 : Value) (H : AHeap) : dBodyL M Try.prog hints C LP F.model_Model_set [a0, a1, a2, a3] H = s_model_Model_set M.b.g M.c M.s Try.prog C a0 a1 a2 a3 H (endK Try.prog [.tmp 8]) := by kernel_rfl

/-! (*ticketline.model.Model).place -/

noncomputable def s_model_Model_place (mg : GT) (mc : CT) (ms : ST) (P : Program) (C : CallF) (a0 : Value) (a1 : Value) (H : AHeap) (K0 : K) : Res :=
bareK (xnilCheck a0) H fun t7 h1 =>
bareK (fad 0 t7) h1 fun t8 h2 =>
bareK (ld1 h2 t8) h2 fun t9 h3 =>
enterK C F.slices_BinarySearchFunc_string [t9, a1, (.func (.func F.model_Model_place_1) #[] #[])] h3 fun t11 h4 =>
bareK (xextract t11 0) h4 fun t12 h5 =>
bareK (xextract t11 1) h5 fun t13 h6 =>
K0 .ret [(4, t12), (5, t13)] h6

theorem s_model_Model_place_eq (M : CombL) (C : CallF) (LP : LoopH) (a0 : Value) (a1 : Value) (H : AHeap) : dBodyL M Try.prog hints C LP F.model_Model_place [a0, a1] H = s_model_Model_place M.b.g M.c M.s Try.prog C a0 a1 H (endK Try.prog [.tmp 4, .tmp 5]) := by kernel_rfl

/-! slices.Delete[[]ticketline.api.Pair,ticketline.api.Pair] -/

noncomputable def s_slices_Delete_Pair (mg : GT) (mc : CT) (ms : ST) (P : Program) (C : CallF) (a0 : Value) (a1 : Value) (a2 : Value) (H : AHeap) (K0 : K) : Res :=
bareK (lenS a0) H fun t12 h1 =>
bareK (slS T.api_Pair 2 a0 (some a1) (some a2) (some t12) h1) h1 fun t13 h2 =>
bareK (xbin P .eql T.int (.tmp 14) (.tmp 15) a1 a2) h2 fun t16 h3 =>
mc t16 (fun k1 => k1 .ret [(6, a0)] h3) (fun k1 =>
k1 .normal [(0, a0), (1, a1), (2, a2)] h3) (seqK (fun tT h4 =>
bareK (lenS (get tT 0)) h4 fun t19 h5 =>
bareK (slS T.api_Pair 2 (get tT 0) none (some (get tT 1)) none h5) h5 fun t22 h6 =>
bareK (slS T.api_Pair 2 (get tT 0) (some (get tT 2)) none none h6) h6 fun t25 h7 =>
bothK (app T.api_Pair 2 32 t22 (srcS 2 t25 h7) h7) fun t26 h8 =>
checkK true <|
bareK (lenS t26) h8 fun t29 h9 =>
bareK (slS T.api_Pair 2 t26 (some t29) (some t19) none h9) h9 fun t31 h10 =>
bothK (xclear P [T.sl_api_Pair] t31 h10) fun _ h11 =>
K0 .ret [(6, t26)] h11) K0)

theorem s_slices_Delete_Pair_eq (M : CombL) (C : CallF) (LP : LoopH) (a0 : Value) (a1 : Value) (a2 : Value) (H : AHeap) : dBodyL M Try.prog hints C LP F.slices_Delete_Pair [a0, a1, a2] H = s_slices_Delete_Pair M.b.g M.c M.s Try.prog C a0 a1 a2 H (endK Try.prog [.tmp 6]) := by kernel_rfl

/-! (ticketline.cursor.span).pairs -/

noncomputable def s_cursor_span_pairs (mg : GT) (mc : CT) (ms : ST) (P : Program) (C : CallF) (a0 : Value) (a1 : Value) (H : AHeap) (K0 : K) : Res :=
bothK (newv T.cursor_span a0 H) fun t2 h1 =>
enterK C F.model_Model_Pairs [a1] h1 fun t9 h2 =>
bothK (newv T.sl_api_Pair (.slice none 0 0) h2) fun t5 h3 =>
quietK (st1 h3 t5 t9) fun _ h4 =>
bareK (ld1 h4 t5) h4 fun t10 h5 =>
bareK (lenS t10) h5 fun t11 h6 =>
enterK C F.sort_Search [t11, (.func (.func F.cursor_span_pairs_1) #[] #[t5, t2])] h6 fun t13 h7 =>
bareK (ld1 h7 t5) h7 fun t14 h8 =>
bareK (lenS t14) h8 fun t15 h9 =>
enterK C F.sort_Search [t15, (.func (.func F.cursor_span_pairs_2) #[] #[t2, t5])] h9 fun t17 h10 =>
bareK (ld1 h10 t5) h10 fun t18 h11 =>
nextK C h11 (xbuiltin P .max [T.int, T.int] [t13, t17] h11) fun t22 h12 =>
bareK (slS T.api_Pair 2 t18 (some t13) (some t22) none h12) h12 fun t23 h13 =>
K0 .ret [(4, t23)] h13

theorem s_cursor_span_pairs_eq (M : CombL) (C : CallF) (LP : LoopH) (a0 : Value) (a1 : Value) (H : AHeap) : dBodyL M Try.prog hints C LP F.cursor_span_pairs [a0, a1] H = s_cursor_span_pairs M.b.g M.c M.s Try.prog C a0 a1 H (endK Try.prog [.tmp 4]) := by kernel_rfl

/-! (*ticketline.cursor.Cursor).set -/

noncomputable def s_cursor_Cursor_set (mg : GT) (mc : CT) (ms : ST) (P : Program) (C : CallF) (a0 : Value) (a1 : Value) (a2 : Value) (a3 : Value) (H : AHeap) (K0 : K) : Res :=
bothK (newv T.api_Pair (.agg #[(.string (mk [])), (.string (mk []))]) H) fun t8 h1 =>
bareK (xbin P .lss T.int (.tmp 10) (.const (.int .i64 0)) a2 (.int .i64 0)) h1 fun t11 h2 =>
mg t11 false (fun o1 => o1 a2 h2) h2 fun t13 h3 =>
mg t11 false (fun o2 => o2 a1 h3) h3 fun t14 h4 =>
mg t11 false (fun o3 => bareK (lenS t14) h4 o3) h4 fun t15 h5 =>
mg t11 false (fun o4 => bareK (xbin P .geq T.int (.tmp 13) (.tmp 15) t13 t15) h5 o4) h5 fun t16 h6 =>
pickK t11 (.bool true) t16 fun t17 =>
mc t17 (fun k5 => bareK (xnilCheck a0) h6 fun t21 h7 =>
bareK (fad 2 t21) h7 fun t22 h8 =>
quietK (st1 h8 t22 a3) fun _ h9 =>
bareK (xnilCheck a0) h9 fun t23 h10 =>
bareK (fad 3 t23) h10 fun t24 h11 =>
quietK (st1 h11 t24 (.string (mk []))) fun _ h12 =>
bareK (bldS #[(.string (mk [])), (.string (mk []))] [(0, 1), (1, 1)] []) h12 fun t25 h13 =>
quietK (stN 2 h13 t8 t25) fun _ h14 =>
k5 .ret [(8, t8), (9, (.int .i64 17))] h14) (fun k5 =>
k5 .normal [(0, a0), (1, a1), (2, a2), (8, t8)] h6) (seqK (fun tT h15 =>
bareK (ixS 2 (get tT 1) (get tT 2)) h15 fun t30 h16 =>
bareK (fad 0 t30) h16 fun t31 h17 =>
bareK (ld1 h17 t31) h17 fun t32 h18 =>
bareK (xnilCheck (get tT 0)) h18 fun t33 h19 =>
bareK (fad 2 t33) h19 fun t34 h20 =>
quietK (st1 h20 t34 (.int .i64 2)) fun _ h21 =>
bareK (xnilCheck (get tT 0)) h21 fun t35 h22 =>
bareK (fad 3 t35) h22 fun t36 h23 =>
quietK (st1 h23 t36 t32) fun _ h24 =>
bareK (ixS 2 (get tT 1) (get tT 2)) h24 fun t39 h25 =>
bareK (ldN 2 h25 t39) h25 fun t40 h26 =>
quietK (stN 2 h26 (get tT 8) t40) fun _ h27 =>
K0 .ret [(8, (get tT 8)), (9, (.int .i64 0))] h27) K0)

theorem s_cursor_Cursor_set_eq (M : CombL) (C : CallF) (LP : LoopH) (a0 : Value) (a1 : Value) (a2 : Value) (a3 : Value) (H : AHeap) : dBodyL M Try.prog hints C LP F.cursor_Cursor_set [a0, a1, a2, a3] H = s_cursor_Cursor_set M.b.g M.c M.s Try.prog C a0 a1 a2 a3 H (endK Try.prog [.cell 8 T.api_Pair, .tmp 9]) := by kernel_rfl

/-! (*ticketline.cursor.Cursor).forward -/

noncomputable def s_cursor_Cursor_forward (mg : GT) (mc : CT) (ms : ST) (P : Program) (C : CallF) (a0 : Value) (a1 : Value) (H : AHeap) (K0 : K) : Res :=
bothK (newv T.p_cursor_Cursor a0 H) fun t2 h1 =>
bothK (newv T.sl_api_Pair a1 h1) fun t3 h2 =>
bareK (ld1 h2 t2) h2 fun t5 h3 =>
bareK (xnilCheck t5) h3 fun t6 h4 =>
bareK (fad 2 t6) h4 fun t7 h5 =>
bareK (ld1 h5 t7) h5 fun t8 h6 =>
ms (fun k1 =>
bareK (xbin P .eql T.cursor_side (.tmp 8) (.const (.int .i64 1)) t8 (.int .i64 1)) h6 fun t10 h7 =>
mc t10 (fun k2 => k2 .ret [(4, (.int .i64 0))] h7) (fun k2 =>
bareK (xbin P .eql T.cursor_side (.tmp 8) (.const (.int .i64 3)) t8 (.int .i64 3)) h7 fun t12 h8 =>
mc t12 (fun k3 => bareK (ld1 h8 t3) h8 fun t13 h9 =>
bareK (lenS t13) h9 fun t14 h10 =>
k3 .ret [(4, t14)] h10) (fun k3 =>
k3 .normal [(2, t2), (3, t3)] h8) (afterK [2, 3] k2)) (blkK [2, 3] 0 k1)) (seqK (fun tT h11 =>
bareK (ld1 h11 (get tT 3)) h11 fun t15 h12 =>
bareK (lenS t15) h12 fun t16 h13 =>
enterK C F.sort_Search [t16, (.func (.func F.cursor_Cursor_forward_1) #[] #[(get tT 3), (get tT 2)])] h13 fun t18 h14 =>
K0 .ret [(4, t18)] h14) K0)

theorem s_cursor_Cursor_forward_eq (M : CombL) (C : CallF) (LP : LoopH) (a0 : Value) (a1 : Value) (H : AHeap) : dBodyL M Try.prog hints C LP F.cursor_Cursor_forward [a0, a1] H = s_cursor_Cursor_forward M.b.g M.c M.s Try.prog C a0 a1 H (endK Try.prog [.tmp 4]) := by kernel_rfl

/-! slices.Clone[[]ticketline.api.Pair,ticketline.api.Pair] -/

noncomputable def s_slices_Clone_Pair (mg : GT) (mc : CT) (ms : ST) (P : Program) (C : CallF) (a0 : Value) (H : AHeap) (K0 : K) : Res :=
bareK (xbin P .eql T.sl_api_Pair (.tmp 3) (.const (.slice none 0 0)) a0 (.slice none 0 0)) H fun t4 h1 =>
mc t4 (fun k1 => k1 .ret [(2, (.slice none 0 0))] h1) (fun k1 =>
k1 .normal [(0, a0)] h1) (seqK (fun tT h2 =>
bothK (bldL T.api_Pair [(.string (mk [])), (.string (mk []))] 0 [] h2) fun t5 h3 =>
bothK (app T.api_Pair 2 32 t5 (srcS 2 (get tT 0) h3) h3) fun t7 h4 =>
K0 .ret [(2, t7)] h4) K0)

theorem s_slices_Clone_Pair_eq (M : CombL) (C : CallF) (LP : LoopH) (a0 : Value) (H : AHeap) : dBodyL M Try.prog hints C LP F.slices_Clone_Pair [a0] H = s_slices_Clone_Pair M.b.g M.c M.s Try.prog C a0 H (endK Try.prog [.tmp 2]) := by kernel_rfl

/-! ticketline.model.check -/

noncomputable def s_model_check (mg : GT) (mc : CT) (ms : ST) (P : Program) (C : CallF) (a0 : Value) (a1 : Value) (H : AHeap) (K0 : K) : Res :=
ms (fun k1 =>
bareK (xbin P .eql T.string (.tmp 6) (.const (.string (mk []))) a0 (.string (mk []))) H fun t7 h1 =>
mc t7 (fun k2 => k2 .ret [(4, (.int .i64 2))] h1) (fun k2 =>
bareK (lenT a0) h1 fun t10 h2 =>
bareK (xbin P .gtr T.int (.tmp 10) (.const (.int .i64 24)) t10 (.int .i64 24)) h2 fun t11 h3 =>
mg t11 false (fun o3 => o3 a1 h3) h3 fun t13 h4 =>
mg t11 false (fun o4 => enterK C F.slices_ContainsFunc_string [t13, (.func (.func F.model_check_1) #[] #[])] h4 o4) h4 fun t14 h5 =>
pickK t11 (.bool true) t14 fun t15 =>
mc t15 (fun k5 => k5 .ret [(4, (.int .i64 5))] h5) (fun k5 =>
k5 .normal [] h5) (afterK [] k2)) (blkK [] 0 k1)) (seqK (fun tT h6 =>
K0 .ret [(4, (.int .i64 0))] h6) K0)

theorem s_model_check_eq (M : CombL) (C : CallF) (LP : LoopH) (a0 : Value) (a1 : Value) (H : AHeap) : dBodyL M Try.prog hints C LP F.model_check [a0, a1] H = s_model_check M.b.g M.c M.s Try.prog C a0 a1 H (endK Try.prog [.tmp 4]) := by kernel_rfl

/-! strings.Compare -/

noncomputable def s_strings_Compare (mg : GT) (mc : CT) (ms : ST) (P : Program) (C : CallF) (a0 : Value) (a1 : Value) (H : AHeap) (K0 : K) : Res :=
enterK C F.internal_bytealg_CompareString [a0, a1] H fun t7 h1 =>
K0 .ret [(4, t7)] h1

theorem s_strings_Compare_eq (M : CombL) (C : CallF) (LP : LoopH) (a0 : Value) (a1 : Value) (H : AHeap) : dBodyL M Try.prog hints C LP F.strings_Compare [a0, a1] H = s_strings_Compare M.b.g M.c M.s Try.prog C a0 a1 H (endK Try.prog [.tmp 4]) := by kernel_rfl

/-! sort.Search -/

noncomputable def s_sort_Search (mg : GT) (mc : CT) (ms : ST) (P : Program) (C : CallF) (L0 : Value → Value → Value → AHeap → K → Res) (a0 : Value) (a1 : Value) (H : AHeap) (K0 : K) : Res :=
ms (fun k1 =>
L0 a1 (.int .i64 0) a0 H (blkK [5] 0 k1)) (seqK (fun tT h1 =>
K0 .ret [(4, (get tT 5))] h1) K0)

noncomputable def s_sort_Search_b0 (mg : GT) (mc : CT) (ms : ST) (P : Program) (C : CallF) (L0 : Value → Value → Value → AHeap → K → Res) (v1 : Value) (v5 : Value) (v6 : Value) (H : AHeap) (k : K) : Res :=
bareK (xbin P .lss T.int (.tmp 9) (.tmp 10) v5 v6) H fun t11 h1 =>
mc t11 (fun k2 => k2 .normal [(1, v1), (5, v5), (6, v6)] h1) (fun k2 =>
k2 (.exit 0) [(11, t11), (10, v6), (9, v5), (1, v1), (5, v5), (6, v6)] h1) (seqK (fun tT h2 =>
ms (fun k3 =>
bareK (xbin P .add T.int (.tmp 12) (.tmp 13) (get tT 5) (get tT 6)) h2 fun t14 h3 =>
bothK (xconv P T.int T.uint t14 h3) fun t15 h4 =>
bareK (xbin P .shr T.uint (.tmp 15) (.const (.int .u64 1)) t15 (.int .u64 1)) h4 fun t16 h5 =>
bothK (xconv P T.uint T.int t16 h5) fun t17 h6 =>
callK P C (get tT 1) [t17] h6 fun t20 h7 =>
bareK (xun P .not t20) h7 fun t21 h8 =>
mc t21 (fun k4 => bareK (xbin P .add T.int (.tmp 22) (.const (.int .i64 1)) t17 (.int .i64 1)) h8 fun t23 h9 =>
k4 .normal [(1, (get tT 1)), (5, t23), (6, (get tT 6))] h9) (fun k4 =>
k4 .normal [(1, (get tT 1)), (5, (get tT 5)), (6, t17)] h8) (blkK [1, 5, 6] 1 k3)) (afterK [1, 5, 6] k)) (afterK [1, 5, 6] k))

theorem s_sort_Search_eq (M : CombL) (C : CallF) (LP : LoopH) (a0 : Value) (a1 : Value) (H : AHeap) : dBodyL M Try.prog hints C LP F.sort_Search [a0, a1] H = s_sort_Search M.b.g M.c M.s Try.prog C (fun v1 v5 v6 H k => loopL M Try.prog hints C LP F.sort_Search 0 [(1, v1), (5, v5), (6, v6)] H k) a0 a1 H (endK Try.prog [.tmp 4]) := by kernel_rfl

theorem s_sort_Search_b0_eq (M : CombL) (C : CallF) (LP : LoopH) (v1 : Value) (v5 : Value) (v6 : Value) (H : AHeap) (k : K) : bodyL M Try.prog hints C LP F.sort_Search 0 [(1, v1), (5, v5), (6, v6)] H (afterK [1, 5, 6] k) = s_sort_Search_b0 M.b.g M.c M.s Try.prog C (fun v1 v5 v6 H k => loopL M Try.prog hints C LP F.sort_Search 0 [(1, v1), (5, v5), (6, v6)] H k) v1 v5 v6 H k := by kernel_rfl

/-! (*ticketline.cursor.Cursor).Prev$1 -/

noncomputable def s_cursor_Cursor_Prev_1 (mg : GT) (mc : CT) (ms : ST) (P : Program) (C : CallF) (a0 : Value) (a1 : Value) (a2 : Value) (H : AHeap) (K0 : K) : Res :=
bareK (ld1 H a1) H fun t5 h1 =>
bareK (ixS 2 t5 a0) h1 fun t7 h2 =>
bareK (fad 0 t7) h2 fun t8 h3 =>
bareK (ld1 h3 t8) h3 fun t9 h4 =>
bareK (ld1 h4 a2) h4 fun t10 h5 =>
bareK (xnilCheck t10) h5 fun t11 h6 =>
bareK (fad 3 t11) h6 fun t12 h7 =>
bareK (ld1 h7 t12) h7 fun t13 h8 =>
bareK (xbin P .geq T.string (.tmp 9) (.tmp 13) t9 t13) h8 fun t14 h9 =>
checkK true <|
K0 .ret [(4, t14)] h9

theorem s_cursor_Cursor_Prev_1_eq (M : CombL) (C : CallF) (LP : LoopH) (a0 : Value) (a1 : Value) (a2 : Value) (H : AHeap) : dBodyL M Try.prog hints C LP F.cursor_Cursor_Prev_1 [a0, a1, a2] H = s_cursor_Cursor_Prev_1 M.b.g M.c M.s Try.prog C a0 a1 a2 H (endK Try.prog [.tmp 4]) := by kernel_rfl

/-! (ticketline.cursor.span).has -/

noncomputable def s_cursor_span_has (mg : GT) (mc : CT) (ms : ST) (P : Program) (C : CallF) (a0 : Value) (a1 : Value) (H : AHeap) (K0 : K) : Res :=
bothK (newv T.cursor_span a0 H) fun t2 h1 =>
bareK (fad 0 t2) h1 fun t6 h2 =>
bareK (ld1 h2 t6) h2 fun t7 h3 =>
bareK (xbin P .geq T.string (.tmp 5) (.tmp 7) a1 t7) h3 fun t8 h4 =>
mg t8 true (fun o1 => bareK (fad 1 t2) h4 o1) h4 fun t10 h5 =>
mg t8 true (fun o2 => bareK (ld1 h5 t10) h5 o2) h5 fun t11 h6 =>
mg t8 true (fun o3 => bareK (xbin P .eql T.string (.tmp 11) (.const (.string (mk []))) t11 (.string (mk []))) h6 o3) h6 fun t12 h7 =>
mg t8 true (fun o4 => o4 t12 h7) h7 fun t13 h8 =>
mg t13 false (fun o5 => o5 a1 h8) h8 fun t14 h9 =>
mg t13 false (fun o6 => bareK (fad 1 t2) h9 o6) h9 fun t15 h10 =>
mg t13 false (fun o7 => bareK (ld1 h10 t15) h10 o7) h10 fun t16 h11 =>
mg t13 false (fun o8 => bareK (xbin P .lss T.string (.tmp 14) (.tmp 16) t14 t16) h11 o8) h11 fun t17 h12 =>
mg t8 true (fun o9 => pickK t13 (.bool true) t17 fun v => o9 v h12) h12 fun t18 h13 =>
pickK t8 t18 (.bool false) fun t19 =>
K0 .ret [(4, t19)] h13

theorem s_cursor_span_has_eq (M : CombL) (C : CallF) (LP : LoopH) (a0 : Value) (a1 : Value) (H : AHeap) : dBodyL M Try.prog hints C LP F.cursor_span_has [a0, a1] H = s_cursor_span_has M.b.g M.c M.s Try.prog C a0 a1 H (endK Try.prog [.tmp 4]) := by kernel_rfl

/-! (*ticketline.cursor.Cursor).Seek$1 -/

noncomputable def s_cursor_Cursor_Seek_1 (mg : GT) (mc : CT) (ms : ST) (P : Program) (C : CallF) (a0 : Value) (a1 : Value) (a2 : Value) (H : AHeap) (K0 : K) : Res :=
bareK (ld1 H a1) H fun t5 h1 =>
bareK (ixS 2 t5 a0) h1 fun t7 h2 =>
bareK (fad 0 t7) h2 fun t8 h3 =>
bareK (ld1 h3 t8) h3 fun t9 h4 =>
bareK (ld1 h4 a2) h4 fun t10 h5 =>
bareK (xbin P .geq T.string (.tmp 9) (.tmp 10) t9 t10) h5 fun t11 h6 =>
checkK true <|
K0 .ret [(4, t11)] h6

theorem s_cursor_Cursor_Seek_1_eq (M : CombL) (C : CallF) (LP : LoopH) (a0 : Value) (a1 : Value) (a2 : Value) (H : AHeap) : dBodyL M Try.prog hints C LP F.cursor_Cursor_Seek_1 [a0, a1, a2] H = s_cursor_Cursor_Seek_1 M.b.g M.c M.s Try.prog C a0 a1 a2 H (endK Try.prog [.tmp 4]) := by kernel_rfl

/-! slices.Insert[[]ticketline.api.Pair,ticketline.api.Pair] -/

noncomputable def s_slices_Insert_Pair (mg : GT) (mc : CT) (ms : ST) (P : Program) (C : CallF) (a0 : Value) (a1 : Value) (a2 : Value) (H : AHeap) (K0 : K) : Res :=
bareK (slS T.api_Pair 2 a0 (some a1) none none H) H fun t12 h1 =>
bareK (lenS a2) h1 fun t14 h2 =>
bareK (xbin P .eql T.int (.tmp 15) (.const (.int .i64 0)) t14 (.int .i64 0)) h2 fun t16 h3 =>
mc t16 (fun k1 => k1 .ret [(6, a0)] h3) (fun k1 =>
k1 .normal [(0, a0), (1, a1), (2, a2), (7, t14)] h3) (seqK (fun tT h4 =>
bareK (lenS (get tT 0)) h4 fun t19 h5 =>
bareK (xbin P .eql T.int (.tmp 20) (.tmp 21) (get tT 1) t19) h5 fun t22 h6 =>
mc t22 (fun k2 => bothK (app T.api_Pair 2 32 (get tT 0) (srcS 2 (get tT 2) h6) h6) fun t25 h7 =>
k2 .ret [(6, t25)] h7) (fun k2 =>
k2 .normal [(0, (get tT 0)), (1, (get tT 1)), (2, (get tT 2)), (7, (get tT 7)), (8, t19)] h6) (seqK (fun tT_1 h8 =>
bareK (xbin P .add T.int (.tmp 26) (.tmp 27) (get tT_1 8) (get tT_1 7)) h8 fun t28 h9 =>
nextK C h9 (xbuiltin P .cap [T.sl_api_Pair] [(get tT_1 0)] h9) fun t30 h10 =>
bareK (xbin P .gtr T.int (.tmp 28) (.tmp 30) t28 t30) h10 fun t31 h11 =>
mc t31 (fun k3 => bareK (slS T.api_Pair 2 (get tT_1 0) none (some (get tT_1 1)) none h11) h11 fun t34 h12 =>
bareK (xbin P .add T.int (.tmp 35) (.tmp 36) (get tT_1 8) (get tT_1 7)) h12 fun t37 h13 =>
bareK (xbin P .sub T.int (.tmp 37) (.tmp 38) t37 (get tT_1 1)) h13 fun t39 h14 =>
bothK (app T.api_Pair 2 32 t34 (srcZ [(.string (mk [])), (.string (mk []))] 32 t39) h14) fun t40 h15 =>
bareK (slS T.api_Pair 2 t40 (some (get tT_1 1)) none none h15) h15 fun t43 h16 =>
bothK (cpy 2 t43 (get tT_1 2) h16) fun t45 h17 =>
bareK (xbin P .add T.int (.tmp 47) (.tmp 48) (get tT_1 1) (get tT_1 7)) h17 fun t49 h18 =>
bareK (slS T.api_Pair 2 t40 (some t49) none none h18) h18 fun t50 h19 =>
bareK (slS T.api_Pair 2 (get tT_1 0) (some (get tT_1 1)) none none h19) h19 fun t53 h20 =>
bothK (cpy 2 t50 t53 h20) fun t54 h21 =>
checkK true <|
k3 .ret [(6, t40)] h21) (fun k3 =>
k3 .normal [(0, (get tT_1 0)), (1, (get tT_1 1)), (2, (get tT_1 2)), (7, (get tT_1 7)), (8, (get tT_1 8))] h11) (seqK (fun tT_2 h22 =>
bareK (xbin P .add T.int (.tmp 57) (.tmp 58) (get tT_2 8) (get tT_2 7)) h22 fun t59 h23 =>
bareK (slS T.api_Pair 2 (get tT_2 0) none (some t59) none h23) h23 fun t60 h24 =>
bareK (xbin P .add T.int (.tmp 63) (.tmp 64) (get tT_2 1) (get tT_2 7)) h24 fun t65 h25 =>
bareK (slS T.api_Pair 2 t60 (some t65) none none h25) h25 fun t66 h26 =>
bareK (xext P Try.f64 [(get tT_2 2), t66] h26) h26 fun t67 h27 =>
bareK (xun P .not t67) h27 fun t68 h28 =>
mc t68 (fun k4 => bareK (xbin P .add T.int (.tmp 70) (.tmp 71) (get tT_2 1) (get tT_2 7)) h28 fun t72 h29 =>
bareK (slS T.api_Pair 2 t60 (some t72) none none h29) h29 fun t73 h30 =>
bareK (slS T.api_Pair 2 t60 (some (get tT_2 1)) none none h30) h30 fun t76 h31 =>
bothK (cpy 2 t73 t76 h31) fun t77 h32 =>
checkK true <|
bareK (slS T.api_Pair 2 t60 (some (get tT_2 1)) none none h32) h32 fun t80 h33 =>
bothK (cpy 2 t80 (get tT_2 2) h33) fun t82 h34 =>
k4 .ret [(6, t60)] h34) (fun k4 =>
k4 .normal [(0, t60), (1, (get tT_2 1)), (2, (get tT_2 2)), (7, (get tT_2 7)), (8, (get tT_2 8))] h28) (seqK (fun tT_3 h35 =>
bareK (slS T.api_Pair 2 (get tT_3 0) (some (get tT_3 8)) none none h35) h35 fun t86 h36 =>
bothK (cpy 2 t86 (get tT_3 2) h36) fun t88 h37 =>
bareK (slS T.api_Pair 2 (get tT_3 0) (some (get tT_3 1)) none none h37) h37 fun t91 h38 =>
enterK C F.slices_rotateRight_Pair [t91, (get tT_3 7)] h38 fun t93 h39 =>
K0 .ret [(6, (get tT_3 0))] h39) K0)) K0)) K0)) K0)

theorem s_slices_Insert_Pair_eq (M : CombL) (C : CallF) (LP : LoopH) (a0 : Value) (a1 : Value) (a2 : Value) (H : AHeap) : dBodyL M Try.prog hints C LP F.slices_Insert_Pair [a0, a1, a2] H = s_slices_Insert_Pair M.b.g M.c M.s Try.prog C a0 a1 a2 H (endK Try.prog [.tmp 6]) := by kernel_rfl

/-! slices.BinarySearchFunc[[]ticketline.api.Pair,ticketline.api.Pair,string] -/

noncomputable def s_slices_BinarySearchFunc_string (mg : GT) (mc : CT) (ms : ST) (P : Program) (C : CallF) (L0 : Value → Value → Value → Value → Value → Value → AHeap → K → Res) (a0 : Value) (a1 : Value) (a2 : Value) (H : AHeap) (K0 : K) : Res :=
bareK (lenS a0) H fun t13 h1 =>
ms (fun k1 =>
L0 a0 a1 a2 t13 (.int .i64 0) t13 h1 (blkK [0, 1, 2, 8, 9] 0 k1)) (seqK (fun tT h2 =>
bareK (xbin P .lss T.int (.tmp 36) (.tmp 37) (get tT 9) (get tT 8)) h2 fun t38 h3 =>
mg t38 true (fun o2 => o2 (get tT 2) h3) h3 fun t40 h4 =>
mg t38 true (fun o3 => o3 (get tT 0) h4) h4 fun t41 h5 =>
mg t38 true (fun o4 => o4 (get tT 9) h5) h5 fun t42 h6 =>
mg t38 true (fun o5 => bareK (ixS 2 t41 t42) h6 o5) h6 fun t43 h7 =>
mg t38 true (fun o6 => bareK (ldN 2 h7 t43) h7 o6) h7 fun t44 h8 =>
mg t38 true (fun o7 => o7 (get tT 1) h8) h8 fun t45 h9 =>
mg t38 true (fun o8 => callK P C t40 [t44, t45] h9 o8) h9 fun t46 h10 =>
mg t38 true (fun o9 => bareK (xbin P .eql T.int (.tmp 46) (.const (.int .i64 0)) t46 (.int .i64 0)) h10 o9) h10 fun t47 h11 =>
pickK t38 t47 (.bool false) fun t48 =>
K0 .ret [(6, (get tT 9)), (7, t48)] h11) K0)

noncomputable def s_slices_BinarySearchFunc_string_b0 (mg : GT) (mc : CT) (ms : ST) (P : Program) (C : CallF) (L0 : Value → Value → Value → Value → Value → Value → AHeap → K → Res) (v0 : Value) (v1 : Value) (v2 : Value) (v8 : Value) (v9 : Value) (v10 : Value) (H : AHeap) (k : K) : Res :=
bareK (xbin P .lss T.int (.tmp 15) (.tmp 16) v9 v10) H fun t17 h2 =>
mc t17 (fun k2 => k2 .normal [(0, v0), (1, v1), (2, v2), (8, v8), (9, v9), (10, v10)] h2) (fun k2 =>
k2 (.exit 0) [(17, t17), (16, v10), (15, v9), (0, v0), (1, v1), (2, v2), (8, v8), (9, v9), (10, v10)] h2) (seqK (fun tT h3 =>
ms (fun k3 =>
bareK (xbin P .add T.int (.tmp 18) (.tmp 19) (get tT 9) (get tT 10)) h3 fun t20 h4 =>
bothK (xconv P T.int T.uint t20 h4) fun t21 h5 =>
bareK (xbin P .shr T.uint (.tmp 21) (.const (.int .u64 1)) t21 (.int .u64 1)) h5 fun t22 h6 =>
bothK (xconv P T.uint T.int t22 h6) fun t23 h7 =>
bareK (ixS 2 (get tT 0) t23) h7 fun t27 h8 =>
bareK (ldN 2 h8 t27) h8 fun t28 h9 =>
callK P C (get tT 2) [t28, (get tT 1)] h9 fun t30 h10 =>
bareK (xbin P .lss T.int (.tmp 30) (.const (.int .i64 0)) t30 (.int .i64 0)) h10 fun t31 h11 =>
mc t31 (fun k4 => bareK (xbin P .add T.int (.tmp 32) (.const (.int .i64 1)) t23 (.int .i64 1)) h11 fun t33 h12 =>
k4 .normal [(0, (get tT 0)), (1, (get tT 1)), (2, (get tT 2)), (8, (get tT 8)), (9, t33), (10, (get tT 10))] h12) (fun k4 =>
k4 .normal [(0, (get tT 0)), (1, (get tT 1)), (2, (get tT 2)), (8, (get tT 8)), (9, (get tT 9)), (10, t23)] h11) (blkK [0, 1, 2, 8, 9, 10] 1 k3)) (afterK [0, 1, 2, 8, 9, 10] k)) (afterK [0, 1, 2, 8, 9, 10] k))

theorem s_slices_BinarySearchFunc_string_eq (M : CombL) (C : CallF) (LP : LoopH) (a0 : Value) (a1 : Value) (a2 : Value) (H : AHeap) : dBodyL M Try.prog hints C LP F.slices_BinarySearchFunc_string [a0, a1, a2] H = s_slices_BinarySearchFunc_string M.b.g M.c M.s Try.prog C (fun v0 v1 v2 v8 v9 v10 H k => loopL M Try.prog hints C LP F.slices_BinarySearchFunc_string 0 [(0, v0), (1, v1), (2, v2), (8, v8), (9, v9), (10, v10)] H k) a0 a1 a2 H (endK Try.prog [.tmp 6, .tmp 7]) := by kernel_rfl

theorem s_slices_BinarySearchFunc_string_b0_eq (M : CombL) (C : CallF) (LP : LoopH) (v0 : Value) (v1 : Value) (v2 : Value) (v8 : Value) (v9 : Value) (v10 : Value) (H : AHeap) (k : K) : bodyL M Try.prog hints C LP F.slices_BinarySearchFunc_string 0 [(0, v0), (1, v1), (2, v2), (8, v8), (9, v9), (10, v10)] H (afterK [0, 1, 2, 8, 9, 10] k) = s_slices_BinarySearchFunc_string_b0 M.b.g M.c M.s Try.prog C (fun v0 v1 v2 v8 v9 v10 H k => loopL M Try.prog hints C LP F.slices_BinarySearchFunc_string 0 [(0, v0), (1, v1), (2, v2), (8, v8), (9, v9), (10, v10)] H k) v0 v1 v2 v8 v9 v10 H k := by kernel_rfl

/-! (*ticketline.model.Model).place$1 -/

noncomputable def s_model_Model_place_1 (mg : GT) (mc : CT) (ms : ST) (P : Program) (C : CallF) (a0 : Value) (a1 : Value) (H : AHeap) (K0 : K) : Res :=
bothK (newv T.api_Pair a0 H) fun t2 h1 =>
bareK (fad 0 t2) h1 fun t5 h2 =>
bareK (ld1 h2 t5) h2 fun t6 h3 =>
enterK C F.keys_Compare [t6, a1] h3 fun t8 h4 =>
K0 .ret [(4, t8)] h4

theorem s_model_Model_place_1_eq (M : CombL) (C : CallF) (LP : LoopH) (a0 : Value) (a1 : Value) (H : AHeap) : dBodyL M Try.prog hints C LP F.model_Model_place_1 [a0, a1] H = s_model_Model_place_1 M.b.g M.c M.s Try.prog C a0 a1 H (endK Try.prog [.tmp 4]) := by kernel_rfl

/-! (ticketline.cursor.span).pairs$1 -/

noncomputable def s_cursor_span_pairs_1 (mg : GT) (mc : CT) (ms : ST) (P : Program) (C : CallF) (a0 : Value) (a1 : Value) (a2 : Value) (H : AHeap) (K0 : K) : Res :=
bareK (ld1 H a1) H fun t5 h1 =>
bareK (ixS 2 t5 a0) h1 fun t7 h2 =>
bareK (fad 0 t7) h2 fun t8 h3 =>
bareK (ld1 h3 t8) h3 fun t9 h4 =>
bareK (fad 0 a2) h4 fun t10 h5 =>
bareK (ld1 h5 t10) h5 fun t11 h6 =>
bareK (xbin P .geq T.string (.tmp 9) (.tmp 11) t9 t11) h6 fun t12 h7 =>
checkK true <|
K0 .ret [(4, t12)] h7

theorem s_cursor_span_pairs_1_eq (M : CombL) (C : CallF) (LP : LoopH) (a0 : Value) (a1 : Value) (a2 : Value) (H : AHeap) : dBodyL M Try.prog hints C LP F.cursor_span_pairs_1 [a0, a1, a2] H = s_cursor_span_pairs_1 M.b.g M.c M.s Try.prog C a0 a1 a2 H (endK Try.prog [.tmp 4]) := by kernel_rfl

/-! (ticketline.cursor.span).pairs$2 -/

noncomputable def s_cursor_span_pairs_2 (mg : GT) (mc : CT) (ms : ST) (P : Program) (C : CallF) (a0 : Value) (a1 : Value) (a2 : Value) (H : AHeap) (K0 : K) : Res :=
bareK (fad 1 a1) H fun t5 h1 =>
bareK (ld1 h1 t5) h1 fun t6 h2 =>
bareK (xbin P .neq T.string (.tmp 6) (.const (.string (mk []))) t6 (.string (mk []))) h2 fun t7 h3 =>
mg t7 true (fun o1 => bareK (ld1 h3 a2) h3 o1) h3 fun t9 h4 =>
mg t7 true (fun o2 => o2 a0 h4) h4 fun t10 h5 =>
mg t7 true (fun o3 => bareK (ixS 2 t9 t10) h5 o3) h5 fun t11 h6 =>
mg t7 true (fun o4 => bareK (fad 0 t11) h6 o4) h6 fun t12 h7 =>
mg t7 true (fun o5 => bareK (ld1 h7 t12) h7 o5) h7 fun t13 h8 =>
mg t7 true (fun o6 => bareK (fad 1 a1) h8 o6) h8 fun t14 h9 =>
mg t7 true (fun o7 => bareK (ld1 h9 t14) h9 o7) h9 fun t15 h10 =>
mg t7 true (fun o8 => bareK (xbin P .geq T.string (.tmp 13) (.tmp 15) t13 t15) h10 o8) h10 fun t16 h11 =>
pickK t7 t16 (.bool false) fun t17 =>
checkK true <|
K0 .ret [(4, t17)] h11

theorem s_cursor_span_pairs_2_eq (M : CombL) (C : CallF) (LP : LoopH) (a0 : Value) (a1 : Value) (a2 : Value) (H : AHeap) : dBodyL M Try.prog hints C LP F.cursor_span_pairs_2 [a0, a1, a2] H = s_cursor_span_pairs_2 M.b.g M.c M.s Try.prog C a0 a1 a2 H (endK Try.prog [.tmp 4]) := by kernel_rfl

/-! (*ticketline.cursor.Cursor).forward$1 -/

noncomputable def s_cursor_Cursor_forward_1 (mg : GT) (mc : CT) (ms : ST) (P : Program) (C : CallF) (a0 : Value) (a1 : Value) (a2 : Value) (H : AHeap) (K0 : K) : Res :=
bareK (ld1 H a1) H fun t5 h1 =>
bareK (ixS 2 t5 a0) h1 fun t7 h2 =>
bareK (fad 0 t7) h2 fun t8 h3 =>
bareK (ld1 h3 t8) h3 fun t9 h4 =>
bareK (ld1 h4 a2) h4 fun t10 h5 =>
bareK (xnilCheck t10) h5 fun t11 h6 =>
bareK (fad 3 t11) h6 fun t12 h7 =>
bareK (ld1 h7 t12) h7 fun t13 h8 =>
bareK (xbin P .gtr T.string (.tmp 9) (.tmp 13) t9 t13) h8 fun t14 h9 =>
checkK true <|
K0 .ret [(4, t14)] h9

theorem s_cursor_Cursor_forward_1_eq (M : CombL) (C : CallF) (LP : LoopH) (a0 : Value) (a1 : Value) (a2 : Value) (H : AHeap) : dBodyL M Try.prog hints C LP F.cursor_Cursor_forward_1 [a0, a1, a2] H = s_cursor_Cursor_forward_1 M.b.g M.c M.s Try.prog C a0 a1 a2 H (endK Try.prog [.tmp 4]) := by kernel_rfl

/-! slices.ContainsFunc[[]string,string] -/

noncomputable def s_slices_ContainsFunc_string (mg : GT) (mc : CT) (ms : ST) (P : Program) (C : CallF) (a0 : Value) (a1 : Value) (H : AHeap) (K0 : K) : Res :=
enterK C F.slices_IndexFunc_string [a0, a1] H fun t7 h1 =>
bareK (xbin P .geq T.int (.tmp 7) (.const (.int .i64 0)) t7 (.int .i64 0)) h1 fun t8 h2 =>
K0 .ret [(4, t8)] h2

theorem s_slices_ContainsFunc_string_eq (M : CombL) (C : CallF) (LP : LoopH) (a0 : Value) (a1 : Value) (H : AHeap) : dBodyL M Try.prog hints C LP F.slices_ContainsFunc_string [a0, a1] H = s_slices_ContainsFunc_string M.b.g M.c M.s Try.prog C a0 a1 H (endK Try.prog [.tmp 4]) := by kernel_rfl

/-! ticketline.model.check$1 -/

noncomputable def s_model_check_1 (mg : GT) (mc : CT) (ms : ST) (P : Program) (C : CallF) (a0 : Value) (H : AHeap) (K0 : K) : Res :=
bareK (lenT a0) H fun t4 h1 =>
bareK (xbin P .gtr T.int (.tmp 4) (.const (.int .i64 40)) t4 (.int .i64 40)) h1 fun t5 h2 =>
K0 .ret [(2, t5)] h2

theorem s_model_check_1_eq (M : CombL) (C : CallF) (LP : LoopH) (a0 : Value) (H : AHeap) : dBodyL M Try.prog hints C LP F.model_check_1 [a0] H = s_model_check_1 M.b.g M.c M.s Try.prog C a0 H (endK Try.prog [.tmp 2]) := by kernel_rfl

/-! internal.bytealg.CompareString -/

noncomputable def s_internal_bytealg_CompareString (mg : GT) (mc : CT) (ms : ST) (P : Program) (C : CallF) (a0 : Value) (a1 : Value) (H : AHeap) (K0 : K) : Res :=
bareK (xext P Try.f67 [a0, a1] H) H fun t7 h1 =>
K0 .ret [(4, t7)] h1

theorem s_internal_bytealg_CompareString_eq (M : CombL) (C : CallF) (LP : LoopH) (a0 : Value) (a1 : Value) (H : AHeap) : dBodyL M Try.prog hints C LP F.internal_bytealg_CompareString [a0, a1] H = s_internal_bytealg_CompareString M.b.g M.c M.s Try.prog C a0 a1 H (endK Try.prog [.tmp 4]) := by kernel_rfl

/-! slices.rotateRight[ticketline.api.Pair] -/

noncomputable def s_slices_rotateRight_Pair (mg : GT) (mc : CT) (ms : ST) (P : Program) (C : CallF) (a0 : Value) (a1 : Value) (H : AHeap) (K0 : K) : Res :=
bareK (lenS a0) H fun t6 h1 =>
bareK (xbin P .sub T.int (.tmp 6) (.tmp 7) t6 a1) h1 fun t8 h2 =>
enterK C F.slices_rotateLeft_Pair [a0, t8] h2 fun t9 h3 =>
K0 .normal [(9, t9), (8, t8), (7, a1), (6, t6), (5, a0), (4, a0), (0, a0), (1, a1)] h3

theorem s_slices_rotateRight_Pair_eq (M : CombL) (C : CallF) (LP : LoopH) (a0 : Value) (a1 : Value) (H : AHeap) : dBodyL M Try.prog hints C LP F.slices_rotateRight_Pair [a0, a1] H = s_slices_rotateRight_Pair M.b.g M.c M.s Try.prog C a0 a1 H (endK Try.prog []) := by kernel_rfl

/-! slices.IndexFunc[[]string,string] -/

noncomputable def s_slices_IndexFunc_string (mg : GT) (mc : CT) (ms : ST) (P : Program) (C : CallF) (L0 : Value → Value → Value → Value → AHeap → K → Res) (a0 : Value) (a1 : Value) (H : AHeap) (K0 : K) : Res :=
bareK (lenS a0) H fun t7 h1 =>
ms (fun k1 =>
L0 a0 a1 t7 (.int .i64 0) h1 (blkK [] 0 k1)) (seqK (fun tT h2 =>
K0 .ret [(4, (.int .i64 (-1)))] h2) K0)

noncomputable def s_slices_IndexFunc_string_b0 (mg : GT) (mc : CT) (ms : ST) (P : Program) (C : CallF) (L0 : Value → Value → Value → Value → AHeap → K → Res) (v0 : Value) (v1 : Value) (v7 : Value) (v8 : Value) (H : AHeap) (k : K) : Res :=
bareK (xbin P .lss T.int (.tmp 8) (.tmp 7) v8 v7) H fun t9 h2 =>
mc t9 (fun k2 => k2 .normal [(0, v0), (1, v1), (7, v7), (8, v8)] h2) (fun k2 =>
k2 (.exit 0) [(9, t9), (0, v0), (1, v1), (7, v7), (8, v8)] h2) (seqK (fun tT h3 =>
ms (fun k3 =>
bareK (ixS 1 (get tT 0) (get tT 8)) h3 fun t14 h4 =>
bareK (ld1 h4 t14) h4 fun t15 h5 =>
callK P C (get tT 1) [t15] h5 fun t16 h6 =>
mc t16 (fun k4 => k4 .ret [(4, (get tT 8))] h6) (fun k4 =>
k4 .normal [(0, (get tT 0)), (1, (get tT 1)), (7, (get tT 7)), (8, (get tT 8))] h6) (blkK [0, 1, 7, 8] 1 k3)) (seqK (fun tT_1 h7 =>
bareK (xbin P .add T.int (.tmp 8) (.const (.int .i64 1)) (get tT_1 8) (.int .i64 1)) h7 fun t18 h8 =>
k .normal [(0, (get tT_1 0)), (1, (get tT_1 1)), (7, (get tT_1 7)), (8, t18)] h8) (afterK [0, 1, 7, 8] k))) (afterK [0, 1, 7, 8] k))

theorem s_slices_IndexFunc_string_eq (M : CombL) (C : CallF) (LP : LoopH) (a0 : Value) (a1 : Value) (H : AHeap) : dBodyL M Try.prog hints C LP F.slices_IndexFunc_string [a0, a1] H = s_slices_IndexFunc_string M.b.g M.c M.s Try.prog C (fun v0 v1 v7 v8 H k => loopL M Try.prog hints C LP F.slices_IndexFunc_string 0 [(0, v0), (1, v1), (7, v7), (8, v8)] H k) a0 a1 H (endK Try.prog [.tmp 4]) := by kernel_rfl

theorem s_slices_IndexFunc_string_b0_eq (M : CombL) (C : CallF) (LP : LoopH) (v0 : Value) (v1 : Value) (v7 : Value) (v8 : Value) (H : AHeap) (k : K) : bodyL M Try.prog hints C LP F.slices_IndexFunc_string 0 [(0, v0), (1, v1), (7, v7), (8, v8)] H (afterK [0, 1, 7, 8] k) = s_slices_IndexFunc_string_b0 M.b.g M.c M.s Try.prog C (fun v0 v1 v7 v8 H k => loopL M Try.prog hints C LP F.slices_IndexFunc_string 0 [(0, v0), (1, v1), (7, v7), (8, v8)] H k) v0 v1 v7 v8 H k := by kernel_rfl

/-! slices.rotateLeft[ticketline.api.Pair] -/

noncomputable def s_slices_rotateLeft_Pair (mg : GT) (mc : CT) (ms : ST) (P : Program) (C : CallF) (a0 : Value) (a1 : Value) (H : AHeap) (K0 : K) : Res :=
bareK (slS T.api_Pair 2 a0 none (some a1) none H) H fun t6 h1 =>
enterK C F.slices_Reverse_Pair [t6] h1 fun t7 h2 =>
bareK (slS T.api_Pair 2 a0 (some a1) none none h2) h2 fun t10 h3 =>
enterK C F.slices_Reverse_Pair [t10] h3 fun t11 h4 =>
enterK C F.slices_Reverse_Pair [a0] h4 fun t13 h5 =>
K0 .normal [(13, t13), (12, a0), (11, t11), (10, t10), (9, a1), (8, a0), (7, t7), (6, t6), (5, a1), (4, a0), (0, a0), (1, a1)] h5

theorem s_slices_rotateLeft_Pair_eq (M : CombL) (C : CallF) (LP : LoopH) (a0 : Value) (a1 : Value) (H : AHeap) : dBodyL M Try.prog hints C LP F.slices_rotateLeft_Pair [a0, a1] H = s_slices_rotateLeft_Pair M.b.g M.c M.s Try.prog C a0 a1 H (endK Try.prog []) := by kernel_rfl

/-! slices.Reverse[[]ticketline.api.Pair,ticketline.api.Pair] -/

noncomputable def s_slices_Reverse_Pair (mg : GT) (mc : CT) (ms : ST) (P : Program) (C : CallF) (L0 : Value → Value → Value → AHeap → K → Res) (a0 : Value) (H : AHeap) (K0 : K) : Res :=
bareK (lenS a0) H fun t5 h1 =>
bareK (xbin P .sub T.int (.tmp 5) (.const (.int .i64 1)) t5 (.int .i64 1)) h1 fun t6 h2 =>
ms (fun k1 =>
L0 a0 (.int .i64 0) t6 h2 (blkK [] 0 k1)) K0

noncomputable def s_slices_Reverse_Pair_b0 (mg : GT) (mc : CT) (ms : ST) (P : Program) (C : CallF) (L0 : Value → Value → Value → AHeap → K → Res) (v0 : Value) (v2 : Value) (v3 : Value) (H : AHeap) (k : K) : Res :=
bareK (xbin P .lss T.int (.tmp 7) (.tmp 8) v2 v3) H fun t9 h3 =>
mc t9 (fun k2 => k2 .normal [(0, v0), (2, v2), (3, v3)] h3) (fun k2 =>
k2 (.exit 0) [(9, t9), (8, v3), (7, v2), (0, v0), (2, v2), (3, v3)] h3) (seqK (fun tT h4 =>
ms (fun k3 =>
bareK (ixS 2 (get tT 0) (get tT 3)) h4 fun t20 h5 =>
bareK (ldN 2 h5 t20) h5 fun t21 h6 =>
bareK (ixS 2 (get tT 0) (get tT 2)) h6 fun t24 h7 =>
bareK (ldN 2 h7 t24) h7 fun t25 h8 =>
bareK (ixS 2 (get tT 0) (get tT 2)) h8 fun t26 h9 =>
quietK (stN 2 h9 t26 t21) fun _ h10 =>
bareK (ixS 2 (get tT 0) (get tT 3)) h10 fun t27 h11 =>
quietK (stN 2 h11 t27 t25) fun _ h12 =>
checkK (okV (some true) none h9 h10 h4 h4 && (okV (some true) none h9 h10 h4 h4 && true)) <|
k3 .normal [(0, (get tT 0)), (2, (get tT 2)), (3, (get tT 3))] h12) (seqK (fun tT_1 h13 =>
bareK (xbin P .add T.int (.tmp 10) (.const (.int .i64 1)) (get tT_1 2) (.int .i64 1)) h13 fun t11 h14 =>
bareK (xbin P .sub T.int (.tmp 12) (.const (.int .i64 1)) (get tT_1 3) (.int .i64 1)) h14 fun t13 h15 =>
k .normal [(0, (get tT_1 0)), (2, t11), (3, t13)] h15) (afterK [0, 2, 3] k))) (afterK [0, 2, 3] k))

theorem s_slices_Reverse_Pair_eq (M : CombL) (C : CallF) (LP : LoopH) (a0 : Value) (H : AHeap) : dBodyL M Try.prog hints C LP F.slices_Reverse_Pair [a0] H = s_slices_Reverse_Pair M.b.g M.c M.s Try.prog C (fun v0 v2 v3 H k => loopL M Try.prog hints C LP F.slices_Reverse_Pair 0 [(0, v0), (2, v2), (3, v3)] H k) a0 H (endK Try.prog []) := by kernel_rfl

theorem s_slices_Reverse_Pair_b0_eq (M : CombL) (C : CallF) (LP : LoopH) (v0 : Value) (v2 : Value) (v3 : Value) (H : AHeap) (k : K) : bodyL M Try.prog hints C LP F.slices_Reverse_Pair 0 [(0, v0), (2, v2), (3, v3)] H (afterK [0, 2, 3] k) = s_slices_Reverse_Pair_b0 M.b.g M.c M.s Try.prog C (fun v0 v2 v3 H k => loopL M Try.prog hints C LP F.slices_Reverse_Pair 0 [(0, v0), (2, v2), (3, v3)] H k) v0 v2 v3 H k := by kernel_rfl

end Go.Proofs.Ytmbppjilnnjdaaa
