/-
  The seat's functions as terms over the engine's combinators (a program of ours printed it).
  Conditions: none. By an AI agent.
-/
import Derived.Test.YtmbppjilnnjdaaaNames
import Derived.Test.YtmbppjilnnjdaaaEng22
import Derived.Test.YtmbppjilnnjdaaaHints
import Derived.Test.YtmbppjilnnjdaaaChecked
import Derived.KernelRfl
set_option linter.unusedVariables false
namespace Go.Proofs.Ytmbppjilnnjdaaa
open Go Eng

/-! ticketline.ticketlinelaw42.CursorNil -/

noncomputable def s_law_CursorNil (mg : GT) (mc : CT) (ms : ST) (P : Program) (C : CallF) (L0 : Value → Value → Value → Value → Value → AHeap → K → Res) (a0 : Value) (H : AHeap) (K0 : K) : Res :=
bareK (lenT a0) H fun t9 h1 =>
bareK (xbin P .gtr T.int (.tmp 9) (.const (.int .i64 30)) t9 (.int .i64 30)) h1 fun t10 h2 =>
mc t10 (fun k1 => enterK C F.law_known [] h2 fun t11 h3 =>
k1 .ret [(2, t11)] h3) (fun k1 =>
k1 .normal [(0, a0)] h2) (seqK (fun tT h4 =>
bareK (bldS #[(.slice none 0 0)] [(0, 1)] []) h4 fun t12 h5 =>
bothK (newv T.model_Model t12 h5) fun t13 h6 =>
bareK (bldS #[(.string (mk [])), (.string (mk [])), (.int .i64 0), (.string (mk []))] [(0, 2), (2, 1), (3, 1)] []) h6 fun t14 h7 =>
bothK (newv T.cursor_Cursor t14 h7) fun t15 h8 =>
bothK (bldL T.p_cursor_Cursor [(.pointer none)] 2 [(0, (.pointer none)), (1, t15)] h8) fun t16 h9 =>
bareK (lenS t16) h9 fun t17 h10 =>
ms (fun k2 =>
L0 (get tT 0) t13 t16 t17 (.int .i64 0) h10 (blkK [0] 0 k2)) (seqK (fun tT_1 h11 =>
enterK C F.cursor_New [(.string (mk [])), (.string (mk []))] h11 fun t71 h12 =>
bareK (xextract t71 0) h12 fun t72 h13 =>
bareK (xextract t71 1) h13 fun t73 h14 =>
bareK (xbin P .eql T.api_Errno (.tmp 74) (.const (.int .i64 0)) t73 (.int .i64 0)) h14 fun t75 h15 =>
mg t75 true (fun o3 => o3 t72 h15) h15 fun t77 h16 =>
mg t75 true (fun o4 => bareK (xbin P .neq T.p_cursor_Cursor (.tmp 77) (.const (.pointer none)) t77 (.pointer none)) h16 o4) h16 fun t78 h17 =>
pickK t75 t78 (.bool false) fun t79 =>
mg t79 true (fun o5 => o5 t72 h17) h17 fun t81 h18 =>
mg t79 true (fun o6 => enterK C F.law_next [t81, (.pointer none), (.string (mk [])), (.string (mk [])), (.int .i64 1)] h18 o6) h18 fun t82 h19 =>
pickK t79 t82 (.bool false) fun t83 =>
mg t83 true (fun o7 => o7 t72 h19) h19 fun t85 h20 =>
mg t83 true (fun o8 => enterK C F.law_prev [t85, (.pointer none), (.string (mk [])), (.string (mk [])), (.int .i64 1)] h20 o8) h20 fun t86 h21 =>
pickK t83 t86 (.bool false) fun t87 =>
mg t87 true (fun o9 => o9 t72 h21) h21 fun t89 h22 =>
mg t87 true (fun o10 => o10 (get tT_1 0) h22) h22 fun t90 h23 =>
mg t87 true (fun o11 => enterK C F.law_seek [t89, (.pointer none), t90, (.string (mk [])), (.string (mk [])), (.int .i64 1)] h23 o11) h23 fun t91 h24 =>
pickK t87 t91 (.bool false) fun t92 =>
mg t92 true (fun o12 => o12 t72 h24) h24 fun t94 h25 =>
mg t92 true (fun o13 => enterK C F.law_sees [t94, (.pointer none), (.string (mk [])), (.string (mk [])), (.int .i64 1)] h25 o13) h25 fun t95 h26 =>
pickK t92 t95 (.bool false) fun t96 =>
mg t96 true (fun o14 => o14 t72 h26) h26 fun t98 h27 =>
mg t96 true (fun o15 => enterK C F.law_rests [t98, (.pointer none), (.slice none 0 0), (.int .i64 1)] h27 o15) h27 fun t99 h28 =>
pickK t96 t99 (.bool false) fun t100 =>
mg t100 true (fun o16 => o16 t72 h28) h28 fun t102 h29 =>
mg t100 true (fun o17 => enterK C F.cursor_Cursor_Before [t102] h29 o17) h29 fun t103 h30 =>
pickK t100 t103 (.bool false) fun t104 =>
mg t104 true (fun o18 => enterK C F.law_known [] h30 o18) h30 fun t106 h31 =>
pickK t104 t106 (.bool false) fun t107 =>
K0 .ret [(2, t107)] h31) K0)) K0)

noncomputable def s_law_CursorNil_b0 (mg : GT) (mc : CT) (ms : ST) (P : Program) (C : CallF) (L0 : Value → Value → Value → Value → Value → AHeap → K → Res) (v0 : Value) (v3 : Value) (v16 : Value) (v17 : Value) (v18 : Value) (H : AHeap) (k : K) : Res :=
bareK (xbin P .lss T.int (.tmp 18) (.tmp 17) v18 v17) H fun t19 h11 =>
mc t19 (fun k3 => k3 .normal [(0, v0), (3, v3), (16, v16), (17, v17), (18, v18)] h11) (fun k3 =>
k3 (.exit 0) [(19, t19), (0, v0), (3, v3), (16, v16), (17, v17), (18, v18)] h11) (seqK (fun tT h12 =>
ms (fun k4 =>
bareK (ixS 1 (get tT 16) (get tT 18)) h12 fun t20 h13 =>
bareK (ld1 h13 t20) h13 fun t21 h14 =>
enterK C F.law_next [t21, (get tT 3), (.string (mk [])), (.string (mk [])), (.int .i64 1)] h14 fun t24 h15 =>
bareK (xun P .not t24) h15 fun t25 h16 =>
mg t25 false (fun o5 => o5 t21 h16) h16 fun t27 h17 =>
mg t25 false (fun o6 => o6 (get tT 3) h17) h17 fun t28 h18 =>
mg t25 false (fun o7 => enterK C F.law_prev [t27, t28, (.string (mk [])), (.string (mk [])), (.int .i64 1)] h18 o7) h18 fun t29 h19 =>
mg t25 false (fun o8 => bareK (xun P .not t29) h19 o8) h19 fun t30 h20 =>
pickK t25 (.bool true) t30 fun t31 =>
mg t31 false (fun o9 => o9 t21 h20) h20 fun t33 h21 =>
mg t31 false (fun o10 => o10 (get tT 3) h21) h21 fun t34 h22 =>
mg t31 false (fun o11 => o11 (get tT 0) h22) h22 fun t35 h23 =>
mg t31 false (fun o12 => enterK C F.law_seek [t33, t34, t35, (.string (mk [])), (.string (mk [])), (.int .i64 1)] h23 o12) h23 fun t36 h24 =>
mg t31 false (fun o13 => bareK (xun P .not t36) h24 o13) h24 fun t37 h25 =>
pickK t31 (.bool true) t37 fun t38 =>
mg t38 false (fun o14 => o14 t21 h25) h25 fun t40 h26 =>
mg t38 false (fun o15 => o15 (get tT 3) h26) h26 fun t41 h27 =>
mg t38 false (fun o16 => enterK C F.law_sees [t40, t41, (.string (mk [])), (.string (mk [])), (.int .i64 1)] h27 o16) h27 fun t42 h28 =>
mg t38 false (fun o17 => bareK (xun P .not t42) h28 o17) h28 fun t43 h29 =>
pickK t38 (.bool true) t43 fun t44 =>
mg t44 false (fun o18 => o18 t21 h29) h29 fun t46 h30 =>
mg t44 false (fun o19 => o19 (get tT 3) h30) h30 fun t47 h31 =>
mg t44 false (fun o20 => enterK C F.law_rests [t46, t47, (.slice none 0 0), (.int .i64 1)] h31 o20) h31 fun t48 h32 =>
mg t44 false (fun o21 => bareK (xun P .not t48) h32 o21) h32 fun t49 h33 =>
pickK t44 (.bool true) t49 fun t50 =>
mg t50 false (fun o22 => o22 t21 h33) h33 fun t52 h34 =>
mg t50 false (fun o23 => enterK C F.cursor_Cursor_At [t52] h34 o23) h34 fun t53 h35 =>
mg t50 false (fun o24 => bareK (xbin P .neq T.string (.tmp 53) (.const (.string (mk []))) t53 (.string (mk []))) h35 o24) h35 fun t54 h36 =>
pickK t50 (.bool true) t54 fun t55 =>
mg t55 false (fun o25 => o25 t21 h36) h36 fun t57 h37 =>
mg t55 false (fun o26 => enterK C F.cursor_Cursor_Before [t57] h37 o26) h37 fun t58 h38 =>
pickK t55 (.bool true) t58 fun t59 =>
mg t59 false (fun o27 => o27 t21 h38) h38 fun t61 h39 =>
mg t59 false (fun o28 => enterK C F.cursor_Cursor_Behind [t61] h39 o28) h39 fun t62 h40 =>
pickK t59 (.bool true) t62 fun t63 =>
mg t63 false (fun o29 => o29 t21 h40) h40 fun t65 h41 =>
mg t63 false (fun o30 => enterK C F.cursor_Cursor_Copy [t65] h41 o30) h41 fun t66 h42 =>
mg t63 false (fun o31 => bareK (xbin P .neq T.p_cursor_Cursor (.tmp 66) (.const (.pointer none)) t66 (.pointer none)) h42 o31) h42 fun t67 h43 =>
pickK t63 (.bool true) t67 fun t68 =>
mc t68 (fun k32 => k32 .ret [(2, (.bool false))] h43) (fun k32 =>
k32 .normal [(0, (get tT 0)), (3, (get tT 3)), (16, (get tT 16)), (17, (get tT 17)), (18, (get tT 18))] h43) (blkK [0, 3, 16, 17, 18] 1 k4)) (seqK (fun tT_1 h44 =>
bareK (xbin P .add T.int (.tmp 18) (.const (.int .i64 1)) (get tT_1 18) (.int .i64 1)) h44 fun t69 h45 =>
k .normal [(0, (get tT_1 0)), (3, (get tT_1 3)), (16, (get tT_1 16)), (17, (get tT_1 17)), (18, t69)] h45) (afterK [0, 3, 16, 17, 18] k))) (afterK [0, 3, 16, 17, 18] k))

theorem s_law_CursorNil_eq (M : CombL) (C : CallF) (LP : LoopH) (a0 : Value) (H : AHeap) : dBodyL M Try.prog hints C LP F.law_CursorNil [a0] H = s_law_CursorNil M.b.g M.c M.s Try.prog C (fun v0 v3 v16 v17 v18 H k => loopL M Try.prog hints C LP F.law_CursorNil 0 [(0, v0), (3, v3), (16, v16), (17, v17), (18, v18)] H k) a0 H (endK Try.prog [.tmp 2]) := by kernel_rfl

theorem s_law_CursorNil_b0_eq (M : CombL) (C : CallF) (LP : LoopH) (v0 : Value) (v3 : Value) (v16 : Value) (v17 : Value) (v18 : Value) (H : AHeap) (k : K) : bodyL M Try.prog hints C LP F.law_CursorNil 0 [(0, v0), (3, v3), (16, v16), (17, v17), (18, v18)] H (afterK [0, 3, 16, 17, 18] k) = s_law_CursorNil_b0 M.b.g M.c M.s Try.prog C (fun v0 v3 v16 v17 v18 H k => loopL M Try.prog hints C LP F.law_CursorNil 0 [(0, v0), (3, v3), (16, v16), (17, v17), (18, v18)] H k) v0 v3 v16 v17 v18 H k := by kernel_rfl

end Go.Proofs.Ytmbppjilnnjdaaa
