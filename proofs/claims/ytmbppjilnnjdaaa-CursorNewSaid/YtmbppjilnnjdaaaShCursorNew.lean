/-
  The seat's functions as terms over the engine's combinators (a program of ours printed it).
  Conditions: none. By an AI agent.
-/
import Derived.Test.YtmbppjilnnjdaaaNames
import Derived.Test.YtmbppjilnnjdaaaEng22
import Derived.Test.YtmbppjilnnjdaaaHints
import Derived.Test.YtmbppjilnnjdaaaChecked
import Derived.KernelRfl
set_option linter.unusedVariables false
namespace Go.Proofs.Ytmbppjilnnjdaaa
open Go Eng

/-! ticketline.ticketlinelaw42.CursorNew -/

noncomputable def s_law_CursorNew (mg : GT) (mc : CT) (ms : ST) (P : Program) (C : CallF) (a0 : Value) (a1 : Value) (H : AHeap) (K0 : K) : Res :=
bareK (lenT a0) H fun t8 h1 =>
bareK (xbin P .gtr T.int (.tmp 8) (.const (.int .i64 30)) t8 (.int .i64 30)) h1 fun t9 h2 =>
mg t9 false (fun o1 => o1 a1 h2) h2 fun t11 h3 =>
mg t9 false (fun o2 => bareK (lenT t11) h3 o2) h3 fun t12 h4 =>
mg t9 false (fun o3 => bareK (xbin P .gtr T.int (.tmp 12) (.const (.int .i64 30)) t12 (.int .i64 30)) h4 o3) h4 fun t13 h5 =>
pickK t9 (.bool true) t13 fun t14 =>
mc t14 (fun k4 => enterK C F.law_known [] h5 fun t15 h6 =>
k4 .ret [(4, t15)] h6) (fun k4 =>
k4 .normal [(0, a0), (1, a1)] h5) (seqK (fun tT h7 =>
bareK (lenT (get tT 0)) h7 fun t17 h8 =>
bareK (xbin P .gtr T.int (.tmp 17) (.const (.int .i64 24)) t17 (.int .i64 24)) h8 fun t18 h9 =>
mg t18 false (fun o5 => o5 (get tT 1) h9) h9 fun t20 h10 =>
mg t18 false (fun o6 => bareK (lenT t20) h10 o6) h10 fun t21 h11 =>
mg t18 false (fun o7 => bareK (xbin P .gtr T.int (.tmp 21) (.const (.int .i64 24)) t21 (.int .i64 24)) h11 o7) h11 fun t22 h12 =>
pickK t18 (.bool true) t22 fun t23 =>
mc t23 (fun k8 => enterK C F.law_fails [(get tT 0), (get tT 1), (.int .i64 5)] h12 fun t26 h13 =>
mg t26 true (fun o9 => enterK C F.law_known [] h13 o9) h13 fun t28 h14 =>
pickK t26 t28 (.bool false) fun t29 =>
k8 .ret [(4, t29)] h14) (fun k8 =>
k8 .normal [(0, (get tT 0)), (1, (get tT 1))] h12) (seqK (fun tT_1 h15 =>
bareK (xbin P .neq T.string (.tmp 30) (.const (.string (mk []))) (get tT_1 1) (.string (mk []))) h15 fun t31 h16 =>
mg t31 true (fun o10 => o10 (get tT_1 1) h16) h16 fun t33 h17 =>
mg t31 true (fun o11 => o11 (get tT_1 0) h17) h17 fun t34 h18 =>
mg t31 true (fun o12 => bareK (xbin P .leq T.string (.tmp 33) (.tmp 34) t33 t34) h18 o12) h18 fun t35 h19 =>
pickK t31 t35 (.bool false) fun t36 =>
mc t36 (fun k13 => enterK C F.law_fails [(get tT_1 0), (get tT_1 1), (.int .i64 13)] h19 fun t39 h20 =>
mg t39 true (fun o14 => enterK C F.law_known [] h20 o14) h20 fun t41 h21 =>
pickK t39 t41 (.bool false) fun t42 =>
k13 .ret [(4, t42)] h21) (fun k13 =>
k13 .normal [(0, (get tT_1 0)), (1, (get tT_1 1))] h19) (seqK (fun tT_2 h22 =>
enterK C F.cursor_New [(get tT_2 0), (get tT_2 1)] h22 fun t46 h23 =>
bareK (xextract t46 0) h23 fun t47 h24 =>
bareK (xextract t46 1) h24 fun t48 h25 =>
bareK (xbin P .eql T.api_Errno (.tmp 49) (.const (.int .i64 0)) t48 (.int .i64 0)) h25 fun t50 h26 =>
mg t50 true (fun o15 => o15 t47 h26) h26 fun t52 h27 =>
mg t50 true (fun o16 => o16 (get tT_2 0) h27) h27 fun t53 h28 =>
mg t50 true (fun o17 => o17 (get tT_2 1) h28) h28 fun t54 h29 =>
mg t50 true (fun o18 => bareK (bldS #[(.string (mk [])), (.string (mk [])), (.string (mk [])), (.int .i64 0)] [(0, 1), (1, 1), (2, 1), (3, 1)] [(0, t53), (1, t54), (3, (.int .i64 (-1)))]) h29 o18) h29 fun t55 h30 =>
mg t50 true (fun o19 => bothK (newv T.law_Model t55 h30) o19) h30 fun t56 h31 =>
mg t50 true (fun o20 => bareK (bldS #[(.slice none 0 0)] [(0, 1)] []) h31 o20) h31 fun t57 h32 =>
mg t50 true (fun o21 => bothK (newv T.model_Model t57 h32) o21) h32 fun t58 h33 =>
mg t50 true (fun o22 => enterK C F.law_alike [t52, t56, t58] h33 o22) h33 fun t59 h34 =>
pickK t50 t59 (.bool false) fun t60 =>
mg t60 true (fun o23 => enterK C F.law_known [] h34 o23) h34 fun t62 h35 =>
pickK t60 t62 (.bool false) fun t63 =>
K0 .ret [(4, t63)] h35) K0)) K0)) K0)

theorem s_law_CursorNew_eq (M : CombL) (C : CallF) (LP : LoopH) (a0 : Value) (a1 : Value) (H : AHeap) : dBodyL M Try.prog hints C LP F.law_CursorNew [a0, a1] H = s_law_CursorNew M.b.g M.c M.s Try.prog C a0 a1 H (endK Try.prog [.tmp 4]) := by kernel_rfl

end Go.Proofs.Ytmbppjilnnjdaaa
