import Derived.Test.YtlagijfkkpbbnaaEng17
import Derived.Test.YtlagijfkkpbbnaaHints
import Derived.Test.YtlagijfkkpbbnaaChecked
import Derived.KernelRfl
set_option linter.unusedVariables false
namespace Go.Proofs.Ytlagijfkkpbbnaa
open Go Eng

/-! ticketline.ticketlinelaw24.short -/
def s21 (M : Comb) (P : Program) (C : CallF) (n : Nat) (a0 : Value) (H : AHeap) (K0 : K) : Res :=
bothK (newv 49 a0 H) fun t1 h1 =>
bareK (xfieldAddr P 49 t1 1) h1 fun t3 h2 =>
bareK (xload P 9 t3 h2) h2 fun t4 h3 =>
bareK (xlen P [9] t4) h3 fun t5 h4 =>
bareK (xbin P .leq 3 (.tmp 5) (.const (.int .i64 60)) t5 (.int .i64 60)) h4 fun t6 h5 =>
M.g t6 true (fun o1 => bareK (xfieldAddr P 49 t1 2) h5 o1) h5 fun t8 h6 =>
M.g t6 true (fun o2 => bareK (xload P 9 t8 h6) h6 o2) h6 fun t9 h7 =>
M.g t6 true (fun o3 => bareK (xlen P [9] t9) h7 o3) h7 fun t10 h8 =>
M.g t6 true (fun o4 => bareK (xbin P .leq 3 (.tmp 10) (.const (.int .i64 60)) t10 (.int .i64 60)) h8 o4) h8 fun t11 h9 =>
pickK t6 t11 (.bool false) fun t12 =>
M.g t12 true (fun o5 => bareK (xfieldAddr P 49 t1 3) h9 o5) h9 fun t14 h10 =>
M.g t12 true (fun o6 => bareK (xload P 9 t14 h10) h10 o6) h10 fun t15 h11 =>
M.g t12 true (fun o7 => bareK (xlen P [9] t15) h11 o7) h11 fun t16 h12 =>
M.g t12 true (fun o8 => bareK (xbin P .leq 3 (.tmp 16) (.const (.int .i64 60)) t16 (.int .i64 60)) h12 o8) h12 fun t17 h13 =>
pickK t12 t17 (.bool false) fun t18 =>
K0 .ret [(2, t18)] h13

theorem s21_eq (M : Comb) (C : CallF) (n : Nat) (a0 : Value) (H : AHeap) : dBodyK M Try.prog hints C n 21 [a0] H = s21 M Try.prog C n a0 H (endK Try.prog [.tmp 2]) := by kernel_rfl

/-! ticketline.ticketlinelaw24.ModelNil -/
def s8 (M : Comb) (P : Program) (C : CallF) (n : Nat) (a0 : Value) (H : AHeap) (K0 : K) : Res :=
bothK (newv 49 a0 H) fun t1 h1 =>
bareK (xload P 49 t1 h1) h1 fun t4 h2 =>
enterK C 21 [t4] h2 fun t5 h3 =>
bareK (xun P .not t5) h3 fun t6 h4 =>
M.c t6 (fun k1 => enterK C 9 [] h4 fun t7 h5 =>
k1 .ret [(2, t7)] h5) (fun k1 => k1 .normal [(6, t6), (5, t5), (4, t4), (2, (.bool false)), (1, t1), (0, a0)] h4) [1] (seqK (fun tT h6 =>
bareK (xfieldAddr P 49 (get tT 1) 1) h6 fun t9 h7 =>
bareK (xload P 9 t9 h7) h7 fun t10 h8 =>
enterK C 18 [(.pointer none), t10, (.string (mk [])), (.int .i64 1)] h8 fun t11 h9 =>
bareK (xun P .not t11) h9 fun t12 h10 =>
M.g t12 false (fun o2 => o2 (.pointer none) h10) h10 fun t14 h11 =>
M.g t12 false (fun o3 => bareK (xfieldAddr P 49 (get tT 1) 1) h11 o3) h11 fun t15 h12 =>
M.g t12 false (fun o4 => bareK (xload P 9 t15 h12) h12 o4) h12 fun t16 h13 =>
M.g t12 false (fun o5 => bareK (xfieldAddr P 49 (get tT 1) 2) h13 o5) h13 fun t17 h14 =>
M.g t12 false (fun o6 => bareK (xload P 9 t17 h14) h14 o6) h14 fun t18 h15 =>
M.g t12 false (fun o7 => enterK C 10 [t14, t16, t18] h15 o7) h15 fun t19 h16 =>
M.g t12 false (fun o8 => bareK (xbin P .neq 32 (.tmp 19) (.const (.int .i64 1)) t19 (.int .i64 1)) h16 o8) h16 fun t20 h17 =>
pickK t12 (.bool true) t20 fun t21 =>
M.g t21 false (fun o9 => o9 (.pointer none) h17) h17 fun t23 h18 =>
M.g t21 false (fun o10 => bareK (xfieldAddr P 49 (get tT 1) 1) h18 o10) h18 fun t24 h19 =>
M.g t21 false (fun o11 => bareK (xload P 9 t24 h19) h19 o11) h19 fun t25 h20 =>
M.g t21 false (fun o12 => bareK (xfieldAddr P 49 (get tT 1) 2) h20 o12) h20 fun t26 h21 =>
M.g t21 false (fun o13 => bareK (xload P 9 t26 h21) h21 o13) h21 fun t27 h22 =>
M.g t21 false (fun o14 => enterK C 19 [t23, t25, t27] h22 o14) h22 fun t28 h23 =>
M.g t21 false (fun o15 => bareK (xbin P .neq 32 (.tmp 28) (.const (.int .i64 1)) t28 (.int .i64 1)) h23 o15) h23 fun t29 h24 =>
pickK t21 (.bool true) t29 fun t30 =>
M.g t30 false (fun o16 => o16 (.pointer none) h24) h24 fun t32 h25 =>
M.g t30 false (fun o17 => bareK (xfieldAddr P 49 (get tT 1) 1) h25 o17) h25 fun t33 h26 =>
M.g t30 false (fun o18 => bareK (xload P 9 t33 h26) h26 o18) h26 fun t34 h27 =>
M.g t30 false (fun o19 => enterK C 20 [t32, t34, (.string (mk [])), (.int .i64 1)] h27 o19) h27 fun t35 h28 =>
M.g t30 false (fun o20 => bareK (xun P .not t35) h28 o20) h28 fun t36 h29 =>
pickK t30 (.bool true) t36 fun t37 =>
M.g t37 false (fun o21 => o21 (.pointer none) h29) h29 fun t39 h30 =>
M.g t37 false (fun o22 => bareK (xfieldAddr P 49 (get tT 1) 1) h30 o22) h30 fun t40 h31 =>
M.g t37 false (fun o23 => bareK (xload P 9 t40 h31) h31 o23) h31 fun t41 h32 =>
M.g t37 false (fun o24 => bareK (xfieldAddr P 49 (get tT 1) 3) h32 o24) h32 fun t42 h33 =>
M.g t37 false (fun o25 => bareK (xload P 9 t42 h33) h33 o25) h33 fun t43 h34 =>
M.g t37 false (fun o26 => bareK (xfieldAddr P 49 (get tT 1) 2) h34 o26) h34 fun t44 h35 =>
M.g t37 false (fun o27 => bareK (xload P 9 t44 h35) h35 o27) h35 fun t45 h36 =>
M.g t37 false (fun o28 => enterK C 29 [t39, t41, t43, t45] h36 o28) h36 fun t46 h37 =>
M.g t37 false (fun o29 => bareK (xbin P .neq 32 (.tmp 46) (.const (.int .i64 1)) t46 (.int .i64 1)) h37 o29) h37 fun t47 h38 =>
pickK t37 (.bool true) t47 fun t48 =>
M.g t48 false (fun o30 => o30 (.pointer none) h38) h38 fun t50 h39 =>
M.g t48 false (fun o31 => bareK (xfieldAddr P 49 (get tT 1) 1) h39 o31) h39 fun t51 h40 =>
M.g t48 false (fun o32 => bareK (xload P 9 t51 h40) h40 o32) h40 fun t52 h41 =>
M.g t48 false (fun o33 => bareK (xfieldAddr P 49 (get tT 1) 3) h41 o33) h41 fun t53 h42 =>
M.g t48 false (fun o34 => bareK (xload P 9 t53 h42) h42 o34) h42 fun t54 h43 =>
M.g t48 false (fun o35 => bareK (xfieldAddr P 49 (get tT 1) 4) h43 o35) h43 fun t55 h44 =>
M.g t48 false (fun o36 => bareK (xload P 3 t55 h44) h44 o36) h44 fun t56 h45 =>
M.g t48 false (fun o37 => enterK C 13 [t50, t52, t54, t56, (.slice none 0 0), (.int .i64 1)] h45 o37) h45 fun t57 h46 =>
M.g t48 false (fun o38 => bareK (xun P .not t57) h46 o38) h46 fun t58 h47 =>
pickK t48 (.bool true) t58 fun t59 =>
M.g t59 false (fun o39 => o39 (.pointer none) h47) h47 fun t61 h48 =>
M.g t59 false (fun o40 => bareK (xbuild P 31 []) h48 o40) h48 fun t62 h49 =>
M.g t59 false (fun o41 => bareK (xbuild P 31 []) h49 o41) h49 fun t63 h50 =>
M.g t59 false (fun o42 => enterK C 31 [t61, t62, t63, (.int .i64 1)] h50 o42) h50 fun t64 h51 =>
M.g t59 false (fun o43 => bareK (xun P .not t64) h51 o43) h51 fun t65 h52 =>
pickK t59 (.bool true) t65 fun t66 =>
M.c t66 (fun k44 => k44 .ret [(2, (.bool false))] h52) (fun k44 => k44 .normal ((66, t66) :: (65, t65) :: (64, t64) :: (63, t63) :: (62, t62) :: (61, t61) :: (60, t59) :: (59, t59) :: (58, t58) :: (57, t57) :: (56, t56) :: (55, t55) :: (54, t54) :: (53, t53) :: (52, t52) :: (51, t51) :: (50, t50) :: (49, t48) :: (48, t48) :: (47, t47) :: (46, t46) :: (45, t45) :: (44, t44) :: (43, t43) :: (42, t42) :: (41, t41) :: (40, t40) :: (39, t39) :: (38, t37) :: (37, t37) :: (36, t36) :: (35, t35) :: (34, t34) :: (33, t33) :: (32, t32) :: (31, t30) :: (30, t30) :: (29, t29) :: (28, t28) :: (27, t27) :: (26, t26) :: (25, t25) :: (24, t24) :: (23, t23) :: (22, t21) :: (21, t21) :: (20, t20) :: (19, t19) :: (18, t18) :: (17, t17) :: (16, t16) :: (15, t15) :: (14, t14) :: (13, t12) :: (12, t12) :: (11, t11) :: (10, t10) :: (9, t9) :: (8, (.pointer none)) :: (3, (.pointer none)) :: tT) h52) [3] (seqK (fun tT_1 h53 =>
enterK C 17 [(get tT_1 3)] h53 fun t68 h54 =>
bareK (xbin P .eql 3 (.tmp 68) (.const (.int .i64 0)) t68 (.int .i64 0)) h54 fun t69 h55 =>
M.g t69 true (fun o45 => o45 (get tT_1 3) h55) h55 fun t71 h56 =>
M.g t69 true (fun o46 => enterK C 30 [t71] h56 o46) h56 fun t72 h57 =>
M.g t69 true (fun o47 => bareK (xlen P [22] t72) h57 o47) h57 fun t73 h58 =>
M.g t69 true (fun o48 => bareK (xbin P .eql 3 (.tmp 73) (.const (.int .i64 0)) t73 (.int .i64 0)) h58 o48) h58 fun t74 h59 =>
pickK t69 t74 (.bool false) fun t75 =>
M.g t75 true (fun o49 => o49 (get tT_1 3) h59) h59 fun t77 h60 =>
M.g t75 true (fun o50 => enterK C 23 [t77] h60 o50) h60 fun t78 h61 =>
M.g t75 true (fun o51 => bareK (xbin P .eql 24 (.tmp 78) (.const (.pointer none)) t78 (.pointer none)) h61 o51) h61 fun t79 h62 =>
pickK t75 t79 (.bool false) fun t80 =>
M.g t80 true (fun o52 => o52 (get tT_1 3) h62) h62 fun t82 h63 =>
M.g t80 true (fun o53 => enterK C 27 [t82, (.pointer none)] h63 o53) h63 fun t83 h64 =>
pickK t80 t83 (.bool false) fun t84 =>
M.g t84 true (fun o54 => o54 (get tT_1 3) h64) h64 fun t86 h65 =>
M.g t84 true (fun o55 => bareK (xbuild P 26 []) h65 o55) h65 fun t87 h66 =>
M.g t84 true (fun o56 => bothK (newv 26 t87 h66) o56) h66 fun t88 h67 =>
M.g t84 true (fun o57 => enterK C 27 [t86, t88] h67 o57) h67 fun t89 h68 =>
M.g t84 true (fun o58 => bareK (xun P .not t89) h68 o58) h68 fun t90 h69 =>
pickK t84 t90 (.bool false) fun t91 =>
M.g t91 true (fun o59 => bareK (xbuild P 26 []) h69 o59) h69 fun t93 h70 =>
M.g t91 true (fun o60 => bothK (newv 26 t93 h70) o60) h70 fun t94 h71 =>
M.g t91 true (fun o61 => o61 (get tT_1 3) h71) h71 fun t95 h72 =>
M.g t91 true (fun o62 => enterK C 27 [t94, t95] h72 o62) h72 fun t96 h73 =>
M.g t91 true (fun o63 => bareK (xun P .not t96) h73 o63) h73 fun t97 h74 =>
pickK t91 t97 (.bool false) fun t98 =>
M.g t98 true (fun o64 => enterK C 9 [] h74 o64) h74 fun t100 h75 =>
pickK t98 t100 (.bool false) fun t101 =>
K0 .ret [(2, t101)] h75) K0)) K0)

theorem s8_eq (M : Comb) (C : CallF) (n : Nat) (a0 : Value) (H : AHeap) : dBodyK M Try.prog hints C n 8 [a0] H = s8 M Try.prog C n a0 H (endK Try.prog [.tmp 2]) := by kernel_rfl

end Go.Proofs.Ytlagijfkkpbbnaa
