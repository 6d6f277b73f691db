/-
  1 texts in one (merge.py): Sh.
  Conditions: none. By an AI agent.
-/
import Derived.Test.YtplblfcofplcmaaQc1
import Derived.Test.YtplblfcofplcmaaChecked
import Derived.KernelRfl

/-
  The seat's functions as terms over the engine's combinators (a program of ours printed it).
  Conditions: none. By an AI agent.
-/
set_option linter.unusedVariables false
namespace Go.Proofs.Ytplblfcofplcmaa
open Go Eng

/-! ticketline.ticketlinelaw26.bucket -/

noncomputable def s_law_bucket (mg : GT) (mc : CT) (ms : ST) (P : Program) (C : CallF) (a0 : Value) (a1 : Value) (a2 : Value) (H : AHeap) (K0 : K) : Res :=
enterK C F.stats_Bucket [a0] H fun t11 h1 =>
bareK (xextract t11 0) h1 fun t12 h2 =>
bareK (xextract t11 1) h2 fun t13 h3 =>
bareK (xbin P .eql T.int (.tmp 14) (.tmp 15) t12 a1) h3 fun t16 h4 =>
mg t16 true (fun o1 => o1 t13 h4) h4 fun t18 h5 =>
mg t16 true (fun o2 => o2 a2 h5) h5 fun t19 h6 =>
mg t16 true (fun o3 => bareK (xbin P .eql T.api_Errno (.tmp 18) (.tmp 19) t18 t19) h6 o3) h6 fun t20 h7 =>
pickK t16 t20 (.bool false) fun t21 =>
K0 .ret [(6, t21)] h7

theorem s_law_bucket_eq (M : CombL) (C : CallF) (LP : LoopH) (a0 : Value) (a1 : Value) (a2 : Value) (H : AHeap) : dBodyL M Try.prog hints C LP F.law_bucket [a0, a1, a2] H = s_law_bucket M.b.g M.c M.s Try.prog C a0 a1 a2 H (endK Try.prog [.tmp 6]) := by kernel_rfl

/-! ticketline.ticketlineref26.Bucket -/

noncomputable def s_ref26_Bucket (mg : GT) (mc : CT) (ms : ST) (P : Program) (C : CallF) (L0 : Value → Value → AHeap → K → Res) (a0 : Value) (H : AHeap) (K0 : K) : Res :=
ms (fun k1 =>
L0 a0 (.int .i64 0) H (blkK [] 0 k1)) (seqK (fun tT h1 =>
K0 .ret [(2, (.int .i64 (-1)))] h1) K0)

noncomputable def s_ref26_Bucket_b0 (mg : GT) (mc : CT) (ms : ST) (P : Program) (C : CallF) (L0 : Value → Value → AHeap → K → Res) (v0 : Value) (v3 : Value) (H : AHeap) (k : K) : Res :=
bareK (xbin P .lss T.int (.tmp 6) (.const (.int .i64 42)) v3 (.int .i64 42)) H fun t7 h1 =>
mc t7 (fun k2 => k2 .normal [(0, v0), (3, v3)] h1) (fun k2 =>
k2 (.exit 0) [(7, t7), (6, v3), (0, v0), (3, v3)] h1) (seqK (fun tT h2 =>
ms (fun k3 =>
enterK C F.ref26_Bounds [(get tT 3)] h2 fun t12 h3 =>
bareK (xextract t12 0) h3 fun t13 h4 =>
bareK (xextract t12 1) h4 fun t14 h5 =>
bareK (xbin P .geq T.int (.tmp 15) (.tmp 16) (get tT 0) t13) h5 fun t17 h6 =>
mg t17 true (fun o4 => o4 (get tT 0) h6) h6 fun t19 h7 =>
mg t17 true (fun o5 => o5 t14 h7) h7 fun t20 h8 =>
mg t17 true (fun o6 => bareK (xbin P .leq T.int (.tmp 19) (.tmp 20) t19 t20) h8 o6) h8 fun t21 h9 =>
pickK t17 t21 (.bool false) fun t22 =>
mc t22 (fun k7 => k7 .ret [(2, (get tT 3))] h9) (fun k7 =>
k7 .normal [(0, (get tT 0)), (3, (get tT 3))] h9) (blkK [0, 3] 1 k3)) (seqK (fun tT_1 h10 =>
bareK (xbin P .add T.int (.tmp 8) (.const (.int .i64 1)) (get tT_1 3) (.int .i64 1)) h10 fun t9 h11 =>
k .normal [(0, (get tT_1 0)), (3, t9)] h11) (afterK [0, 3] k))) (afterK [0, 3] k))

theorem s_ref26_Bucket_eq (M : CombL) (C : CallF) (LP : LoopH) (a0 : Value) (H : AHeap) : dBodyL M Try.prog hints C LP F.ref26_Bucket [a0] H = s_ref26_Bucket M.b.g M.c M.s Try.prog C (fun v0 v3 H k => loopL M Try.prog hints C LP F.ref26_Bucket 0 [(0, v0), (3, v3)] H k) a0 H (endK Try.prog [.tmp 2]) := by kernel_rfl

theorem s_ref26_Bucket_b0_eq (M : CombL) (C : CallF) (LP : LoopH) (v0 : Value) (v3 : Value) (H : AHeap) (k : K) : bodyL M Try.prog hints C LP F.ref26_Bucket 0 [(0, v0), (3, v3)] H (afterK [0, 3] k) = s_ref26_Bucket_b0 M.b.g M.c M.s Try.prog C (fun v0 v3 H k => loopL M Try.prog hints C LP F.ref26_Bucket 0 [(0, v0), (3, v3)] H k) v0 v3 H k := by kernel_rfl

/-! ticketline.ticketlinelaw26.bounds -/

noncomputable def s_law_bounds (mg : GT) (mc : CT) (ms : ST) (P : Program) (C : CallF) (a0 : Value) (a1 : Value) (a2 : Value) (a3 : Value) (H : AHeap) (K0 : K) : Res :=
enterK C F.stats_Bounds [a0] H fun t14 h1 =>
bareK (xextract t14 0) h1 fun t15 h2 =>
bareK (xextract t14 1) h2 fun t16 h3 =>
bareK (xextract t14 2) h3 fun t17 h4 =>
bareK (xbin P .eql T.int (.tmp 18) (.tmp 19) t15 a1) h4 fun t20 h5 =>
mg t20 true (fun o1 => o1 t16 h5) h5 fun t22 h6 =>
mg t20 true (fun o2 => o2 a2 h6) h6 fun t23 h7 =>
mg t20 true (fun o3 => bareK (xbin P .eql T.int (.tmp 22) (.tmp 23) t22 t23) h7 o3) h7 fun t24 h8 =>
pickK t20 t24 (.bool false) fun t25 =>
mg t25 true (fun o4 => o4 t17 h8) h8 fun t27 h9 =>
mg t25 true (fun o5 => o5 a3 h9) h9 fun t28 h10 =>
mg t25 true (fun o6 => bareK (xbin P .eql T.api_Errno (.tmp 27) (.tmp 28) t27 t28) h10 o6) h10 fun t29 h11 =>
pickK t25 t29 (.bool false) fun t30 =>
K0 .ret [(8, t30)] h11

theorem s_law_bounds_eq (M : CombL) (C : CallF) (LP : LoopH) (a0 : Value) (a1 : Value) (a2 : Value) (a3 : Value) (H : AHeap) : dBodyL M Try.prog hints C LP F.law_bounds [a0, a1, a2, a3] H = s_law_bounds M.b.g M.c M.s Try.prog C a0 a1 a2 a3 H (endK Try.prog [.tmp 8]) := by kernel_rfl

/-! ticketline.ticketlineref26.Bounds -/

noncomputable def s_ref26_Bounds (mg : GT) (mc : CT) (ms : ST) (P : Program) (C : CallF) (L0 : Value → Value → Value → AHeap → K → Res) (a0 : Value) (H : AHeap) (K0 : K) : Res :=
bareK (xbin P .eql T.int (.tmp 6) (.const (.int .i64 0)) a0 (.int .i64 0)) H fun t7 h1 =>
mc t7 (fun k1 => k1 .ret [(2, (.int .i64 0)), (3, (.int .i64 0))] h1) (fun k1 =>
k1 .normal [(0, a0)] h1) (seqK (fun tT h2 =>
ms (fun k2 =>
L0 (get tT 0) (.int .i64 1) (.int .i64 1) h2 (blkK [4] 0 k2)) (seqK (fun tT_1 h3 =>
bareK (xbin P .mul T.int (.const (.int .i64 2)) (.tmp 16) (.int .i64 2) (get tT_1 4)) h3 fun t17 h4 =>
bareK (xbin P .sub T.int (.tmp 17) (.const (.int .i64 1)) t17 (.int .i64 1)) h4 fun t18 h5 =>
nextK C h5 (xbuiltin P .min [T.int, T.int] [t18, (.int .i64 1099511627776)] h5) fun t19 h6 =>
K0 .ret [(2, (get tT_1 4)), (3, t19)] h6) K0)) K0)

noncomputable def s_ref26_Bounds_b0 (mg : GT) (mc : CT) (ms : ST) (P : Program) (C : CallF) (L0 : Value → Value → Value → AHeap → K → Res) (v0 : Value) (v4 : Value) (v5 : Value) (H : AHeap) (k : K) : Res :=
bareK (xbin P .lss T.int (.tmp 8) (.tmp 9) v5 v0) H fun t10 h3 =>
mc t10 (fun k3 => k3 .normal [(0, v0), (4, v4), (5, v5)] h3) (fun k3 =>
k3 (.exit 0) [(10, t10), (9, v0), (8, v5), (0, v0), (4, v4), (5, v5)] h3) (seqK (fun tT h4 =>
ms (fun k4 =>
bareK (xbin P .mul T.int (.const (.int .i64 2)) (.tmp 13) (.int .i64 2) (get tT 4)) h4 fun t14 h5 =>
k4 .normal [(0, (get tT 0)), (4, t14), (5, (get tT 5))] h5) (seqK (fun tT_1 h6 =>
bareK (xbin P .add T.int (.tmp 11) (.const (.int .i64 1)) (get tT_1 5) (.int .i64 1)) h6 fun t12 h7 =>
k .normal [(0, (get tT_1 0)), (4, (get tT_1 4)), (5, t12)] h7) (afterK [0, 4, 5] k))) (afterK [0, 4, 5] k))

theorem s_ref26_Bounds_eq (M : CombL) (C : CallF) (LP : LoopH) (a0 : Value) (H : AHeap) : dBodyL M Try.prog hints C LP F.ref26_Bounds [a0] H = s_ref26_Bounds M.b.g M.c M.s Try.prog C (fun v0 v4 v5 H k => loopL M Try.prog hints C LP F.ref26_Bounds 0 [(0, v0), (4, v4), (5, v5)] H k) a0 H (endK Try.prog [.tmp 2, .tmp 3]) := by kernel_rfl

theorem s_ref26_Bounds_b0_eq (M : CombL) (C : CallF) (LP : LoopH) (v0 : Value) (v4 : Value) (v5 : Value) (H : AHeap) (k : K) : bodyL M Try.prog hints C LP F.ref26_Bounds 0 [(0, v0), (4, v4), (5, v5)] H (afterK [0, 4, 5] k) = s_ref26_Bounds_b0 M.b.g M.c M.s Try.prog C (fun v0 v4 v5 H k => loopL M Try.prog hints C LP F.ref26_Bounds 0 [(0, v0), (4, v4), (5, v5)] H k) v0 v4 v5 H k := by kernel_rfl

/-! (*ticketline.stats.Counter).Add -/

noncomputable def s_stats_Counter_Add (mg : GT) (mc : CT) (ms : ST) (P : Program) (C : CallF) (a0 : Value) (a1 : Value) (a2 : Value) (H : AHeap) (K0 : K) : Res :=
bareK (xbin P .eql T.p_stats_Counter (.tmp 9) (.const (.pointer none)) a0 (.pointer none)) H fun t10 h1 =>
mc t10 (fun k1 => k1 .ret [(6, (.int .i64 1))] h1) (fun k1 =>
k1 .normal [(0, a0), (1, a1), (2, a2)] h1) (seqK (fun tT h2 =>
bareK (xnilCheck (get tT 0)) h2 fun t13 h3 =>
bareK (fad 0 t13) h3 fun t14 h4 =>
bareK (ld1 h4 t14) h4 fun t15 h5 =>
bareK (xlookup P T.map_string_int t15 (get tT 1) true h5) h5 fun t17 h6 =>
bareK (xextract t17 0) h6 fun t18 h7 =>
bareK (xextract t17 1) h7 fun t19 h8 =>
ms (fun k2 =>
enterK C F.stats_named [(get tT 1)] h8 fun t22 h9 =>
bareK (xun P .not t22) h9 fun t23 h10 =>
mg t23 false (fun o3 => o3 (get tT 2) h10) h10 fun t25 h11 =>
mg t23 false (fun o4 => bareK (xbin P .lss T.int (.tmp 25) (.const (.int .i64 0)) t25 (.int .i64 0)) h11 o4) h11 fun t26 h12 =>
pickK t23 (.bool true) t26 fun t27 =>
mg t27 false (fun o5 => o5 (get tT 2) h12) h12 fun t29 h13 =>
mg t27 false (fun o6 => bareK (xbin P .gtr T.int (.tmp 29) (.const (.int .i64 4611686018427387904)) t29 (.int .i64 4611686018427387904)) h13 o6) h13 fun t30 h14 =>
pickK t27 (.bool true) t30 fun t31 =>
mc t31 (fun k7 => k7 .ret [(6, (.int .i64 2))] h14) (fun k7 =>
bareK (xbin P .eql T.int (.tmp 33) (.const (.int .i64 0)) (get tT 2) (.int .i64 0)) h14 fun t34 h15 =>
mc t34 (fun k8 => k8 .ret [(6, (.int .i64 0))] h15) (fun k8 =>
bareK (xnilCheck (get tT 0)) h15 fun t38 h16 =>
bareK (fad 1 t38) h16 fun t39 h17 =>
bareK (ld1 h17 t39) h17 fun t40 h18 =>
bareK (xbin P .sub T.int (.const (.int .i64 4611686018427387904)) (.tmp 40) (.int .i64 4611686018427387904) t40) h18 fun t41 h19 =>
bareK (xbin P .gtr T.int (.tmp 36) (.tmp 41) (get tT 2) t41) h19 fun t42 h20 =>
mg t42 false (fun o9 => o9 t19 h20) h20 fun t44 h21 =>
mg t42 false (fun o10 => bareK (xun P .not t44) h21 o10) h21 fun t45 h22 =>
mg t42 false (fun o11 => o11 t45 h22) h22 fun t46 h23 =>
mg t46 true (fun o12 => o12 (get tT 0) h23) h23 fun t47 h24 =>
mg t46 true (fun o13 => bareK (xnilCheck t47) h24 o13) h24 fun t48 h25 =>
mg t46 true (fun o14 => bareK (fad 0 t48) h25 o14) h25 fun t49 h26 =>
mg t46 true (fun o15 => bareK (ld1 h26 t49) h26 o15) h26 fun t50 h27 =>
mg t46 true (fun o16 => bareK (xlenM P [T.map_string_int] t50 h27) h27 o16) h27 fun t51 h28 =>
mg t46 true (fun o17 => bareK (xbin P .eql T.int (.tmp 51) (.const (.int .i64 1000)) t51 (.int .i64 1000)) h28 o17) h28 fun t52 h29 =>
mg t42 false (fun o18 => pickK t46 t52 (.bool false) fun v => o18 v h29) h29 fun t53 h30 =>
pickK t42 (.bool true) t53 fun t54 =>
mc t54 (fun k19 => k19 .ret [(6, (.int .i64 7))] h30) (fun k19 =>
bareK (xnilCheck (get tT 0)) h30 fun t57 h31 =>
bareK (fad 0 t57) h31 fun t58 h32 =>
bareK (ld1 h32 t58) h32 fun t59 h33 =>
bareK (xbin P .eql T.map_string_int (.tmp 59) (.const (.map none)) t59 (.map none)) h33 fun t60 h34 =>
mc t60 (fun k20 => bothK (xmakeMap P T.map_string_int none h34) fun t62 h35 =>
bareK (xnilCheck (get tT 0)) h35 fun t63 h36 =>
bareK (fad 0 t63) h36 fun t64 h37 =>
quietK (st1 h37 t64 t62) fun _ h38 =>
k20 .normal [(0, (get tT 0)), (1, (get tT 1)), (2, (get tT 2))] h38) (fun k20 =>
k20 .normal [(0, (get tT 0)), (1, (get tT 1)), (2, (get tT 2))] h34) (afterK [0, 1, 2] k19)) (afterK [0, 1, 2] k8)) (afterK [0, 1, 2] k7)) (blkK [0, 1, 2] 0 k2)) (seqK (fun tT_1 h39 =>
bareK (xnilCheck (get tT_1 0)) h39 fun t66 h40 =>
bareK (fad 0 t66) h40 fun t67 h41 =>
bareK (ld1 h41 t67) h41 fun t68 h42 =>
bareK (xlookup P T.map_string_int t68 (get tT_1 1) false h42) h42 fun t70 h43 =>
bareK (xbin P .add T.int (.tmp 70) (.tmp 71) t70 (get tT_1 2)) h43 fun t72 h44 =>
quietK (xmapUpdate P T.map_string_int t68 (get tT_1 1) t72 h44) fun _ h45 =>
bareK (xnilCheck (get tT_1 0)) h45 fun t74 h46 =>
bareK (fad 1 t74) h46 fun t75 h47 =>
bareK (ld1 h47 t75) h47 fun t76 h48 =>
bareK (xbin P .add T.int (.tmp 76) (.tmp 77) t76 (get tT_1 2)) h48 fun t78 h49 =>
bareK (xnilCheck (get tT_1 0)) h49 fun t79 h50 =>
bareK (fad 1 t79) h50 fun t80 h51 =>
quietK (st1 h51 t80 t78) fun _ h52 =>
K0 .ret [(6, (.int .i64 0))] h52) K0)) K0)

theorem s_stats_Counter_Add_eq (M : CombL) (C : CallF) (LP : LoopH) (a0 : Value) (a1 : Value) (a2 : Value) (H : AHeap) : dBodyL M Try.prog hints C LP F.stats_Counter_Add [a0, a1, a2] H = s_stats_Counter_Add M.b.g M.c M.s Try.prog C a0 a1 a2 H (endK Try.prog [.tmp 6]) := by kernel_rfl

/-! ticketline.ticketlinelaw26.label -/

noncomputable def s_law_label (mg : GT) (mc : CT) (ms : ST) (P : Program) (C : CallF) (a0 : Value) (H : AHeap) (K0 : K) : Res :=
bareK (xbin P .quo T.int (.tmp 3) (.const (.int .i64 1000)) a0 (.int .i64 1000)) H fun t4 h1 =>
bareK (xbin P .add T.int (.const (.int .i64 48)) (.tmp 4) (.int .i64 48) t4) h1 fun t5 h2 =>
bothK (xconv P T.int T.uint8 t5 h2) fun t6 h3 =>
bareK (xbin P .quo T.int (.tmp 7) (.const (.int .i64 100)) a0 (.int .i64 100)) h3 fun t8 h4 =>
bareK (xbin P .rem T.int (.tmp 8) (.const (.int .i64 10)) t8 (.int .i64 10)) h4 fun t9 h5 =>
bareK (xbin P .add T.int (.const (.int .i64 48)) (.tmp 9) (.int .i64 48) t9) h5 fun t10 h6 =>
bothK (xconv P T.int T.uint8 t10 h6) fun t11 h7 =>
bareK (xbin P .quo T.int (.tmp 12) (.const (.int .i64 10)) a0 (.int .i64 10)) h7 fun t13 h8 =>
bareK (xbin P .rem T.int (.tmp 13) (.const (.int .i64 10)) t13 (.int .i64 10)) h8 fun t14 h9 =>
bareK (xbin P .add T.int (.const (.int .i64 48)) (.tmp 14) (.int .i64 48) t14) h9 fun t15 h10 =>
bothK (xconv P T.int T.uint8 t15 h10) fun t16 h11 =>
bareK (xbin P .rem T.int (.tmp 17) (.const (.int .i64 10)) a0 (.int .i64 10)) h11 fun t18 h12 =>
bareK (xbin P .add T.int (.const (.int .i64 48)) (.tmp 18) (.int .i64 48) t18) h12 fun t19 h13 =>
bothK (xconv P T.int T.uint8 t19 h13) fun t20 h14 =>
bothK (bldL T.uint8 [(.int .u8 0)] 5 [(0, (.int .u8 110)), (1, t6), (2, t11), (3, t16), (4, t20)] h14) fun t21 h15 =>
bothK (xconv P T.sl_uint8 T.string t21 h15) fun t22 h16 =>
K0 .ret [(2, t22)] h16

theorem s_law_label_eq (M : CombL) (C : CallF) (LP : LoopH) (a0 : Value) (H : AHeap) : dBodyL M Try.prog hints C LP F.law_label [a0] H = s_law_label M.b.g M.c M.s Try.prog C a0 H (endK Try.prog [.tmp 2]) := by kernel_rfl

/-! (*ticketline.stats.Counter).Total -/

noncomputable def s_stats_Counter_Total (mg : GT) (mc : CT) (ms : ST) (P : Program) (C : CallF) (a0 : Value) (H : AHeap) (K0 : K) : Res :=
bareK (xbin P .eql T.p_stats_Counter (.tmp 3) (.const (.pointer none)) a0 (.pointer none)) H fun t4 h1 =>
mc t4 (fun k1 => k1 .ret [(2, (.int .i64 0))] h1) (fun k1 =>
k1 .normal [(0, a0)] h1) (seqK (fun tT h2 =>
bareK (xnilCheck (get tT 0)) h2 fun t6 h3 =>
bareK (fad 1 t6) h3 fun t7 h4 =>
bareK (ld1 h4 t7) h4 fun t8 h5 =>
K0 .ret [(2, t8)] h5) K0)

theorem s_stats_Counter_Total_eq (M : CombL) (C : CallF) (LP : LoopH) (a0 : Value) (H : AHeap) : dBodyL M Try.prog hints C LP F.stats_Counter_Total [a0] H = s_stats_Counter_Total M.b.g M.c M.s Try.prog C a0 H (endK Try.prog [.tmp 2]) := by kernel_rfl

/-! (*ticketline.stats.Counter).Get -/

noncomputable def s_stats_Counter_Get (mg : GT) (mc : CT) (ms : ST) (P : Program) (C : CallF) (a0 : Value) (a1 : Value) (H : AHeap) (K0 : K) : Res :=
bareK (xbin P .eql T.p_stats_Counter (.tmp 5) (.const (.pointer none)) a0 (.pointer none)) H fun t6 h1 =>
mc t6 (fun k1 => k1 .ret [(4, (.int .i64 0))] h1) (fun k1 =>
k1 .normal [(0, a0), (1, a1)] h1) (seqK (fun tT h2 =>
bareK (xnilCheck (get tT 0)) h2 fun t8 h3 =>
bareK (fad 0 t8) h3 fun t9 h4 =>
bareK (ld1 h4 t9) h4 fun t10 h5 =>
bareK (xlookup P T.map_string_int t10 (get tT 1) false h5) h5 fun t12 h6 =>
K0 .ret [(4, t12)] h6) K0)

theorem s_stats_Counter_Get_eq (M : CombL) (C : CallF) (LP : LoopH) (a0 : Value) (a1 : Value) (H : AHeap) : dBodyL M Try.prog hints C LP F.stats_Counter_Get [a0, a1] H = s_stats_Counter_Get M.b.g M.c M.s Try.prog C a0 a1 H (endK Try.prog [.tmp 4]) := by kernel_rfl

/-! (*ticketline.stats.Histogram).Add -/

noncomputable def s_stats_Histogram_Add (mg : GT) (mc : CT) (ms : ST) (P : Program) (C : CallF) (a0 : Value) (a1 : Value) (a2 : Value) (H : AHeap) (K0 : K) : Res :=
bareK (xbin P .eql T.p_stats_Histogram (.tmp 10) (.const (.pointer none)) a0 (.pointer none)) H fun t11 h1 =>
mc t11 (fun k1 => k1 .ret [(6, (.int .i64 1))] h1) (fun k1 =>
k1 .normal [(0, a0), (1, a1), (2, a2)] h1) (seqK (fun tT h2 =>
enterK C F.stats_Bucket [(get tT 1)] h2 fun t14 h3 =>
bareK (xextract t14 0) h3 fun t15 h4 =>
bareK (xextract t14 1) h4 fun t16 h5 =>
ms (fun k2 =>
bareK (xbin P .neq T.api_Errno (.tmp 18) (.const (.int .i64 0)) t16 (.int .i64 0)) h5 fun t19 h6 =>
mg t19 false (fun o3 => o3 (get tT 2) h6) h6 fun t21 h7 =>
mg t19 false (fun o4 => bareK (xbin P .lss T.int (.tmp 21) (.const (.int .i64 0)) t21 (.int .i64 0)) h7 o4) h7 fun t22 h8 =>
pickK t19 (.bool true) t22 fun t23 =>
mg t23 false (fun o5 => o5 (get tT 2) h8) h8 fun t25 h9 =>
mg t23 false (fun o6 => bareK (xbin P .gtr T.int (.tmp 25) (.const (.int .i64 1099511627776)) t25 (.int .i64 1099511627776)) h9 o6) h9 fun t26 h10 =>
pickK t23 (.bool true) t26 fun t27 =>
mc t27 (fun k7 => k7 .ret [(6, (.int .i64 2))] h10) (fun k7 =>
bareK (xbin P .eql T.int (.tmp 29) (.const (.int .i64 0)) (get tT 2) (.int .i64 0)) h10 fun t30 h11 =>
mc t30 (fun k8 => k8 .ret [(6, (.int .i64 0))] h11) (fun k8 =>
bareK (xbin P .gtr T.int (.tmp 32) (.const (.int .i64 0)) (get tT 1) (.int .i64 0)) h11 fun t33 h12 =>
mg t33 true (fun o9 => o9 (get tT 2) h12) h12 fun t35 h13 =>
mg t33 true (fun o10 => o10 (get tT 1) h13) h13 fun t36 h14 =>
mg t33 true (fun o11 => bareK (xbin P .quo T.int (.const (.int .i64 4611686018427387904)) (.tmp 36) (.int .i64 4611686018427387904) t36) h14 o11) h14 fun t37 h15 =>
mg t33 true (fun o12 => bareK (xbin P .gtr T.int (.tmp 35) (.tmp 37) t35 t37) h15 o12) h15 fun t38 h16 =>
pickK t33 t38 (.bool false) fun t39 =>
mc t39 (fun k13 => k13 .ret [(6, (.int .i64 7))] h16) (fun k13 =>
k13 .normal [(0, (get tT 0)), (1, (get tT 1)), (2, (get tT 2)), (7, t15)] h16) (afterK [0, 1, 2, 7] k8)) (afterK [0, 1, 2, 7] k7)) (blkK [0, 1, 2, 7] 0 k2)) (seqK (fun tT_1 h17 =>
bareK (xbin P .mul T.int (.tmp 41) (.tmp 42) (get tT_1 1) (get tT_1 2)) h17 fun t43 h18 =>
bareK (bldS #[(.int .i64 0), (.int .i64 0), (.int .i64 0), (.int .i64 0), (.int .i64 0), (.int .i64 0), (.int .i64 0), (.int .i64 0), (.int .i64 0), (.int .i64 0), (.int .i64 0), (.int .i64 0), (.int .i64 0), (.int .i64 0), (.int .i64 0), (.int .i64 0), (.int .i64 0), (.int .i64 0), (.int .i64 0), (.int .i64 0), (.int .i64 0), (.int .i64 0), (.int .i64 0), (.int .i64 0), (.int .i64 0), (.int .i64 0), (.int .i64 0), (.int .i64 0), (.int .i64 0), (.int .i64 0), (.int .i64 0), (.int .i64 0), (.int .i64 0), (.int .i64 0), (.int .i64 0), (.int .i64 0), (.int .i64 0), (.int .i64 0), (.int .i64 0), (.int .i64 0), (.int .i64 0), (.int .i64 0), (.int .i64 0), (.int .i64 0), (.int .i64 0), (.int .i64 0)] [(0, 42), (42, 1), (43, 1), (44, 1), (45, 1)] [(1, (get tT_1 2)), (2, t43), (3, (get tT_1 1)), (4, (get tT_1 1))]) h18 fun t46 h19 =>
bothK (newv T.stats_Histogram (.agg #[(.int .i64 0), (.int .i64 0), (.int .i64 0), (.int .i64 0), (.int .i64 0), (.int .i64 0), (.int .i64 0), (.int .i64 0), (.int .i64 0), (.int .i64 0), (.int .i64 0), (.int .i64 0), (.int .i64 0), (.int .i64 0), (.int .i64 0), (.int .i64 0), (.int .i64 0), (.int .i64 0), (.int .i64 0), (.int .i64 0), (.int .i64 0), (.int .i64 0), (.int .i64 0), (.int .i64 0), (.int .i64 0), (.int .i64 0), (.int .i64 0), (.int .i64 0), (.int .i64 0), (.int .i64 0), (.int .i64 0), (.int .i64 0), (.int .i64 0), (.int .i64 0), (.int .i64 0), (.int .i64 0), (.int .i64 0), (.int .i64 0), (.int .i64 0), (.int .i64 0), (.int .i64 0), (.int .i64 0), (.int .i64 0), (.int .i64 0), (.int .i64 0), (.int .i64 0)]) h19) fun t9 h20 =>
quietK (stN 46 h20 t9 t46) fun _ h21 =>
bareK (fad 0 t9) h21 fun t49 h22 =>
bareK (ixA 42 1 t49 (get tT_1 7)) h22 fun t50 h23 =>
quietK (st1 h23 t50 (get tT_1 2)) fun _ h24 =>
bareK (ldN 46 h24 t9) h24 fun t52 h25 =>
enterK C F.stats_Histogram_join [(get tT_1 0), t52] h25 fun t53 h26 =>
K0 .ret [(6, t53)] h26) K0)) K0)

theorem s_stats_Histogram_Add_eq (M : CombL) (C : CallF) (LP : LoopH) (a0 : Value) (a1 : Value) (a2 : Value) (H : AHeap) : dBodyL M Try.prog hints C LP F.stats_Histogram_Add [a0, a1, a2] H = s_stats_Histogram_Add M.b.g M.c M.s Try.prog C a0 a1 a2 H (endK Try.prog [.tmp 6]) := by kernel_rfl

/-! (*ticketline.stats.Histogram).Merge -/

noncomputable def s_stats_Histogram_Merge (mg : GT) (mc : CT) (ms : ST) (P : Program) (C : CallF) (a0 : Value) (a1 : Value) (H : AHeap) (K0 : K) : Res :=
bareK (xbin P .eql T.p_stats_Histogram (.tmp 5) (.const (.pointer none)) a0 (.pointer none)) H fun t6 h1 =>
mg t6 false (fun o1 => o1 a1 h1) h1 fun t8 h2 =>
mg t6 false (fun o2 => bareK (xbin P .eql T.p_stats_Histogram (.tmp 8) (.const (.pointer none)) t8 (.pointer none)) h2 o2) h2 fun t9 h3 =>
pickK t6 (.bool true) t9 fun t10 =>
mc t10 (fun k3 => k3 .ret [(4, (.int .i64 1))] h3) (fun k3 =>
k3 .normal [(0, a0), (1, a1)] h3) (seqK (fun tT h4 =>
bareK (xnilCheck (get tT 1)) h4 fun t13 h5 =>
bareK (ldN 46 h5 t13) h5 fun t14 h6 =>
enterK C F.stats_Histogram_join [(get tT 0), t14] h6 fun t15 h7 =>
K0 .ret [(4, t15)] h7) K0)

theorem s_stats_Histogram_Merge_eq (M : CombL) (C : CallF) (LP : LoopH) (a0 : Value) (a1 : Value) (H : AHeap) : dBodyL M Try.prog hints C LP F.stats_Histogram_Merge [a0, a1] H = s_stats_Histogram_Merge M.b.g M.c M.s Try.prog C a0 a1 H (endK Try.prog [.tmp 4]) := by kernel_rfl

/-! ticketline.ticketlinelaw26.same -/

noncomputable def s_law_same (mg : GT) (mc : CT) (ms : ST) (P : Program) (C : CallF) (a0 : Value) (a1 : Value) (H : AHeap) (K0 : K) : Res :=
enterK C F.stats_Histogram_Min [a0] H fun t15 h1 =>
bareK (xextract t15 0) h1 fun t16 h2 =>
bareK (xextract t15 1) h2 fun t17 h3 =>
enterK C F.stats_Histogram_Max [a0] h3 fun t20 h4 =>
bareK (xextract t20 0) h4 fun t21 h5 =>
bareK (xextract t20 1) h5 fun t22 h6 =>
enterK C F.stats_Histogram_Min [a1] h6 fun t25 h7 =>
bareK (xextract t25 0) h7 fun t26 h8 =>
bareK (xextract t25 1) h8 fun t27 h9 =>
enterK C F.stats_Histogram_Max [a1] h9 fun t30 h10 =>
bareK (xextract t30 0) h10 fun t31 h11 =>
bareK (xextract t30 1) h11 fun t32 h12 =>
enterK C F.stats_Histogram_Count [a0] h12 fun t34 h13 =>
enterK C F.stats_Histogram_Count [a1] h13 fun t36 h14 =>
bareK (xbin P .eql T.int (.tmp 34) (.tmp 36) t34 t36) h14 fun t37 h15 =>
mg t37 true (fun o1 => o1 a0 h15) h15 fun t39 h16 =>
mg t37 true (fun o2 => enterK C F.stats_Histogram_Sum [t39] h16 o2) h16 fun t40 h17 =>
mg t37 true (fun o3 => o3 a1 h17) h17 fun t41 h18 =>
mg t37 true (fun o4 => enterK C F.stats_Histogram_Sum [t41] h18 o4) h18 fun t42 h19 =>
mg t37 true (fun o5 => bareK (xbin P .eql T.int (.tmp 40) (.tmp 42) t40 t42) h19 o5) h19 fun t43 h20 =>
pickK t37 t43 (.bool false) fun t44 =>
mg t44 true (fun o6 => o6 a0 h20) h20 fun t46 h21 =>
mg t44 true (fun o7 => enterK C F.stats_Histogram_Buckets [t46] h21 o7) h21 fun t47 h22 =>
mg t44 true (fun o8 => o8 a1 h22) h22 fun t48 h23 =>
mg t44 true (fun o9 => enterK C F.stats_Histogram_Buckets [t48] h23 o9) h23 fun t49 h24 =>
mg t44 true (fun o10 => bareK (xbin P .eql T.n42_int (.tmp 47) (.tmp 49) t47 t49) h24 o10) h24 fun t50 h25 =>
pickK t44 t50 (.bool false) fun t51 =>
mg t51 true (fun o11 => o11 t16 h25) h25 fun t53 h26 =>
mg t51 true (fun o12 => o12 t26 h26) h26 fun t54 h27 =>
mg t51 true (fun o13 => bareK (xbin P .eql T.int (.tmp 53) (.tmp 54) t53 t54) h27 o13) h27 fun t55 h28 =>
pickK t51 t55 (.bool false) fun t56 =>
mg t56 true (fun o14 => o14 t21 h28) h28 fun t58 h29 =>
mg t56 true (fun o15 => o15 t31 h29) h29 fun t59 h30 =>
mg t56 true (fun o16 => bareK (xbin P .eql T.int (.tmp 58) (.tmp 59) t58 t59) h30 o16) h30 fun t60 h31 =>
pickK t56 t60 (.bool false) fun t61 =>
mg t61 true (fun o17 => o17 t17 h31) h31 fun t63 h32 =>
mg t61 true (fun o18 => o18 t27 h32) h32 fun t64 h33 =>
mg t61 true (fun o19 => bareK (xbin P .eql T.api_Errno (.tmp 63) (.tmp 64) t63 t64) h33 o19) h33 fun t65 h34 =>
pickK t61 t65 (.bool false) fun t66 =>
mg t66 true (fun o20 => o20 t22 h34) h34 fun t68 h35 =>
mg t66 true (fun o21 => o21 t32 h35) h35 fun t69 h36 =>
mg t66 true (fun o22 => bareK (xbin P .eql T.api_Errno (.tmp 68) (.tmp 69) t68 t69) h36 o22) h36 fun t70 h37 =>
pickK t66 t70 (.bool false) fun t71 =>
K0 .ret [(4, t71)] h37

theorem s_law_same_eq (M : CombL) (C : CallF) (LP : LoopH) (a0 : Value) (a1 : Value) (H : AHeap) : dBodyL M Try.prog hints C LP F.law_same [a0, a1] H = s_law_same M.b.g M.c M.s Try.prog C a0 a1 H (endK Try.prog [.tmp 4]) := by kernel_rfl

/-! (*ticketline.stats.Histogram).Buckets -/

noncomputable def s_stats_Histogram_Buckets (mg : GT) (mc : CT) (ms : ST) (P : Program) (C : CallF) (a0 : Value) (H : AHeap) (K0 : K) : Res :=
bothK (newv T.n42_int (.agg #[(.int .i64 0), (.int .i64 0), (.int .i64 0), (.int .i64 0), (.int .i64 0), (.int .i64 0), (.int .i64 0), (.int .i64 0), (.int .i64 0), (.int .i64 0), (.int .i64 0), (.int .i64 0), (.int .i64 0), (.int .i64 0), (.int .i64 0), (.int .i64 0), (.int .i64 0), (.int .i64 0), (.int .i64 0), (.int .i64 0), (.int .i64 0), (.int .i64 0), (.int .i64 0), (.int .i64 0), (.int .i64 0), (.int .i64 0), (.int .i64 0), (.int .i64 0), (.int .i64 0), (.int .i64 0), (.int .i64 0), (.int .i64 0), (.int .i64 0), (.int .i64 0), (.int .i64 0), (.int .i64 0), (.int .i64 0), (.int .i64 0), (.int .i64 0), (.int .i64 0), (.int .i64 0), (.int .i64 0)]) H) fun t2 h1 =>
bareK (xbin P .eql T.p_stats_Histogram (.tmp 3) (.const (.pointer none)) a0 (.pointer none)) h1 fun t4 h2 =>
mc t4 (fun k1 => bareK (bldA #[(.int .i64 0), (.int .i64 0), (.int .i64 0), (.int .i64 0), (.int .i64 0), (.int .i64 0), (.int .i64 0), (.int .i64 0), (.int .i64 0), (.int .i64 0), (.int .i64 0), (.int .i64 0), (.int .i64 0), (.int .i64 0), (.int .i64 0), (.int .i64 0), (.int .i64 0), (.int .i64 0), (.int .i64 0), (.int .i64 0), (.int .i64 0), (.int .i64 0), (.int .i64 0), (.int .i64 0), (.int .i64 0), (.int .i64 0), (.int .i64 0), (.int .i64 0), (.int .i64 0), (.int .i64 0), (.int .i64 0), (.int .i64 0), (.int .i64 0), (.int .i64 0), (.int .i64 0), (.int .i64 0), (.int .i64 0), (.int .i64 0), (.int .i64 0), (.int .i64 0), (.int .i64 0), (.int .i64 0)] 1 []) h2 fun t5 h3 =>
quietK (stN 42 h3 t2 t5) fun _ h4 =>
k1 .ret [(2, t2)] h4) (fun k1 =>
k1 .normal [(0, a0), (2, t2)] h2) (seqK (fun tT h5 =>
bareK (xnilCheck (get tT 0)) h5 fun t7 h6 =>
bareK (fad 0 t7) h6 fun t8 h7 =>
bareK (ldN 42 h7 t8) h7 fun t9 h8 =>
quietK (stN 42 h8 (get tT 2) t9) fun _ h9 =>
K0 .ret [(2, (get tT 2))] h9) K0)

theorem s_stats_Histogram_Buckets_eq (M : CombL) (C : CallF) (LP : LoopH) (a0 : Value) (H : AHeap) : dBodyL M Try.prog hints C LP F.stats_Histogram_Buckets [a0] H = s_stats_Histogram_Buckets M.b.g M.c M.s Try.prog C a0 H (endK Try.prog [.cell 2 T.n42_int]) := by kernel_rfl

/-! (*ticketline.stats.Histogram).Count -/

noncomputable def s_stats_Histogram_Count (mg : GT) (mc : CT) (ms : ST) (P : Program) (C : CallF) (a0 : Value) (H : AHeap) (K0 : K) : Res :=
bareK (xbin P .eql T.p_stats_Histogram (.tmp 3) (.const (.pointer none)) a0 (.pointer none)) H fun t4 h1 =>
mc t4 (fun k1 => k1 .ret [(2, (.int .i64 0))] h1) (fun k1 =>
k1 .normal [(0, a0)] h1) (seqK (fun tT h2 =>
bareK (xnilCheck (get tT 0)) h2 fun t6 h3 =>
bareK (fad 42 t6) h3 fun t7 h4 =>
bareK (ld1 h4 t7) h4 fun t8 h5 =>
K0 .ret [(2, t8)] h5) K0)

theorem s_stats_Histogram_Count_eq (M : CombL) (C : CallF) (LP : LoopH) (a0 : Value) (H : AHeap) : dBodyL M Try.prog hints C LP F.stats_Histogram_Count [a0] H = s_stats_Histogram_Count M.b.g M.c M.s Try.prog C a0 H (endK Try.prog [.tmp 2]) := by kernel_rfl

/-! ticketline.ticketlinelaw26.ends -/

noncomputable def s_law_ends (mg : GT) (mc : CT) (ms : ST) (P : Program) (C : CallF) (a0 : Value) (a1 : Value) (a2 : Value) (a3 : Value) (a4 : Value) (H : AHeap) (K0 : K) : Res :=
enterK C F.stats_Histogram_Min [a0] H fun t19 h1 =>
bareK (xextract t19 0) h1 fun t20 h2 =>
bareK (xextract t19 1) h2 fun t21 h3 =>
enterK C F.stats_Histogram_Max [a0] h3 fun t24 h4 =>
bareK (xextract t24 0) h4 fun t25 h5 =>
bareK (xextract t24 1) h5 fun t26 h6 =>
enterK C F.stats_Histogram_Mean [a0] h6 fun t29 h7 =>
bareK (xextract t29 0) h7 fun t30 h8 =>
bareK (xextract t29 1) h8 fun t31 h9 =>
bareK (xbin P .eql T.int (.tmp 32) (.tmp 33) t20 a1) h9 fun t34 h10 =>
mg t34 true (fun o1 => o1 t25 h10) h10 fun t36 h11 =>
mg t34 true (fun o2 => o2 a2 h11) h11 fun t37 h12 =>
mg t34 true (fun o3 => bareK (xbin P .eql T.int (.tmp 36) (.tmp 37) t36 t37) h12 o3) h12 fun t38 h13 =>
pickK t34 t38 (.bool false) fun t39 =>
mg t39 true (fun o4 => o4 t30 h13) h13 fun t41 h14 =>
mg t39 true (fun o5 => o5 a3 h14) h14 fun t42 h15 =>
mg t39 true (fun o6 => bareK (xbin P .eql T.int (.tmp 41) (.tmp 42) t41 t42) h15 o6) h15 fun t43 h16 =>
pickK t39 t43 (.bool false) fun t44 =>
mg t44 true (fun o7 => o7 t21 h16) h16 fun t46 h17 =>
mg t44 true (fun o8 => o8 a4 h17) h17 fun t47 h18 =>
mg t44 true (fun o9 => bareK (xbin P .eql T.api_Errno (.tmp 46) (.tmp 47) t46 t47) h18 o9) h18 fun t48 h19 =>
pickK t44 t48 (.bool false) fun t49 =>
mg t49 true (fun o10 => o10 t26 h19) h19 fun t51 h20 =>
mg t49 true (fun o11 => o11 a4 h20) h20 fun t52 h21 =>
mg t49 true (fun o12 => bareK (xbin P .eql T.api_Errno (.tmp 51) (.tmp 52) t51 t52) h21 o12) h21 fun t53 h22 =>
pickK t49 t53 (.bool false) fun t54 =>
mg t54 true (fun o13 => o13 t31 h22) h22 fun t56 h23 =>
mg t54 true (fun o14 => o14 a4 h23) h23 fun t57 h24 =>
mg t54 true (fun o15 => bareK (xbin P .eql T.api_Errno (.tmp 56) (.tmp 57) t56 t57) h24 o15) h24 fun t58 h25 =>
pickK t54 t58 (.bool false) fun t59 =>
K0 .ret [(10, t59)] h25

theorem s_law_ends_eq (M : CombL) (C : CallF) (LP : LoopH) (a0 : Value) (a1 : Value) (a2 : Value) (a3 : Value) (a4 : Value) (H : AHeap) : dBodyL M Try.prog hints C LP F.law_ends [a0, a1, a2, a3, a4] H = s_law_ends M.b.g M.c M.s Try.prog C a0 a1 a2 a3 a4 H (endK Try.prog [.tmp 10]) := by kernel_rfl

/-! (*ticketline.stats.Histogram).Min -/

noncomputable def s_stats_Histogram_Min (mg : GT) (mc : CT) (ms : ST) (P : Program) (C : CallF) (a0 : Value) (H : AHeap) (K0 : K) : Res :=
enterK C F.stats_Histogram_check [a0] H fun t6 h1 =>
bareK (xbin P .neq T.api_Errno (.tmp 7) (.const (.int .i64 0)) t6 (.int .i64 0)) h1 fun t8 h2 =>
mc t8 (fun k1 => k1 .ret [(2, (.int .i64 0)), (3, t6)] h2) (fun k1 =>
k1 .normal [(0, a0)] h2) (seqK (fun tT h3 =>
bareK (xnilCheck (get tT 0)) h3 fun t11 h4 =>
bareK (fad 44 t11) h4 fun t12 h5 =>
bareK (ld1 h5 t12) h5 fun t13 h6 =>
K0 .ret [(2, t13), (3, (.int .i64 0))] h6) K0)

theorem s_stats_Histogram_Min_eq (M : CombL) (C : CallF) (LP : LoopH) (a0 : Value) (H : AHeap) : dBodyL M Try.prog hints C LP F.stats_Histogram_Min [a0] H = s_stats_Histogram_Min M.b.g M.c M.s Try.prog C a0 H (endK Try.prog [.tmp 2, .tmp 3]) := by kernel_rfl

/-! (*ticketline.stats.Histogram).Max -/

noncomputable def s_stats_Histogram_Max (mg : GT) (mc : CT) (ms : ST) (P : Program) (C : CallF) (a0 : Value) (H : AHeap) (K0 : K) : Res :=
enterK C F.stats_Histogram_check [a0] H fun t6 h1 =>
bareK (xbin P .neq T.api_Errno (.tmp 7) (.const (.int .i64 0)) t6 (.int .i64 0)) h1 fun t8 h2 =>
mc t8 (fun k1 => k1 .ret [(2, (.int .i64 0)), (3, t6)] h2) (fun k1 =>
k1 .normal [(0, a0)] h2) (seqK (fun tT h3 =>
bareK (xnilCheck (get tT 0)) h3 fun t11 h4 =>
bareK (fad 45 t11) h4 fun t12 h5 =>
bareK (ld1 h5 t12) h5 fun t13 h6 =>
K0 .ret [(2, t13), (3, (.int .i64 0))] h6) K0)

theorem s_stats_Histogram_Max_eq (M : CombL) (C : CallF) (LP : LoopH) (a0 : Value) (H : AHeap) : dBodyL M Try.prog hints C LP F.stats_Histogram_Max [a0] H = s_stats_Histogram_Max M.b.g M.c M.s Try.prog C a0 H (endK Try.prog [.tmp 2, .tmp 3]) := by kernel_rfl

/-! (*ticketline.stats.Histogram).Mean -/

noncomputable def s_stats_Histogram_Mean (mg : GT) (mc : CT) (ms : ST) (P : Program) (C : CallF) (a0 : Value) (H : AHeap) (K0 : K) : Res :=
enterK C F.stats_Histogram_check [a0] H fun t6 h1 =>
bareK (xbin P .neq T.api_Errno (.tmp 7) (.const (.int .i64 0)) t6 (.int .i64 0)) h1 fun t8 h2 =>
mc t8 (fun k1 => k1 .ret [(2, (.int .i64 0)), (3, t6)] h2) (fun k1 =>
k1 .normal [(0, a0)] h2) (seqK (fun tT h3 =>
bareK (xnilCheck (get tT 0)) h3 fun t11 h4 =>
bareK (fad 43 t11) h4 fun t12 h5 =>
bareK (ld1 h5 t12) h5 fun t13 h6 =>
bareK (xnilCheck (get tT 0)) h6 fun t15 h7 =>
bareK (fad 42 t15) h7 fun t16 h8 =>
bareK (ld1 h8 t16) h8 fun t17 h9 =>
bareK (xbin P .quo T.int (.tmp 13) (.tmp 17) t13 t17) h9 fun t18 h10 =>
checkK true <|
K0 .ret [(2, t18), (3, (.int .i64 0))] h10) K0)

theorem s_stats_Histogram_Mean_eq (M : CombL) (C : CallF) (LP : LoopH) (a0 : Value) (H : AHeap) : dBodyL M Try.prog hints C LP F.stats_Histogram_Mean [a0] H = s_stats_Histogram_Mean M.b.g M.c M.s Try.prog C a0 H (endK Try.prog [.tmp 2, .tmp 3]) := by kernel_rfl

/-! (*ticketline.stats.Histogram).Quantile -/

noncomputable def s_stats_Histogram_Quantile (mg : GT) (mc : CT) (ms : ST) (P : Program) (C : CallF) (L0 : Value → Value → Value → Value → Value → AHeap → K → Res) (a0 : Value) (a1 : Value) (H : AHeap) (K0 : K) : Res :=
bareK (xbin P .eql T.p_stats_Histogram (.tmp 13) (.const (.pointer none)) a0 (.pointer none)) H fun t14 h1 =>
mc t14 (fun k1 => k1 .ret [(4, (.int .i64 0)), (5, (.int .i64 1))] h1) (fun k1 =>
k1 .normal [(0, a0), (1, a1)] h1) (seqK (fun tT h2 =>
bareK (xbin P .lss T.int (.tmp 15) (.const (.int .i64 0)) (get tT 1) (.int .i64 0)) h2 fun t16 h3 =>
mg t16 false (fun o2 => o2 (get tT 1) h3) h3 fun t18 h4 =>
mg t16 false (fun o3 => bareK (xbin P .gtr T.int (.tmp 18) (.const (.int .i64 1000)) t18 (.int .i64 1000)) h4 o3) h4 fun t19 h5 =>
pickK t16 (.bool true) t19 fun t20 =>
mc t20 (fun k4 => k4 .ret [(4, (.int .i64 0)), (5, (.int .i64 2))] h5) (fun k4 =>
k4 .normal [(0, (get tT 0)), (1, (get tT 1))] h5) (seqK (fun tT_1 h6 =>
enterK C F.stats_Histogram_check [(get tT_1 0)] h6 fun t22 h7 =>
bareK (xbin P .neq T.api_Errno (.tmp 23) (.const (.int .i64 0)) t22 (.int .i64 0)) h7 fun t24 h8 =>
mc t24 (fun k5 => k5 .ret [(4, (.int .i64 0)), (5, t22)] h8) (fun k5 =>
k5 .normal [(0, (get tT_1 0)), (1, (get tT_1 1))] h8) (seqK (fun tT_2 h9 =>
bareK (xnilCheck (get tT_2 0)) h9 fun t27 h10 =>
bareK (fad 0 t27) h10 fun t28 h11 =>
bareK (ldN 42 h11 t28) h11 fun t29 h12 =>
ms (fun k6 =>
L0 (get tT_2 0) (get tT_2 1) (.int .i64 0) t29 (.int .i64 0) h12 (blkK [0] 0 k6)) (seqK (fun tT_3 h13 =>
bareK (xnilCheck (get tT_3 0)) h13 fun t65 h14 =>
bareK (fad 45 t65) h14 fun t66 h15 =>
bareK (ld1 h15 t66) h15 fun t67 h16 =>
K0 .ret [(4, t67), (5, (.int .i64 0))] h16) K0)) K0)) K0)) K0)

noncomputable def s_stats_Histogram_Quantile_b0 (mg : GT) (mc : CT) (ms : ST) (P : Program) (C : CallF) (L0 : Value → Value → Value → Value → Value → AHeap → K → Res) (v0 : Value) (v1 : Value) (v7 : Value) (v29 : Value) (v30 : Value) (H : AHeap) (k : K) : Res :=
bareK (xbin P .lss T.int (.tmp 30) (.const (.int .i64 42)) v30 (.int .i64 42)) H fun t31 h13 =>
mc t31 (fun k7 => k7 .normal [(0, v0), (1, v1), (7, v7), (29, v29), (30, v30)] h13) (fun k7 =>
k7 (.exit 0) [(31, t31), (0, v0), (1, v1), (7, v7), (29, v29), (30, v30)] h13) (seqK (fun tT h14 =>
ms (fun k8 =>
bareK (xindex P T.n42_int (get tT 29) (get tT 30)) h14 fun t33 h15 =>
bareK (xbin P .add T.int (.tmp 34) (.tmp 35) (get tT 7) t33) h15 fun t36 h16 =>
bareK (xbin P .gtr T.int (.tmp 37) (.const (.int .i64 0)) t33 (.int .i64 0)) h16 fun t38 h17 =>
mg t38 true (fun o9 => o9 t36 h17) h17 fun t40 h18 =>
mg t38 true (fun o10 => bareK (xbin P .mul T.int (.const (.int .i64 1000)) (.tmp 40) (.int .i64 1000) t40) h18 o10) h18 fun t41 h19 =>
mg t38 true (fun o11 => o11 (get tT 1) h19) h19 fun t42 h20 =>
mg t38 true (fun o12 => o12 (get tT 0) h20) h20 fun t43 h21 =>
mg t38 true (fun o13 => bareK (xnilCheck t43) h21 o13) h21 fun t44 h22 =>
mg t38 true (fun o14 => bareK (fad 42 t44) h22 o14) h22 fun t45 h23 =>
mg t38 true (fun o15 => bareK (ld1 h23 t45) h23 o15) h23 fun t46 h24 =>
mg t38 true (fun o16 => bareK (xbin P .mul T.int (.tmp 42) (.tmp 46) t42 t46) h24 o16) h24 fun t47 h25 =>
mg t38 true (fun o17 => bareK (xbin P .geq T.int (.tmp 41) (.tmp 47) t41 t47) h25 o17) h25 fun t48 h26 =>
pickK t38 t48 (.bool false) fun t49 =>
mc t49 (fun k18 => enterK C F.stats_Bounds [(get tT 30)] h26 fun t52 h27 =>
bareK (xextract t52 0) h27 fun t53 h28 =>
bareK (xextract t52 1) h28 fun t54 h29 =>
bareK (xextract t52 2) h29 fun t55 h30 =>
bareK (xnilCheck (get tT 0)) h30 fun t58 h31 =>
bareK (fad 45 t58) h31 fun t59 h32 =>
bareK (ld1 h32 t59) h32 fun t60 h33 =>
nextK C h33 (xbuiltin P .min [T.int, T.int] [t54, t60] h33) fun t61 h34 =>
k18 .ret [(4, t61), (5, t55)] h34) (fun k18 =>
k18 .normal [(0, (get tT 0)), (1, (get tT 1)), (7, t36), (29, (get tT 29)), (30, (get tT 30))] h26) (blkK [0, 1, 7, 29, 30] 1 k8)) (seqK (fun tT_1 h35 =>
bareK (xbin P .add T.int (.tmp 30) (.const (.int .i64 1)) (get tT_1 30) (.int .i64 1)) h35 fun t63 h36 =>
k .normal [(0, (get tT_1 0)), (1, (get tT_1 1)), (7, (get tT_1 7)), (29, (get tT_1 29)), (30, t63)] h36) (afterK [0, 1, 7, 29, 30] k))) (afterK [0, 1, 7, 29, 30] k))

theorem s_stats_Histogram_Quantile_eq (M : CombL) (C : CallF) (LP : LoopH) (a0 : Value) (a1 : Value) (H : AHeap) : dBodyL M Try.prog hints C LP F.stats_Histogram_Quantile [a0, a1] H = s_stats_Histogram_Quantile M.b.g M.c M.s Try.prog C (fun v0 v1 v7 v29 v30 H k => loopL M Try.prog hints C LP F.stats_Histogram_Quantile 0 [(0, v0), (1, v1), (7, v7), (29, v29), (30, v30)] H k) a0 a1 H (endK Try.prog [.tmp 4, .tmp 5]) := by kernel_rfl

theorem s_stats_Histogram_Quantile_b0_eq (M : CombL) (C : CallF) (LP : LoopH) (v0 : Value) (v1 : Value) (v7 : Value) (v29 : Value) (v30 : Value) (H : AHeap) (k : K) : bodyL M Try.prog hints C LP F.stats_Histogram_Quantile 0 [(0, v0), (1, v1), (7, v7), (29, v29), (30, v30)] H (afterK [0, 1, 7, 29, 30] k) = s_stats_Histogram_Quantile_b0 M.b.g M.c M.s Try.prog C (fun v0 v1 v7 v29 v30 H k => loopL M Try.prog hints C LP F.stats_Histogram_Quantile 0 [(0, v0), (1, v1), (7, v7), (29, v29), (30, v30)] H k) v0 v1 v7 v29 v30 H k := by kernel_rfl

/-! (*ticketline.stats.Counter).Copy -/

noncomputable def s_stats_Counter_Copy (mg : GT) (mc : CT) (ms : ST) (P : Program) (C : CallF) (a0 : Value) (H : AHeap) (K0 : K) : Res :=
bareK (xbin P .eql T.p_stats_Counter (.tmp 3) (.const (.pointer none)) a0 (.pointer none)) H fun t4 h1 =>
mc t4 (fun k1 => k1 .ret [(2, (.pointer none))] h1) (fun k1 =>
k1 .normal [(0, a0)] h1) (seqK (fun tT h2 =>
bareK (xnilCheck (get tT 0)) h2 fun t6 h3 =>
bareK (fad 0 t6) h3 fun t7 h4 =>
bareK (ld1 h4 t7) h4 fun t8 h5 =>
enterK C F.maps_Clone_int [t8] h5 fun t9 h6 =>
bareK (xnilCheck (get tT 0)) h6 fun t11 h7 =>
bareK (fad 1 t11) h7 fun t12 h8 =>
bareK (ld1 h8 t12) h8 fun t13 h9 =>
bareK (bldS #[(.map none), (.int .i64 0)] [(0, 1), (1, 1)] [(0, t9), (1, t13)]) h9 fun t14 h10 =>
bothK (newv T.stats_Counter t14 h10) fun t15 h11 =>
checkK (okV (some true) none h5 h6 h6 h6 && (okV (some true) none h5 h6 h6 h7 && (okV (some true) none h5 h6 h7 h8 && (okV (some true) (blockOf t12) h5 h6 h8 h9 && true)))) <|
K0 .ret [(2, t15)] h11) K0)

theorem s_stats_Counter_Copy_eq (M : CombL) (C : CallF) (LP : LoopH) (a0 : Value) (H : AHeap) : dBodyL M Try.prog hints C LP F.stats_Counter_Copy [a0] H = s_stats_Counter_Copy M.b.g M.c M.s Try.prog C a0 H (endK Try.prog [.tmp 2]) := by kernel_rfl

/-! (*ticketline.ticketlineref26.Counter).Add -/

noncomputable def s_ref26_Counter_Add (mg : GT) (mc : CT) (ms : ST) (P : Program) (C : CallF) (L0 : Value → Value → Value → Value → Value → AHeap → K → Res) (a0 : Value) (a1 : Value) (a2 : Value) (H : AHeap) (K0 : K) : Res :=
enterK C F.ref26_name [a1] H fun t11 h1 =>
bareK (xun P .not t11) h1 fun t12 h2 =>
mg t12 false (fun o1 => o1 a2 h2) h2 fun t14 h3 =>
mg t12 false (fun o2 => bareK (xbin P .lss T.int (.tmp 14) (.const (.int .i64 0)) t14 (.int .i64 0)) h3 o2) h3 fun t15 h4 =>
pickK t12 (.bool true) t15 fun t16 =>
mg t16 false (fun o3 => o3 a2 h4) h4 fun t18 h5 =>
mg t16 false (fun o4 => bareK (xbin P .gtr T.int (.tmp 18) (.const (.int .i64 4611686018427387904)) t18 (.int .i64 4611686018427387904)) h5 o4) h5 fun t19 h6 =>
pickK t16 (.bool true) t19 fun t20 =>
mc t20 (fun k5 => k5 .ret [(6, (.int .i64 2))] h6) (fun k5 =>
k5 .normal [(0, a0), (1, a1), (2, a2)] h6) (seqK (fun tT h7 =>
bareK (xbin P .eql T.int (.tmp 21) (.const (.int .i64 0)) (get tT 2) (.int .i64 0)) h7 fun t22 h8 =>
mc t22 (fun k6 => k6 .ret [(6, (.int .i64 0))] h8) (fun k6 =>
k6 .normal [(0, (get tT 0)), (1, (get tT 1)), (2, (get tT 2))] h8) (seqK (fun tT_1 h9 =>
enterK C F.ref26_Counter_Total [(get tT_1 0)] h9 fun t25 h10 =>
bareK (xbin P .sub T.int (.const (.int .i64 4611686018427387904)) (.tmp 25) (.int .i64 4611686018427387904) t25) h10 fun t26 h11 =>
bareK (xbin P .gtr T.int (.tmp 23) (.tmp 26) (get tT_1 2) t26) h11 fun t27 h12 =>
mc t27 (fun k7 => k7 .ret [(6, (.int .i64 7))] h12) (fun k7 =>
k7 .normal [(0, (get tT_1 0)), (1, (get tT_1 1)), (2, (get tT_1 2))] h12) (seqK (fun tT_2 h13 =>
bareK (xnilCheck (get tT_2 0)) h13 fun t29 h14 =>
bareK (fad 0 t29) h14 fun t30 h15 =>
bareK (ld1 h15 t30) h15 fun t31 h16 =>
bothK (app T.ref26_Named 2 24 (.slice none 0 0) (srcS 2 t31 h16) h16) fun t32 h17 =>
ms (fun k8 =>
L0 (get tT_2 0) (get tT_2 1) (get tT_2 2) t32 (.int .i64 0) h17 (blkK [0, 1, 2, 7, 8] 0 k8)) (seqK (fun tT_3 h18 =>
bareK (lenS (get tT_3 7)) h18 fun t50 h19 =>
bareK (xbin P .lss T.int (.tmp 48) (.tmp 50) (get tT_3 8) t50) h19 fun t51 h20 =>
mg t51 true (fun o9 => o9 (get tT_3 7) h20) h20 fun t53 h21 =>
mg t51 true (fun o10 => o10 (get tT_3 8) h21) h21 fun t54 h22 =>
mg t51 true (fun o11 => bareK (ixS 2 t53 t54) h22 o11) h22 fun t55 h23 =>
mg t51 true (fun o12 => bareK (fad 0 t55) h23 o12) h23 fun t56 h24 =>
mg t51 true (fun o13 => bareK (ld1 h24 t56) h24 o13) h24 fun t57 h25 =>
mg t51 true (fun o14 => o14 (get tT_3 1) h25) h25 fun t58 h26 =>
mg t51 true (fun o15 => bareK (xbin P .eql T.string (.tmp 57) (.tmp 58) t57 t58) h26 o15) h26 fun t59 h27 =>
pickK t51 t59 (.bool false) fun t60 =>
mc t60 (fun k16 => bareK (ixS 2 (get tT_3 7) (get tT_3 8)) h27 fun t65 h28 =>
bareK (fad 1 t65) h28 fun t66 h29 =>
bareK (ld1 h29 t66) h29 fun t67 h30 =>
bareK (xbin P .add T.int (.tmp 67) (.tmp 68) t67 (get tT_3 2)) h30 fun t69 h31 =>
bareK (ixS 2 (get tT_3 7) (get tT_3 8)) h31 fun t70 h32 =>
bareK (fad 1 t70) h32 fun t71 h33 =>
quietK (st1 h33 t71 t69) fun _ h34 =>
bareK (xnilCheck (get tT_3 0)) h34 fun t74 h35 =>
bareK (fad 0 t74) h35 fun t75 h36 =>
quietK (st1 h36 t75 (get tT_3 7)) fun _ h37 =>
k16 .ret [(6, (.int .i64 0))] h37) (fun k16 =>
k16 .normal [(0, (get tT_3 0)), (1, (get tT_3 1)), (2, (get tT_3 2)), (7, (get tT_3 7)), (8, (get tT_3 8))] h27) (seqK (fun tT_4 h38 =>
bareK (lenS (get tT_4 7)) h38 fun t77 h39 =>
bareK (xbin P .geq T.int (.tmp 77) (.const (.int .i64 1000)) t77 (.int .i64 1000)) h39 fun t78 h40 =>
mc t78 (fun k17 => k17 .ret [(6, (.int .i64 7))] h40) (fun k17 =>
k17 .normal [(0, (get tT_4 0)), (1, (get tT_4 1)), (2, (get tT_4 2)), (7, (get tT_4 7)), (8, (get tT_4 8))] h40) (seqK (fun tT_5 h41 =>
bareK (bldS #[(.string (mk [])), (.int .i64 0)] [(0, 1), (1, 1)] [(0, (get tT_5 1)), (1, (get tT_5 2))]) h41 fun t81 h42 =>
bothK (bldL T.ref26_Named [(.string (mk [])), (.int .i64 0)] 1 [(0, t81)] h42) fun t82 h43 =>
bareK (slS T.ref26_Named 2 (get tT_5 7) (some (get tT_5 8)) none none h43) h43 fun t85 h44 =>
bothK (app T.ref26_Named 2 24 t82 (srcS 2 t85 h44) h44) fun t86 h45 =>
bareK (slS T.ref26_Named 2 (get tT_5 7) none (some (get tT_5 8)) none h45) h45 fun t90 h46 =>
bothK (app T.ref26_Named 2 24 (.slice none 0 0) (srcS 2 t90 h46) h46) fun t91 h47 =>
bothK (app T.ref26_Named 2 24 t91 (srcS 2 t86 h47) h47) fun t93 h48 =>
bareK (xnilCheck (get tT_5 0)) h48 fun t94 h49 =>
bareK (fad 0 t94) h49 fun t95 h50 =>
quietK (st1 h50 t95 t93) fun _ h51 =>
K0 .ret [(6, (.int .i64 0))] h51) K0)) K0)) K0)) K0)) K0)) K0)

noncomputable def s_ref26_Counter_Add_b0 (mg : GT) (mc : CT) (ms : ST) (P : Program) (C : CallF) (L0 : Value → Value → Value → Value → Value → AHeap → K → Res) (v0 : Value) (v1 : Value) (v2 : Value) (v7 : Value) (v8 : Value) (H : AHeap) (k : K) : Res :=
bareK (lenS v7) H fun t35 h18 =>
bareK (xbin P .lss T.int (.tmp 33) (.tmp 35) v8 t35) h18 fun t36 h19 =>
mg t36 true (fun o9 => o9 v7 h19) h19 fun t38 h20 =>
mg t36 true (fun o10 => o10 v8 h20) h20 fun t39 h21 =>
mg t36 true (fun o11 => bareK (ixS 2 t38 t39) h21 o11) h21 fun t40 h22 =>
mg t36 true (fun o12 => bareK (fad 0 t40) h22 o12) h22 fun t41 h23 =>
mg t36 true (fun o13 => bareK (ld1 h23 t41) h23 o13) h23 fun t42 h24 =>
mg t36 true (fun o14 => o14 v1 h24) h24 fun t43 h25 =>
mg t36 true (fun o15 => bareK (xbin P .lss T.string (.tmp 42) (.tmp 43) t42 t43) h25 o15) h25 fun t44 h26 =>
pickK t36 t44 (.bool false) fun t45 =>
mc t45 (fun k16 => k16 .normal [(0, v0), (1, v1), (2, v2), (7, v7), (8, v8)] h26) (fun k16 =>
k16 (.exit 0) [(45, t45), (44, t44), (43, t43), (42, t42), (41, t41), (40, t40), (39, t39), (38, t38), (37, t36), (36, t36), (35, t35), (34, v7), (33, v8), (0, v0), (1, v1), (2, v2), (7, v7), (8, v8)] h26) (seqK (fun tT h27 =>
ms (fun k17 =>
bareK (xbin P .add T.int (.tmp 46) (.const (.int .i64 1)) (get tT 8) (.int .i64 1)) h27 fun t47 h28 =>
k17 .normal [(0, (get tT 0)), (1, (get tT 1)), (2, (get tT 2)), (7, (get tT 7)), (8, t47)] h28) (afterK [0, 1, 2, 7, 8] k)) (afterK [0, 1, 2, 7, 8] k))

theorem s_ref26_Counter_Add_eq (M : CombL) (C : CallF) (LP : LoopH) (a0 : Value) (a1 : Value) (a2 : Value) (H : AHeap) : dBodyL M Try.prog hints C LP F.ref26_Counter_Add [a0, a1, a2] H = s_ref26_Counter_Add M.b.g M.c M.s Try.prog C (fun v0 v1 v2 v7 v8 H k => loopL M Try.prog hints C LP F.ref26_Counter_Add 0 [(0, v0), (1, v1), (2, v2), (7, v7), (8, v8)] H k) a0 a1 a2 H (endK Try.prog [.tmp 6]) := by kernel_rfl

theorem s_ref26_Counter_Add_b0_eq (M : CombL) (C : CallF) (LP : LoopH) (v0 : Value) (v1 : Value) (v2 : Value) (v7 : Value) (v8 : Value) (H : AHeap) (k : K) : bodyL M Try.prog hints C LP F.ref26_Counter_Add 0 [(0, v0), (1, v1), (2, v2), (7, v7), (8, v8)] H (afterK [0, 1, 2, 7, 8] k) = s_ref26_Counter_Add_b0 M.b.g M.c M.s Try.prog C (fun v0 v1 v2 v7 v8 H k => loopL M Try.prog hints C LP F.ref26_Counter_Add 0 [(0, v0), (1, v1), (2, v2), (7, v7), (8, v8)] H k) v0 v1 v2 v7 v8 H k := by kernel_rfl

/-! (*ticketline.ticketlineref26.Counter).Total -/

noncomputable def s_ref26_Counter_Total (mg : GT) (mc : CT) (ms : ST) (P : Program) (C : CallF) (L0 : Value → Value → Value → AHeap → K → Res) (a0 : Value) (H : AHeap) (K0 : K) : Res :=
ms (fun k1 =>
L0 a0 (.int .i64 0) (.int .i64 0) H (blkK [3] 0 k1)) (seqK (fun tT h1 =>
K0 .ret [(2, (get tT 3))] h1) K0)

noncomputable def s_ref26_Counter_Total_b0 (mg : GT) (mc : CT) (ms : ST) (P : Program) (C : CallF) (L0 : Value → Value → Value → AHeap → K → Res) (v0 : Value) (v3 : Value) (v4 : Value) (H : AHeap) (k : K) : Res :=
bareK (xnilCheck v0) H fun t7 h1 =>
bareK (fad 0 t7) h1 fun t8 h2 =>
bareK (ld1 h2 t8) h2 fun t9 h3 =>
bareK (lenS t9) h3 fun t10 h4 =>
bareK (xbin P .lss T.int (.tmp 5) (.tmp 10) v4 t10) h4 fun t11 h5 =>
mc t11 (fun k2 => k2 .normal [(0, v0), (3, v3), (4, v4)] h5) (fun k2 =>
k2 (.exit 0) [(11, t11), (10, t10), (9, t9), (8, t8), (7, t7), (6, v0), (5, v4), (0, v0), (3, v3), (4, v4)] h5) (seqK (fun tT h6 =>
ms (fun k3 =>
bareK (xnilCheck (get tT 0)) h6 fun t16 h7 =>
bareK (fad 0 t16) h7 fun t17 h8 =>
bareK (ld1 h8 t17) h8 fun t18 h9 =>
bareK (ixS 2 t18 (get tT 4)) h9 fun t20 h10 =>
bareK (fad 1 t20) h10 fun t21 h11 =>
bareK (ld1 h11 t21) h11 fun t22 h12 =>
bareK (xbin P .add T.int (.tmp 14) (.tmp 22) (get tT 3) t22) h12 fun t23 h13 =>
k3 .normal [(0, (get tT 0)), (3, t23), (4, (get tT 4))] h13) (seqK (fun tT_1 h14 =>
bareK (xbin P .add T.int (.tmp 12) (.const (.int .i64 1)) (get tT_1 4) (.int .i64 1)) h14 fun t13 h15 =>
k .normal [(0, (get tT_1 0)), (3, (get tT_1 3)), (4, t13)] h15) (afterK [0, 3, 4] k))) (afterK [0, 3, 4] k))

theorem s_ref26_Counter_Total_eq (M : CombL) (C : CallF) (LP : LoopH) (a0 : Value) (H : AHeap) : dBodyL M Try.prog hints C LP F.ref26_Counter_Total [a0] H = s_ref26_Counter_Total M.b.g M.c M.s Try.prog C (fun v0 v3 v4 H k => loopL M Try.prog hints C LP F.ref26_Counter_Total 0 [(0, v0), (3, v3), (4, v4)] H k) a0 H (endK Try.prog [.tmp 2]) := by kernel_rfl

theorem s_ref26_Counter_Total_b0_eq (M : CombL) (C : CallF) (LP : LoopH) (v0 : Value) (v3 : Value) (v4 : Value) (H : AHeap) (k : K) : bodyL M Try.prog hints C LP F.ref26_Counter_Total 0 [(0, v0), (3, v3), (4, v4)] H (afterK [0, 3, 4] k) = s_ref26_Counter_Total_b0 M.b.g M.c M.s Try.prog C (fun v0 v3 v4 H k => loopL M Try.prog hints C LP F.ref26_Counter_Total 0 [(0, v0), (3, v3), (4, v4)] H k) v0 v3 v4 H k := by kernel_rfl

/-! (*ticketline.ticketlineref26.Histogram).Add -/

noncomputable def s_ref26_Histogram_Add (mg : GT) (mc : CT) (ms : ST) (P : Program) (C : CallF) (a0 : Value) (a1 : Value) (a2 : Value) (H : AHeap) (K0 : K) : Res :=
bareK (xbin P .lss T.int (.tmp 7) (.const (.int .i64 0)) a1 (.int .i64 0)) H fun t8 h1 =>
mg t8 false (fun o1 => o1 a1 h1) h1 fun t10 h2 =>
mg t8 false (fun o2 => bareK (xbin P .gtr T.int (.tmp 10) (.const (.int .i64 1099511627776)) t10 (.int .i64 1099511627776)) h2 o2) h2 fun t11 h3 =>
pickK t8 (.bool true) t11 fun t12 =>
mg t12 false (fun o3 => o3 a2 h3) h3 fun t14 h4 =>
mg t12 false (fun o4 => bareK (xbin P .lss T.int (.tmp 14) (.const (.int .i64 0)) t14 (.int .i64 0)) h4 o4) h4 fun t15 h5 =>
pickK t12 (.bool true) t15 fun t16 =>
mg t16 false (fun o5 => o5 a2 h5) h5 fun t18 h6 =>
mg t16 false (fun o6 => bareK (xbin P .gtr T.int (.tmp 18) (.const (.int .i64 1099511627776)) t18 (.int .i64 1099511627776)) h6 o6) h6 fun t19 h7 =>
pickK t16 (.bool true) t19 fun t20 =>
mc t20 (fun k7 => k7 .ret [(6, (.int .i64 2))] h7) (fun k7 =>
k7 .normal [(0, a0), (1, a1), (2, a2)] h7) (seqK (fun tT h8 =>
bareK (xbin P .eql T.int (.tmp 21) (.const (.int .i64 0)) (get tT 2) (.int .i64 0)) h8 fun t22 h9 =>
mc t22 (fun k8 => k8 .ret [(6, (.int .i64 0))] h9) (fun k8 =>
k8 .normal [(0, (get tT 0)), (1, (get tT 1)), (2, (get tT 2))] h9) (seqK (fun tT_1 h10 =>
enterK C F.ref26_Histogram_Count [(get tT_1 0)] h10 fun t24 h11 =>
bareK (xbin P .add T.int (.tmp 24) (.tmp 25) t24 (get tT_1 2)) h11 fun t26 h12 =>
bareK (xbin P .gtr T.int (.tmp 26) (.const (.int .i64 1099511627776)) t26 (.int .i64 1099511627776)) h12 fun t27 h13 =>
mg t27 false (fun o9 => o9 (get tT_1 1) h13) h13 fun t29 h14 =>
mg t27 false (fun o10 => bareK (xbin P .gtr T.int (.tmp 29) (.const (.int .i64 0)) t29 (.int .i64 0)) h14 o10) h14 fun t30 h15 =>
mg t27 false (fun o11 => o11 t30 h15) h15 fun t31 h16 =>
mg t31 true (fun o12 => o12 (get tT_1 2) h16) h16 fun t32 h17 =>
mg t31 true (fun o13 => o13 (get tT_1 0) h17) h17 fun t33 h18 =>
mg t31 true (fun o14 => enterK C F.ref26_Histogram_Sum [t33] h18 o14) h18 fun t34 h19 =>
mg t31 true (fun o15 => bareK (xbin P .sub T.int (.const (.int .i64 4611686018427387904)) (.tmp 34) (.int .i64 4611686018427387904) t34) h19 o15) h19 fun t35 h20 =>
mg t31 true (fun o16 => o16 (get tT_1 1) h20) h20 fun t36 h21 =>
mg t31 true (fun o17 => bareK (xbin P .quo T.int (.tmp 35) (.tmp 36) t35 t36) h21 o17) h21 fun t37 h22 =>
mg t31 true (fun o18 => bareK (xbin P .gtr T.int (.tmp 32) (.tmp 37) t32 t37) h22 o18) h22 fun t38 h23 =>
mg t27 false (fun o19 => pickK t31 t38 (.bool false) fun v => o19 v h23) h23 fun t39 h24 =>
pickK t27 (.bool true) t39 fun t40 =>
mc t40 (fun k20 => k20 .ret [(6, (.int .i64 7))] h24) (fun k20 =>
k20 .normal [(0, (get tT_1 0)), (1, (get tT_1 1)), (2, (get tT_1 2))] h24) (seqK (fun tT_2 h25 =>
bareK (xnilCheck (get tT_2 0)) h25 fun t43 h26 =>
bareK (fad 0 t43) h26 fun t44 h27 =>
bareK (ld1 h27 t44) h27 fun t45 h28 =>
bothK (app T.ref26_Counted 2 16 (.slice none 0 0) (srcS 2 t45 h28) h28) fun t46 h29 =>
bareK (bldS #[(.int .i64 0), (.int .i64 0)] [(0, 1), (1, 1)] [(0, (get tT_2 1)), (1, (get tT_2 2))]) h29 fun t49 h30 =>
bothK (bldL T.ref26_Counted [(.int .i64 0), (.int .i64 0)] 1 [(0, t49)] h30) fun t50 h31 =>
bothK (app T.ref26_Counted 2 16 t46 (srcS 2 t50 h31) h31) fun t51 h32 =>
bareK (xnilCheck (get tT_2 0)) h32 fun t52 h33 =>
bareK (fad 0 t52) h33 fun t53 h34 =>
quietK (st1 h34 t53 t51) fun _ h35 =>
K0 .ret [(6, (.int .i64 0))] h35) K0)) K0)) K0)

theorem s_ref26_Histogram_Add_eq (M : CombL) (C : CallF) (LP : LoopH) (a0 : Value) (a1 : Value) (a2 : Value) (H : AHeap) : dBodyL M Try.prog hints C LP F.ref26_Histogram_Add [a0, a1, a2] H = s_ref26_Histogram_Add M.b.g M.c M.s Try.prog C a0 a1 a2 H (endK Try.prog [.tmp 6]) := by kernel_rfl

/-! (*ticketline.ticketlineref26.Histogram).Merge -/

noncomputable def s_ref26_Histogram_Merge (mg : GT) (mc : CT) (ms : ST) (P : Program) (C : CallF) (a0 : Value) (a1 : Value) (H : AHeap) (K0 : K) : Res :=
enterK C F.ref26_Histogram_Count [a0] H fun t6 h1 =>
enterK C F.ref26_Histogram_Count [a1] h1 fun t8 h2 =>
bareK (xbin P .add T.int (.tmp 6) (.tmp 8) t6 t8) h2 fun t9 h3 =>
bareK (xbin P .gtr T.int (.tmp 9) (.const (.int .i64 1099511627776)) t9 (.int .i64 1099511627776)) h3 fun t10 h4 =>
mg t10 false (fun o1 => o1 a1 h4) h4 fun t12 h5 =>
mg t10 false (fun o2 => enterK C F.ref26_Histogram_Sum [t12] h5 o2) h5 fun t13 h6 =>
mg t10 false (fun o3 => o3 a0 h6) h6 fun t14 h7 =>
mg t10 false (fun o4 => enterK C F.ref26_Histogram_Sum [t14] h7 o4) h7 fun t15 h8 =>
mg t10 false (fun o5 => bareK (xbin P .sub T.int (.const (.int .i64 4611686018427387904)) (.tmp 15) (.int .i64 4611686018427387904) t15) h8 o5) h8 fun t16 h9 =>
mg t10 false (fun o6 => bareK (xbin P .gtr T.int (.tmp 13) (.tmp 16) t13 t16) h9 o6) h9 fun t17 h10 =>
pickK t10 (.bool true) t17 fun t18 =>
mc t18 (fun k7 => k7 .ret [(4, (.int .i64 7))] h10) (fun k7 =>
k7 .normal [(0, a0), (1, a1)] h10) (seqK (fun tT h11 =>
bareK (xnilCheck (get tT 0)) h11 fun t21 h12 =>
bareK (fad 0 t21) h12 fun t22 h13 =>
bareK (ld1 h13 t22) h13 fun t23 h14 =>
bothK (app T.ref26_Counted 2 16 (.slice none 0 0) (srcS 2 t23 h14) h14) fun t24 h15 =>
bareK (xnilCheck (get tT 1)) h15 fun t26 h16 =>
bareK (fad 0 t26) h16 fun t27 h17 =>
bareK (ld1 h17 t27) h17 fun t28 h18 =>
bothK (app T.ref26_Counted 2 16 t24 (srcS 2 t28 h18) h18) fun t29 h19 =>
bareK (xnilCheck (get tT 0)) h19 fun t30 h20 =>
bareK (fad 0 t30) h20 fun t31 h21 =>
quietK (st1 h21 t31 t29) fun _ h22 =>
checkK (okV (some true) none h14 h15 h11 h11 && (okV (some true) none h14 h15 h15 h15 && (okV (some true) none h14 h15 h15 h16 && (okV (some true) none h14 h15 h16 h17 && (okV (some true) (blockOf t27) h14 h15 h17 h18 && (okV (some true) none h18 h19 h11 h11 && true)))))) <|
K0 .ret [(4, (.int .i64 0))] h22) K0)

theorem s_ref26_Histogram_Merge_eq (M : CombL) (C : CallF) (LP : LoopH) (a0 : Value) (a1 : Value) (H : AHeap) : dBodyL M Try.prog hints C LP F.ref26_Histogram_Merge [a0, a1] H = s_ref26_Histogram_Merge M.b.g M.c M.s Try.prog C a0 a1 H (endK Try.prog [.tmp 4]) := by kernel_rfl

/-! (*ticketline.stats.Histogram).Copy -/

noncomputable def s_stats_Histogram_Copy (mg : GT) (mc : CT) (ms : ST) (P : Program) (C : CallF) (a0 : Value) (H : AHeap) (K0 : K) : Res :=
bareK (xbin P .eql T.p_stats_Histogram (.tmp 4) (.const (.pointer none)) a0 (.pointer none)) H fun t5 h1 =>
mc t5 (fun k1 => k1 .ret [(2, (.pointer none))] h1) (fun k1 =>
k1 .normal [(0, a0)] h1) (seqK (fun tT h2 =>
bareK (xnilCheck (get tT 0)) h2 fun t7 h3 =>
bareK (ldN 46 h3 t7) h3 fun t8 h4 =>
bothK (newv T.stats_Histogram (.agg #[(.int .i64 0), (.int .i64 0), (.int .i64 0), (.int .i64 0), (.int .i64 0), (.int .i64 0), (.int .i64 0), (.int .i64 0), (.int .i64 0), (.int .i64 0), (.int .i64 0), (.int .i64 0), (.int .i64 0), (.int .i64 0), (.int .i64 0), (.int .i64 0), (.int .i64 0), (.int .i64 0), (.int .i64 0), (.int .i64 0), (.int .i64 0), (.int .i64 0), (.int .i64 0), (.int .i64 0), (.int .i64 0), (.int .i64 0), (.int .i64 0), (.int .i64 0), (.int .i64 0), (.int .i64 0), (.int .i64 0), (.int .i64 0), (.int .i64 0), (.int .i64 0), (.int .i64 0), (.int .i64 0), (.int .i64 0), (.int .i64 0), (.int .i64 0), (.int .i64 0), (.int .i64 0), (.int .i64 0), (.int .i64 0), (.int .i64 0), (.int .i64 0), (.int .i64 0)]) h4) fun t3 h5 =>
quietK (stN 46 h5 t3 t8) fun _ h6 =>
K0 .ret [(2, t3)] h6) K0)

theorem s_stats_Histogram_Copy_eq (M : CombL) (C : CallF) (LP : LoopH) (a0 : Value) (H : AHeap) : dBodyL M Try.prog hints C LP F.stats_Histogram_Copy [a0] H = s_stats_Histogram_Copy M.b.g M.c M.s Try.prog C a0 H (endK Try.prog [.tmp 2]) := by kernel_rfl

/-! ticketline.ticketlinelaw26.alike -/

noncomputable def s_law_alike (mg : GT) (mc : CT) (ms : ST) (P : Program) (C : CallF) (L0 : Value → Value → Value → Value → Value → AHeap → K → Res) (a0 : Value) (a1 : Value) (H : AHeap) (K0 : K) : Res :=
bareK (xbin P .eql T.p_stats_Histogram (.tmp 9) (.const (.pointer none)) a0 (.pointer none)) H fun t10 h1 =>
mg t10 false (fun o1 => o1 a0 h1) h1 fun t12 h2 =>
mg t10 false (fun o2 => enterK C F.stats_Histogram_Count [t12] h2 o2) h2 fun t13 h3 =>
mg t10 false (fun o3 => o3 a1 h3) h3 fun t14 h4 =>
mg t10 false (fun o4 => enterK C F.ref26_Histogram_Count [t14] h4 o4) h4 fun t15 h5 =>
mg t10 false (fun o5 => bareK (xbin P .neq T.int (.tmp 13) (.tmp 15) t13 t15) h5 o5) h5 fun t16 h6 =>
pickK t10 (.bool true) t16 fun t17 =>
mg t17 false (fun o6 => o6 a0 h6) h6 fun t19 h7 =>
mg t17 false (fun o7 => enterK C F.stats_Histogram_Sum [t19] h7 o7) h7 fun t20 h8 =>
mg t17 false (fun o8 => o8 a1 h8) h8 fun t21 h9 =>
mg t17 false (fun o9 => enterK C F.ref26_Histogram_Sum [t21] h9 o9) h9 fun t22 h10 =>
mg t17 false (fun o10 => bareK (xbin P .neq T.int (.tmp 20) (.tmp 22) t20 t22) h10 o10) h10 fun t23 h11 =>
pickK t17 (.bool true) t23 fun t24 =>
mg t24 false (fun o11 => o11 a0 h11) h11 fun t26 h12 =>
mg t24 false (fun o12 => enterK C F.stats_Histogram_Buckets [t26] h12 o12) h12 fun t27 h13 =>
mg t24 false (fun o13 => o13 a1 h13) h13 fun t28 h14 =>
mg t24 false (fun o14 => enterK C F.ref26_Histogram_Buckets [t28] h14 o14) h14 fun t29 h15 =>
mg t24 false (fun o15 => bareK (xbin P .neq T.n42_int (.tmp 27) (.tmp 29) t27 t29) h15 o15) h15 fun t30 h16 =>
pickK t24 (.bool true) t30 fun t31 =>
mc t31 (fun k16 => k16 .ret [(4, (.bool false))] h16) (fun k16 =>
k16 .normal [(0, a0), (1, a1)] h16) (seqK (fun tT h17 =>
bareK (xnilCheck (get tT 1)) h17 fun t33 h18 =>
bareK (fad 0 t33) h18 fun t34 h19 =>
bareK (ld1 h19 t34) h19 fun t35 h20 =>
bareK (lenS t35) h20 fun t36 h21 =>
bareK (xbin P .eql T.int (.tmp 36) (.const (.int .i64 0)) t36 (.int .i64 0)) h21 fun t37 h22 =>
mc t37 (fun k17 => enterK C F.law_ends [(get tT 0), (.int .i64 0), (.int .i64 0), (.int .i64 0), (.int .i64 9)] h22 fun t39 h23 =>
mg t39 true (fun o18 => o18 (get tT 0) h23) h23 fun t41 h24 =>
mg t39 true (fun o19 => enterK C F.law_quantile [t41, (.int .i64 500), (.int .i64 0), (.int .i64 9)] h24 o19) h24 fun t42 h25 =>
pickK t39 t42 (.bool false) fun t43 =>
mg t43 true (fun o20 => o20 (get tT 0) h25) h25 fun t45 h26 =>
mg t43 true (fun o21 => enterK C F.law_quantile [t45, (.int .i64 1001), (.int .i64 0), (.int .i64 2)] h26 o21) h26 fun t46 h27 =>
pickK t43 t46 (.bool false) fun t47 =>
k17 .ret [(4, t47)] h27) (fun k17 =>
k17 .normal [(0, (get tT 0)), (1, (get tT 1))] h22) (seqK (fun tT_1 h28 =>
enterK C F.ref26_Histogram_Ends [(get tT_1 1)] h28 fun t50 h29 =>
bareK (xextract t50 0) h29 fun t51 h30 =>
bareK (xextract t50 1) h30 fun t52 h31 =>
enterK C F.ref26_Histogram_Sum [(get tT_1 1)] h31 fun t57 h32 =>
enterK C F.ref26_Histogram_Count [(get tT_1 1)] h32 fun t59 h33 =>
bareK (xbin P .quo T.int (.tmp 57) (.tmp 59) t57 t59) h33 fun t60 h34 =>
enterK C F.law_ends [(get tT_1 0), t51, t52, t60, (.int .i64 0)] h34 fun t61 h35 =>
bareK (xun P .not t61) h35 fun t62 h36 =>
mc t62 (fun k22 => k22 .ret [(4, (.bool false))] h36) (fun k22 =>
k22 .normal [(0, (get tT_1 0)), (1, (get tT_1 1))] h36) (seqK (fun tT_2 h37 =>
bothK (bldL T.int [(.int .i64 0)] 10 [(0, (.int .i64 0)), (1, (.int .i64 1)), (2, (.int .i64 10)), (3, (.int .i64 250)), (4, (.int .i64 500)), (5, (.int .i64 501)), (6, (.int .i64 900)), (7, (.int .i64 990)), (8, (.int .i64 999)), (9, (.int .i64 1000))] h37) fun t63 h38 =>
bareK (lenS t63) h38 fun t64 h39 =>
ms (fun k23 =>
L0 (get tT_2 0) (get tT_2 1) t63 t64 (.int .i64 0) h39 (blkK [0] 0 k23)) (seqK (fun tT_3 h40 =>
enterK C F.law_quantile [(get tT_3 0), (.int .i64 (-1)), (.int .i64 0), (.int .i64 2)] h40 fun t78 h41 =>
mg t78 true (fun o24 => o24 (get tT_3 0) h41) h41 fun t80 h42 =>
mg t78 true (fun o25 => enterK C F.law_quantile [t80, (.int .i64 1001), (.int .i64 0), (.int .i64 2)] h42 o25) h42 fun t81 h43 =>
pickK t78 t81 (.bool false) fun t82 =>
K0 .ret [(4, t82)] h43) K0)) K0)) K0)) K0)

noncomputable def s_law_alike_b0 (mg : GT) (mc : CT) (ms : ST) (P : Program) (C : CallF) (L0 : Value → Value → Value → Value → Value → AHeap → K → Res) (v0 : Value) (v1 : Value) (v63 : Value) (v64 : Value) (v65 : Value) (H : AHeap) (k : K) : Res :=
bareK (xbin P .lss T.int (.tmp 65) (.tmp 64) v65 v64) H fun t66 h40 =>
mc t66 (fun k24 => k24 .normal [(0, v0), (1, v1), (63, v63), (64, v64), (65, v65)] h40) (fun k24 =>
k24 (.exit 0) [(66, t66), (0, v0), (1, v1), (63, v63), (64, v64), (65, v65)] h40) (seqK (fun tT h41 =>
ms (fun k25 =>
bareK (ixS 1 (get tT 63) (get tT 65)) h41 fun t67 h42 =>
bareK (ld1 h42 t67) h42 fun t68 h43 =>
enterK C F.ref26_Histogram_Quantile [(get tT 1), t68] h43 fun t73 h44 =>
enterK C F.law_quantile [(get tT 0), t68, t73, (.int .i64 0)] h44 fun t74 h45 =>
bareK (xun P .not t74) h45 fun t75 h46 =>
mc t75 (fun k26 => k26 .ret [(4, (.bool false))] h46) (fun k26 =>
k26 .normal [(0, (get tT 0)), (1, (get tT 1)), (63, (get tT 63)), (64, (get tT 64)), (65, (get tT 65))] h46) (blkK [0, 1, 63, 64, 65] 1 k25)) (seqK (fun tT_1 h47 =>
bareK (xbin P .add T.int (.tmp 65) (.const (.int .i64 1)) (get tT_1 65) (.int .i64 1)) h47 fun t76 h48 =>
k .normal [(0, (get tT_1 0)), (1, (get tT_1 1)), (63, (get tT_1 63)), (64, (get tT_1 64)), (65, t76)] h48) (afterK [0, 1, 63, 64, 65] k))) (afterK [0, 1, 63, 64, 65] k))

theorem s_law_alike_eq (M : CombL) (C : CallF) (LP : LoopH) (a0 : Value) (a1 : Value) (H : AHeap) : dBodyL M Try.prog hints C LP F.law_alike [a0, a1] H = s_law_alike M.b.g M.c M.s Try.prog C (fun v0 v1 v63 v64 v65 H k => loopL M Try.prog hints C LP F.law_alike 0 [(0, v0), (1, v1), (63, v63), (64, v64), (65, v65)] H k) a0 a1 H (endK Try.prog [.tmp 4]) := by kernel_rfl

theorem s_law_alike_b0_eq (M : CombL) (C : CallF) (LP : LoopH) (v0 : Value) (v1 : Value) (v63 : Value) (v64 : Value) (v65 : Value) (H : AHeap) (k : K) : bodyL M Try.prog hints C LP F.law_alike 0 [(0, v0), (1, v1), (63, v63), (64, v64), (65, v65)] H (afterK [0, 1, 63, 64, 65] k) = s_law_alike_b0 M.b.g M.c M.s Try.prog C (fun v0 v1 v63 v64 v65 H k => loopL M Try.prog hints C LP F.law_alike 0 [(0, v0), (1, v1), (63, v63), (64, v64), (65, v65)] H k) v0 v1 v63 v64 v65 H k := by kernel_rfl

/-! (*ticketline.stats.Histogram).Sum -/

noncomputable def s_stats_Histogram_Sum (mg : GT) (mc : CT) (ms : ST) (P : Program) (C : CallF) (a0 : Value) (H : AHeap) (K0 : K) : Res :=
bareK (xbin P .eql T.p_stats_Histogram (.tmp 3) (.const (.pointer none)) a0 (.pointer none)) H fun t4 h1 =>
mc t4 (fun k1 => k1 .ret [(2, (.int .i64 0))] h1) (fun k1 =>
k1 .normal [(0, a0)] h1) (seqK (fun tT h2 =>
bareK (xnilCheck (get tT 0)) h2 fun t6 h3 =>
bareK (fad 43 t6) h3 fun t7 h4 =>
bareK (ld1 h4 t7) h4 fun t8 h5 =>
K0 .ret [(2, t8)] h5) K0)

theorem s_stats_Histogram_Sum_eq (M : CombL) (C : CallF) (LP : LoopH) (a0 : Value) (H : AHeap) : dBodyL M Try.prog hints C LP F.stats_Histogram_Sum [a0] H = s_stats_Histogram_Sum M.b.g M.c M.s Try.prog C a0 H (endK Try.prog [.tmp 2]) := by kernel_rfl

/-! ticketline.ticketlinelaw26.quantile -/

noncomputable def s_law_quantile (mg : GT) (mc : CT) (ms : ST) (P : Program) (C : CallF) (a0 : Value) (a1 : Value) (a2 : Value) (a3 : Value) (H : AHeap) (K0 : K) : Res :=
enterK C F.stats_Histogram_Quantile [a0, a1] H fun t14 h1 =>
bareK (xextract t14 0) h1 fun t15 h2 =>
bareK (xextract t14 1) h2 fun t16 h3 =>
bareK (xbin P .eql T.int (.tmp 17) (.tmp 18) t15 a2) h3 fun t19 h4 =>
mg t19 true (fun o1 => o1 t16 h4) h4 fun t21 h5 =>
mg t19 true (fun o2 => o2 a3 h5) h5 fun t22 h6 =>
mg t19 true (fun o3 => bareK (xbin P .eql T.api_Errno (.tmp 21) (.tmp 22) t21 t22) h6 o3) h6 fun t23 h7 =>
pickK t19 t23 (.bool false) fun t24 =>
K0 .ret [(8, t24)] h7

theorem s_law_quantile_eq (M : CombL) (C : CallF) (LP : LoopH) (a0 : Value) (a1 : Value) (a2 : Value) (a3 : Value) (H : AHeap) : dBodyL M Try.prog hints C LP F.law_quantile [a0, a1, a2, a3] H = s_law_quantile M.b.g M.c M.s Try.prog C a0 a1 a2 a3 H (endK Try.prog [.tmp 8]) := by kernel_rfl

/-! ticketline.stats.Bucket -/

noncomputable def s_stats_Bucket (mg : GT) (mc : CT) (ms : ST) (P : Program) (C : CallF) (a0 : Value) (H : AHeap) (K0 : K) : Res :=
bareK (xbin P .lss T.int (.tmp 4) (.const (.int .i64 0)) a0 (.int .i64 0)) H fun t5 h1 =>
mg t5 false (fun o1 => o1 a0 h1) h1 fun t7 h2 =>
mg t5 false (fun o2 => bareK (xbin P .gtr T.int (.tmp 7) (.const (.int .i64 1099511627776)) t7 (.int .i64 1099511627776)) h2 o2) h2 fun t8 h3 =>
pickK t5 (.bool true) t8 fun t9 =>
mc t9 (fun k3 => k3 .ret [(2, (.int .i64 0)), (3, (.int .i64 2))] h3) (fun k3 =>
k3 .normal [(0, a0)] h3) (seqK (fun tT h4 =>
bothK (xconv P T.int T.uint (get tT 0) h4) fun t11 h5 =>
enterK C F.math_bits_Len [t11] h5 fun t12 h6 =>
K0 .ret [(2, t12), (3, (.int .i64 0))] h6) K0)

theorem s_stats_Bucket_eq (M : CombL) (C : CallF) (LP : LoopH) (a0 : Value) (H : AHeap) : dBodyL M Try.prog hints C LP F.stats_Bucket [a0] H = s_stats_Bucket M.b.g M.c M.s Try.prog C a0 H (endK Try.prog [.tmp 2, .tmp 3]) := by kernel_rfl

/-! ticketline.stats.Bounds -/

noncomputable def s_stats_Bounds (mg : GT) (mc : CT) (ms : ST) (P : Program) (C : CallF) (a0 : Value) (H : AHeap) (K0 : K) : Res :=
ms (fun k1 =>
bareK (xbin P .lss T.int (.tmp 6) (.const (.int .i64 0)) a0 (.int .i64 0)) H fun t7 h1 =>
mg t7 false (fun o2 => o2 a0 h1) h1 fun t9 h2 =>
mg t7 false (fun o3 => bareK (xbin P .geq T.int (.tmp 9) (.const (.int .i64 42)) t9 (.int .i64 42)) h2 o3) h2 fun t10 h3 =>
pickK t7 (.bool true) t10 fun t11 =>
mc t11 (fun k4 => k4 .ret [(2, (.int .i64 0)), (3, (.int .i64 0)), (4, (.int .i64 2))] h3) (fun k4 =>
bareK (xbin P .eql T.int (.tmp 13) (.const (.int .i64 0)) a0 (.int .i64 0)) h3 fun t14 h4 =>
mc t14 (fun k5 => k5 .ret [(2, (.int .i64 0)), (3, (.int .i64 0)), (4, (.int .i64 0))] h4) (fun k5 =>
k5 .normal [(0, a0)] h4) (afterK [0] k4)) (blkK [0] 0 k1)) (seqK (fun tT h5 =>
bareK (xbin P .sub T.int (.tmp 15) (.const (.int .i64 1)) (get tT 0) (.int .i64 1)) h5 fun t16 h6 =>
bareK (xbin P .shl T.int (.const (.int .i64 1)) (.tmp 16) (.int .i64 1) t16) h6 fun t17 h7 =>
bareK (xbin P .shl T.int (.const (.int .i64 1)) (.tmp 18) (.int .i64 1) (get tT 0)) h7 fun t19 h8 =>
bareK (xbin P .sub T.int (.tmp 19) (.const (.int .i64 1)) t19 (.int .i64 1)) h8 fun t20 h9 =>
nextK C h9 (xbuiltin P .min [T.int, T.int] [t20, (.int .i64 1099511627776)] h9) fun t21 h10 =>
checkK true <|
K0 .ret [(2, t17), (3, t21), (4, (.int .i64 0))] h10) K0)

theorem s_stats_Bounds_eq (M : CombL) (C : CallF) (LP : LoopH) (a0 : Value) (H : AHeap) : dBodyL M Try.prog hints C LP F.stats_Bounds [a0] H = s_stats_Bounds M.b.g M.c M.s Try.prog C a0 H (endK Try.prog [.tmp 2, .tmp 3, .tmp 4]) := by kernel_rfl

/-! ticketline.stats.named -/

noncomputable def s_stats_named (mg : GT) (mc : CT) (ms : ST) (P : Program) (C : CallF) (a0 : Value) (H : AHeap) (K0 : K) : Res :=
bareK (lenT a0) H fun t5 h1 =>
bareK (xbin P .geq T.int (.tmp 5) (.const (.int .i64 1)) t5 (.int .i64 1)) h1 fun t6 h2 =>
mg t6 true (fun o1 => o1 a0 h2) h2 fun t8 h3 =>
mg t6 true (fun o2 => bareK (lenT t8) h3 o2) h3 fun t9 h4 =>
mg t6 true (fun o3 => bareK (xbin P .leq T.int (.tmp 9) (.const (.int .i64 40)) t9 (.int .i64 40)) h4 o3) h4 fun t10 h5 =>
pickK t6 t10 (.bool false) fun t11 =>
mg t11 true (fun o4 => o4 a0 h5) h5 fun t13 h6 =>
mg t11 true (fun o5 => o5 (.func (.func F.stats_named_1) #[] #[]) h6) h6 fun t14 h7 =>
mg t11 true (fun o6 => enterK C F.strings_ContainsFunc [t13, t14] h7 o6) h7 fun t15 h8 =>
mg t11 true (fun o7 => bareK (xun P .not t15) h8 o7) h8 fun t16 h9 =>
pickK t11 t16 (.bool false) fun t17 =>
K0 .ret [(2, t17)] h9

theorem s_stats_named_eq (M : CombL) (C : CallF) (LP : LoopH) (a0 : Value) (H : AHeap) : dBodyL M Try.prog hints C LP F.stats_named [a0] H = s_stats_named M.b.g M.c M.s Try.prog C a0 H (endK Try.prog [.tmp 2]) := by kernel_rfl

/-! slices.Sort[[]string,string] -/

noncomputable def s_slices_Sort_string (mg : GT) (mc : CT) (ms : ST) (P : Program) (C : CallF) (a0 : Value) (H : AHeap) (K0 : K) : Res :=
bareK (lenS a0) H fun t4 h1 =>
bothK (xconv P T.int T.uint t4 h1) fun t8 h2 =>
enterK C F.math_bits_Len [t8] h2 fun t9 h3 =>
enterK C F.slices_pdqsortOrdered_string [a0, (.int .i64 0), t4, t9] h3 fun t10 h4 =>
K0 .normal [(10, t10), (9, t9), (8, t8), (7, t4), (6, t4), (5, a0), (2, t4), (4, t4), (3, a0), (0, a0)] h4

theorem s_slices_Sort_string_eq (M : CombL) (C : CallF) (LP : LoopH) (a0 : Value) (H : AHeap) : dBodyL M Try.prog hints C LP F.slices_Sort_string [a0] H = s_slices_Sort_string M.b.g M.c M.s Try.prog C a0 H (endK Try.prog []) := by kernel_rfl

/-! (*ticketline.stats.Histogram).join -/

noncomputable def s_stats_Histogram_join (mg : GT) (mc : CT) (ms : ST) (P : Program) (C : CallF) (L0 : Value → Value → Value → AHeap → K → Res) (a0 : Value) (a1 : Value) (H : AHeap) (K0 : K) : Res :=
bothK (newv T.stats_Histogram a1 H) fun t3 h1 =>
ms (fun k1 =>
bareK (fad 42 t3) h1 fun t8 h2 =>
bareK (ld1 h2 t8) h2 fun t9 h3 =>
bareK (xnilCheck a0) h3 fun t11 h4 =>
bareK (fad 42 t11) h4 fun t12 h5 =>
bareK (ld1 h5 t12) h5 fun t13 h6 =>
bareK (xbin P .sub T.int (.const (.int .i64 1099511627776)) (.tmp 13) (.int .i64 1099511627776) t13) h6 fun t14 h7 =>
bareK (xbin P .gtr T.int (.tmp 9) (.tmp 14) t9 t14) h7 fun t15 h8 =>
mg t15 false (fun o2 => bareK (fad 43 t3) h8 o2) h8 fun t17 h9 =>
mg t15 false (fun o3 => bareK (ld1 h9 t17) h9 o3) h9 fun t18 h10 =>
mg t15 false (fun o4 => o4 a0 h10) h10 fun t19 h11 =>
mg t15 false (fun o5 => bareK (xnilCheck t19) h11 o5) h11 fun t20 h12 =>
mg t15 false (fun o6 => bareK (fad 43 t20) h12 o6) h12 fun t21 h13 =>
mg t15 false (fun o7 => bareK (ld1 h13 t21) h13 o7) h13 fun t22 h14 =>
mg t15 false (fun o8 => bareK (xbin P .sub T.int (.const (.int .i64 4611686018427387904)) (.tmp 22) (.int .i64 4611686018427387904) t22) h14 o8) h14 fun t23 h15 =>
mg t15 false (fun o9 => bareK (xbin P .gtr T.int (.tmp 18) (.tmp 23) t18 t23) h15 o9) h15 fun t24 h16 =>
pickK t15 (.bool true) t24 fun t25 =>
checkK true <|
mc t25 (fun k10 => k10 .ret [(4, (.int .i64 7))] h16) (fun k10 =>
enterK C F.stats_Histogram_empty [t3] h16 fun t27 h17 =>
mc t27 (fun k11 => k11 .ret [(4, (.int .i64 0))] h17) (fun k11 =>
enterK C F.stats_Histogram_empty [a0] h17 fun t30 h18 =>
mc t30 (fun k12 => bareK (fad 44 t3) h18 fun t32 h19 =>
bareK (ld1 h19 t32) h19 fun t33 h20 =>
bareK (xnilCheck a0) h20 fun t34 h21 =>
bareK (fad 44 t34) h21 fun t35 h22 =>
quietK (st1 h22 t35 t33) fun _ h23 =>
k12 .normal [(0, a0), (3, t3)] h23) (fun k12 =>
k12 .normal [(0, a0), (3, t3)] h18) (afterK [0, 3] k11)) (afterK [0, 3] k10)) (blkK [0, 3] 0 k1)) (seqK (fun tT h24 =>
bareK (xnilCheck (get tT 0)) h24 fun t39 h25 =>
bareK (fad 44 t39) h25 fun t40 h26 =>
bareK (ld1 h26 t40) h26 fun t41 h27 =>
bareK (fad 44 (get tT 3)) h27 fun t42 h28 =>
bareK (ld1 h28 t42) h28 fun t43 h29 =>
nextK C h29 (xbuiltin P .min [T.int, T.int] [t41, t43] h29) fun t44 h30 =>
bareK (xnilCheck (get tT 0)) h30 fun t46 h31 =>
bareK (fad 45 t46) h31 fun t47 h32 =>
bareK (ld1 h32 t47) h32 fun t48 h33 =>
bareK (fad 45 (get tT 3)) h33 fun t49 h34 =>
bareK (ld1 h34 t49) h34 fun t50 h35 =>
nextK C h35 (xbuiltin P .max [T.int, T.int] [t48, t50] h35) fun t51 h36 =>
bareK (xnilCheck (get tT 0)) h36 fun t52 h37 =>
bareK (fad 44 t52) h37 fun t53 h38 =>
quietK (st1 h38 t53 t44) fun _ h39 =>
bareK (xnilCheck (get tT 0)) h39 fun t54 h40 =>
bareK (fad 45 t54) h40 fun t55 h41 =>
quietK (st1 h41 t55 t51) fun _ h42 =>
checkK (okV (some true) none h38 h39 h24 h24 && (okV (some true) none h38 h39 h35 h36 && true)) <|
bareK (xnilCheck (get tT 0)) h42 fun t59 h43 =>
bareK (fad 42 t59) h43 fun t60 h44 =>
bareK (ld1 h44 t60) h44 fun t61 h45 =>
bareK (fad 42 (get tT 3)) h45 fun t62 h46 =>
bareK (ld1 h46 t62) h46 fun t63 h47 =>
bareK (xbin P .add T.int (.tmp 61) (.tmp 63) t61 t63) h47 fun t64 h48 =>
bareK (xnilCheck (get tT 0)) h48 fun t66 h49 =>
bareK (fad 43 t66) h49 fun t67 h50 =>
bareK (ld1 h50 t67) h50 fun t68 h51 =>
bareK (fad 43 (get tT 3)) h51 fun t69 h52 =>
bareK (ld1 h52 t69) h52 fun t70 h53 =>
bareK (xbin P .add T.int (.tmp 68) (.tmp 70) t68 t70) h53 fun t71 h54 =>
bareK (xnilCheck (get tT 0)) h54 fun t72 h55 =>
bareK (fad 42 t72) h55 fun t73 h56 =>
quietK (st1 h56 t73 t64) fun _ h57 =>
bareK (xnilCheck (get tT 0)) h57 fun t74 h58 =>
bareK (fad 43 t74) h58 fun t75 h59 =>
quietK (st1 h59 t75 t71) fun _ h60 =>
checkK (okV (some true) none h56 h57 h42 h42 && (okV (some true) none h56 h57 h53 h54 && true)) <|
bareK (fad 0 (get tT 3)) h60 fun t76 h61 =>
bareK (ldN 42 h61 t76) h61 fun t77 h62 =>
ms (fun k13 =>
L0 (get tT 0) t77 (.int .i64 0) h62 (blkK [] 1 k13)) (seqK (fun tT_1 h63 =>
K0 .ret [(4, (.int .i64 0))] h63) K0)) K0)

noncomputable def s_stats_Histogram_join_b0 (mg : GT) (mc : CT) (ms : ST) (P : Program) (C : CallF) (L0 : Value → Value → Value → AHeap → K → Res) (v0 : Value) (v77 : Value) (v78 : Value) (H : AHeap) (k : K) : Res :=
bareK (xbin P .lss T.int (.tmp 78) (.const (.int .i64 42)) v78 (.int .i64 42)) H fun t79 h63 =>
mc t79 (fun k14 => k14 .normal [(0, v0), (77, v77), (78, v78)] h63) (fun k14 =>
k14 (.exit 1) [(79, t79), (0, v0), (77, v77), (78, v78)] h63) (seqK (fun tT h64 =>
ms (fun k15 =>
bareK (xindex P T.n42_int (get tT 77) (get tT 78)) h64 fun t81 h65 =>
bareK (xnilCheck (get tT 0)) h65 fun t84 h66 =>
bareK (fad 0 t84) h66 fun t85 h67 =>
bareK (ixA 42 1 t85 (get tT 78)) h67 fun t86 h68 =>
bareK (ld1 h68 t86) h68 fun t87 h69 =>
bareK (xbin P .add T.int (.tmp 87) (.tmp 88) t87 t81) h69 fun t89 h70 =>
bareK (xnilCheck (get tT 0)) h70 fun t90 h71 =>
bareK (fad 0 t90) h71 fun t91 h72 =>
bareK (ixA 42 1 t91 (get tT 78)) h72 fun t92 h73 =>
quietK (st1 h73 t92 t89) fun _ h74 =>
checkK true <|
k15 .normal [(0, (get tT 0)), (77, (get tT 77)), (78, (get tT 78))] h74) (seqK (fun tT_1 h75 =>
bareK (xbin P .add T.int (.tmp 78) (.const (.int .i64 1)) (get tT_1 78) (.int .i64 1)) h75 fun t93 h76 =>
k .normal [(0, (get tT_1 0)), (77, (get tT_1 77)), (78, t93)] h76) (afterK [0, 77, 78] k))) (afterK [0, 77, 78] k))

theorem s_stats_Histogram_join_eq (M : CombL) (C : CallF) (LP : LoopH) (a0 : Value) (a1 : Value) (H : AHeap) : dBodyL M Try.prog hints C LP F.stats_Histogram_join [a0, a1] H = s_stats_Histogram_join M.b.g M.c M.s Try.prog C (fun v0 v77 v78 H k => loopL M Try.prog hints C LP F.stats_Histogram_join 0 [(0, v0), (77, v77), (78, v78)] H k) a0 a1 H (endK Try.prog [.tmp 4]) := by kernel_rfl

theorem s_stats_Histogram_join_b0_eq (M : CombL) (C : CallF) (LP : LoopH) (v0 : Value) (v77 : Value) (v78 : Value) (H : AHeap) (k : K) : bodyL M Try.prog hints C LP F.stats_Histogram_join 0 [(0, v0), (77, v77), (78, v78)] H (afterK [0, 77, 78] k) = s_stats_Histogram_join_b0 M.b.g M.c M.s Try.prog C (fun v0 v77 v78 H k => loopL M Try.prog hints C LP F.stats_Histogram_join 0 [(0, v0), (77, v77), (78, v78)] H k) v0 v77 v78 H k := by kernel_rfl

/-! (*ticketline.stats.Histogram).check -/

noncomputable def s_stats_Histogram_check (mg : GT) (mc : CT) (ms : ST) (P : Program) (C : CallF) (a0 : Value) (H : AHeap) (K0 : K) : Res :=
ms (fun k1 =>
bareK (xbin P .eql T.p_stats_Histogram (.tmp 4) (.const (.pointer none)) a0 (.pointer none)) H fun t5 h1 =>
mc t5 (fun k2 => k2 .ret [(2, (.int .i64 1))] h1) (fun k2 =>
enterK C F.stats_Histogram_empty [a0] h1 fun t8 h2 =>
mc t8 (fun k3 => k3 .ret [(2, (.int .i64 9))] h2) (fun k3 =>
k3 .normal [] h2) (afterK [] k2)) (blkK [] 0 k1)) (seqK (fun tT h3 =>
K0 .ret [(2, (.int .i64 0))] h3) K0)

theorem s_stats_Histogram_check_eq (M : CombL) (C : CallF) (LP : LoopH) (a0 : Value) (H : AHeap) : dBodyL M Try.prog hints C LP F.stats_Histogram_check [a0] H = s_stats_Histogram_check M.b.g M.c M.s Try.prog C a0 H (endK Try.prog [.tmp 2]) := by kernel_rfl

/-! ticketline.ticketlineref26.name -/

noncomputable def s_ref26_name (mg : GT) (mc : CT) (ms : ST) (P : Program) (C : CallF) (L0 : Value → Value → AHeap → K → Res) (a0 : Value) (H : AHeap) (K0 : K) : Res :=
ms (fun k1 =>
L0 a0 (.int .i64 0) H (blkK [0] 0 k1)) (seqK (fun tT h1 =>
bareK (lenT (get tT 0)) h1 fun t35 h2 =>
bareK (xbin P .geq T.int (.tmp 35) (.const (.int .i64 1)) t35 (.int .i64 1)) h2 fun t36 h3 =>
mg t36 true (fun o2 => o2 (get tT 0) h3) h3 fun t38 h4 =>
mg t36 true (fun o3 => bareK (lenT t38) h4 o3) h4 fun t39 h5 =>
mg t36 true (fun o4 => bareK (xbin P .leq T.int (.tmp 39) (.const (.int .i64 40)) t39 (.int .i64 40)) h5 o4) h5 fun t40 h6 =>
pickK t36 t40 (.bool false) fun t41 =>
K0 .ret [(2, t41)] h6) K0)

noncomputable def s_ref26_name_b0 (mg : GT) (mc : CT) (ms : ST) (P : Program) (C : CallF) (L0 : Value → Value → AHeap → K → Res) (v0 : Value) (v3 : Value) (H : AHeap) (k : K) : Res :=
bareK (lenT v0) H fun t7 h1 =>
bareK (xbin P .lss T.int (.tmp 5) (.tmp 7) v3 t7) h1 fun t8 h2 =>
mc t8 (fun k2 => k2 .normal [(0, v0), (3, v3)] h2) (fun k2 =>
k2 (.exit 0) [(8, t8), (7, t7), (6, v0), (5, v3), (0, v0), (3, v3)] h2) (seqK (fun tT h3 =>
ms (fun k3 =>
bareK (xindex P T.string (get tT 0) (get tT 3)) h3 fun t13 h4 =>
bareK (xbin P .geq T.uint8 (.tmp 14) (.const (.int .u8 97)) t13 (.int .u8 97)) h4 fun t15 h5 =>
mg t15 true (fun o4 => o4 t13 h5) h5 fun t17 h6 =>
mg t15 true (fun o5 => bareK (xbin P .leq T.uint8 (.tmp 17) (.const (.int .u8 122)) t17 (.int .u8 122)) h6 o5) h6 fun t18 h7 =>
pickK t15 t18 (.bool false) fun t19 =>
bareK (xun P .not t19) h7 fun t20 h8 =>
mg t20 true (fun o6 => o6 t13 h8) h8 fun t22 h9 =>
mg t20 true (fun o7 => bareK (xbin P .geq T.uint8 (.tmp 22) (.const (.int .u8 48)) t22 (.int .u8 48)) h9 o7) h9 fun t23 h10 =>
mg t20 true (fun o8 => o8 t23 h10) h10 fun t24 h11 =>
mg t24 true (fun o9 => o9 t13 h11) h11 fun t25 h12 =>
mg t24 true (fun o10 => bareK (xbin P .leq T.uint8 (.tmp 25) (.const (.int .u8 57)) t25 (.int .u8 57)) h12 o10) h12 fun t26 h13 =>
mg t20 true (fun o11 => pickK t24 t26 (.bool false) fun v => o11 v h13) h13 fun t27 h14 =>
mg t20 true (fun o12 => bareK (xun P .not t27) h14 o12) h14 fun t28 h15 =>
pickK t20 t28 (.bool false) fun t29 =>
mg t29 true (fun o13 => o13 t13 h15) h15 fun t31 h16 =>
mg t29 true (fun o14 => bareK (xbin P .neq T.uint8 (.tmp 31) (.const (.int .u8 45)) t31 (.int .u8 45)) h16 o14) h16 fun t32 h17 =>
pickK t29 t32 (.bool false) fun t33 =>
mc t33 (fun k15 => k15 .ret [(2, (.bool false))] h17) (fun k15 =>
k15 .normal [(0, (get tT 0)), (3, (get tT 3))] h17) (blkK [0, 3] 1 k3)) (seqK (fun tT_1 h18 =>
bareK (xbin P .add T.int (.tmp 9) (.const (.int .i64 1)) (get tT_1 3) (.int .i64 1)) h18 fun t10 h19 =>
k .normal [(0, (get tT_1 0)), (3, t10)] h19) (afterK [0, 3] k))) (afterK [0, 3] k))

theorem s_ref26_name_eq (M : CombL) (C : CallF) (LP : LoopH) (a0 : Value) (H : AHeap) : dBodyL M Try.prog hints C LP F.ref26_name [a0] H = s_ref26_name M.b.g M.c M.s Try.prog C (fun v0 v3 H k => loopL M Try.prog hints C LP F.ref26_name 0 [(0, v0), (3, v3)] H k) a0 H (endK Try.prog [.tmp 2]) := by kernel_rfl

theorem s_ref26_name_b0_eq (M : CombL) (C : CallF) (LP : LoopH) (v0 : Value) (v3 : Value) (H : AHeap) (k : K) : bodyL M Try.prog hints C LP F.ref26_name 0 [(0, v0), (3, v3)] H (afterK [0, 3] k) = s_ref26_name_b0 M.b.g M.c M.s Try.prog C (fun v0 v3 H k => loopL M Try.prog hints C LP F.ref26_name 0 [(0, v0), (3, v3)] H k) v0 v3 H k := by kernel_rfl

/-! (*ticketline.ticketlineref26.Histogram).Count -/

noncomputable def s_ref26_Histogram_Count (mg : GT) (mc : CT) (ms : ST) (P : Program) (C : CallF) (L0 : Value → Value → Value → AHeap → K → Res) (a0 : Value) (H : AHeap) (K0 : K) : Res :=
ms (fun k1 =>
L0 a0 (.int .i64 0) (.int .i64 0) H (blkK [3] 0 k1)) (seqK (fun tT h1 =>
K0 .ret [(2, (get tT 3))] h1) K0)

noncomputable def s_ref26_Histogram_Count_b0 (mg : GT) (mc : CT) (ms : ST) (P : Program) (C : CallF) (L0 : Value → Value → Value → AHeap → K → Res) (v0 : Value) (v3 : Value) (v4 : Value) (H : AHeap) (k : K) : Res :=
bareK (xnilCheck v0) H fun t7 h1 =>
bareK (fad 0 t7) h1 fun t8 h2 =>
bareK (ld1 h2 t8) h2 fun t9 h3 =>
bareK (lenS t9) h3 fun t10 h4 =>
bareK (xbin P .lss T.int (.tmp 5) (.tmp 10) v4 t10) h4 fun t11 h5 =>
mc t11 (fun k2 => k2 .normal [(0, v0), (3, v3), (4, v4)] h5) (fun k2 =>
k2 (.exit 0) [(11, t11), (10, t10), (9, t9), (8, t8), (7, t7), (6, v0), (5, v4), (0, v0), (3, v3), (4, v4)] h5) (seqK (fun tT h6 =>
ms (fun k3 =>
bareK (xnilCheck (get tT 0)) h6 fun t16 h7 =>
bareK (fad 0 t16) h7 fun t17 h8 =>
bareK (ld1 h8 t17) h8 fun t18 h9 =>
bareK (ixS 2 t18 (get tT 4)) h9 fun t20 h10 =>
bareK (fad 1 t20) h10 fun t21 h11 =>
bareK (ld1 h11 t21) h11 fun t22 h12 =>
bareK (xbin P .add T.int (.tmp 14) (.tmp 22) (get tT 3) t22) h12 fun t23 h13 =>
k3 .normal [(0, (get tT 0)), (3, t23), (4, (get tT 4))] h13) (seqK (fun tT_1 h14 =>
bareK (xbin P .add T.int (.tmp 12) (.const (.int .i64 1)) (get tT_1 4) (.int .i64 1)) h14 fun t13 h15 =>
k .normal [(0, (get tT_1 0)), (3, (get tT_1 3)), (4, t13)] h15) (afterK [0, 3, 4] k))) (afterK [0, 3, 4] k))

theorem s_ref26_Histogram_Count_eq (M : CombL) (C : CallF) (LP : LoopH) (a0 : Value) (H : AHeap) : dBodyL M Try.prog hints C LP F.ref26_Histogram_Count [a0] H = s_ref26_Histogram_Count M.b.g M.c M.s Try.prog C (fun v0 v3 v4 H k => loopL M Try.prog hints C LP F.ref26_Histogram_Count 0 [(0, v0), (3, v3), (4, v4)] H k) a0 H (endK Try.prog [.tmp 2]) := by kernel_rfl

theorem s_ref26_Histogram_Count_b0_eq (M : CombL) (C : CallF) (LP : LoopH) (v0 : Value) (v3 : Value) (v4 : Value) (H : AHeap) (k : K) : bodyL M Try.prog hints C LP F.ref26_Histogram_Count 0 [(0, v0), (3, v3), (4, v4)] H (afterK [0, 3, 4] k) = s_ref26_Histogram_Count_b0 M.b.g M.c M.s Try.prog C (fun v0 v3 v4 H k => loopL M Try.prog hints C LP F.ref26_Histogram_Count 0 [(0, v0), (3, v3), (4, v4)] H k) v0 v3 v4 H k := by kernel_rfl

/-! (*ticketline.ticketlineref26.Histogram).Sum -/

noncomputable def s_ref26_Histogram_Sum (mg : GT) (mc : CT) (ms : ST) (P : Program) (C : CallF) (L0 : Value → Value → Value → AHeap → K → Res) (a0 : Value) (H : AHeap) (K0 : K) : Res :=
ms (fun k1 =>
L0 a0 (.int .i64 0) (.int .i64 0) H (blkK [3] 0 k1)) (seqK (fun tT h1 =>
K0 .ret [(2, (get tT 3))] h1) K0)

noncomputable def s_ref26_Histogram_Sum_b0 (mg : GT) (mc : CT) (ms : ST) (P : Program) (C : CallF) (L0 : Value → Value → Value → AHeap → K → Res) (v0 : Value) (v3 : Value) (v4 : Value) (H : AHeap) (k : K) : Res :=
bareK (xnilCheck v0) H fun t7 h1 =>
bareK (fad 0 t7) h1 fun t8 h2 =>
bareK (ld1 h2 t8) h2 fun t9 h3 =>
bareK (lenS t9) h3 fun t10 h4 =>
bareK (xbin P .lss T.int (.tmp 5) (.tmp 10) v4 t10) h4 fun t11 h5 =>
mc t11 (fun k2 => k2 .normal [(0, v0), (3, v3), (4, v4)] h5) (fun k2 =>
k2 (.exit 0) [(11, t11), (10, t10), (9, t9), (8, t8), (7, t7), (6, v0), (5, v4), (0, v0), (3, v3), (4, v4)] h5) (seqK (fun tT h6 =>
ms (fun k3 =>
bareK (xnilCheck (get tT 0)) h6 fun t16 h7 =>
bareK (fad 0 t16) h7 fun t17 h8 =>
bareK (ld1 h8 t17) h8 fun t18 h9 =>
bareK (ixS 2 t18 (get tT 4)) h9 fun t20 h10 =>
bareK (fad 0 t20) h10 fun t21 h11 =>
bareK (ld1 h11 t21) h11 fun t22 h12 =>
bareK (xnilCheck (get tT 0)) h12 fun t24 h13 =>
bareK (fad 0 t24) h13 fun t25 h14 =>
bareK (ld1 h14 t25) h14 fun t26 h15 =>
bareK (ixS 2 t26 (get tT 4)) h15 fun t28 h16 =>
bareK (fad 1 t28) h16 fun t29 h17 =>
bareK (ld1 h17 t29) h17 fun t30 h18 =>
bareK (xbin P .mul T.int (.tmp 22) (.tmp 30) t22 t30) h18 fun t31 h19 =>
bareK (xbin P .add T.int (.tmp 14) (.tmp 31) (get tT 3) t31) h19 fun t32 h20 =>
checkK true <|
k3 .normal [(0, (get tT 0)), (3, t32), (4, (get tT 4))] h20) (seqK (fun tT_1 h21 =>
bareK (xbin P .add T.int (.tmp 12) (.const (.int .i64 1)) (get tT_1 4) (.int .i64 1)) h21 fun t13 h22 =>
k .normal [(0, (get tT_1 0)), (3, (get tT_1 3)), (4, t13)] h22) (afterK [0, 3, 4] k))) (afterK [0, 3, 4] k))

theorem s_ref26_Histogram_Sum_eq (M : CombL) (C : CallF) (LP : LoopH) (a0 : Value) (H : AHeap) : dBodyL M Try.prog hints C LP F.ref26_Histogram_Sum [a0] H = s_ref26_Histogram_Sum M.b.g M.c M.s Try.prog C (fun v0 v3 v4 H k => loopL M Try.prog hints C LP F.ref26_Histogram_Sum 0 [(0, v0), (3, v3), (4, v4)] H k) a0 H (endK Try.prog [.tmp 2]) := by kernel_rfl

theorem s_ref26_Histogram_Sum_b0_eq (M : CombL) (C : CallF) (LP : LoopH) (v0 : Value) (v3 : Value) (v4 : Value) (H : AHeap) (k : K) : bodyL M Try.prog hints C LP F.ref26_Histogram_Sum 0 [(0, v0), (3, v3), (4, v4)] H (afterK [0, 3, 4] k) = s_ref26_Histogram_Sum_b0 M.b.g M.c M.s Try.prog C (fun v0 v3 v4 H k => loopL M Try.prog hints C LP F.ref26_Histogram_Sum 0 [(0, v0), (3, v3), (4, v4)] H k) v0 v3 v4 H k := by kernel_rfl

/-! (*ticketline.ticketlineref26.Histogram).Buckets -/

noncomputable def s_ref26_Histogram_Buckets (mg : GT) (mc : CT) (ms : ST) (P : Program) (C : CallF) (L0 : Value → Value → Value → Value → AHeap → K → Res) (a0 : Value) (H : AHeap) (K0 : K) : Res :=
bothK (newv T.n42_int (.agg #[(.int .i64 0), (.int .i64 0), (.int .i64 0), (.int .i64 0), (.int .i64 0), (.int .i64 0), (.int .i64 0), (.int .i64 0), (.int .i64 0), (.int .i64 0), (.int .i64 0), (.int .i64 0), (.int .i64 0), (.int .i64 0), (.int .i64 0), (.int .i64 0), (.int .i64 0), (.int .i64 0), (.int .i64 0), (.int .i64 0), (.int .i64 0), (.int .i64 0), (.int .i64 0), (.int .i64 0), (.int .i64 0), (.int .i64 0), (.int .i64 0), (.int .i64 0), (.int .i64 0), (.int .i64 0), (.int .i64 0), (.int .i64 0), (.int .i64 0), (.int .i64 0), (.int .i64 0), (.int .i64 0), (.int .i64 0), (.int .i64 0), (.int .i64 0), (.int .i64 0), (.int .i64 0), (.int .i64 0)]) H) fun t2 h1 =>
bothK (newv T.n42_int (.agg #[(.int .i64 0), (.int .i64 0), (.int .i64 0), (.int .i64 0), (.int .i64 0), (.int .i64 0), (.int .i64 0), (.int .i64 0), (.int .i64 0), (.int .i64 0), (.int .i64 0), (.int .i64 0), (.int .i64 0), (.int .i64 0), (.int .i64 0), (.int .i64 0), (.int .i64 0), (.int .i64 0), (.int .i64 0), (.int .i64 0), (.int .i64 0), (.int .i64 0), (.int .i64 0), (.int .i64 0), (.int .i64 0), (.int .i64 0), (.int .i64 0), (.int .i64 0), (.int .i64 0), (.int .i64 0), (.int .i64 0), (.int .i64 0), (.int .i64 0), (.int .i64 0), (.int .i64 0), (.int .i64 0), (.int .i64 0), (.int .i64 0), (.int .i64 0), (.int .i64 0), (.int .i64 0), (.int .i64 0)]) h1) fun t3 h2 =>
ms (fun k1 =>
L0 a0 t2 t3 (.int .i64 0) h2 (blkK [2, 3] 0 k1)) (seqK (fun tT h3 =>
bareK (ldN 42 h3 (get tT 3)) h3 fun t44 h4 =>
quietK (stN 42 h4 (get tT 2) t44) fun _ h5 =>
K0 .ret [(2, (get tT 2))] h5) K0)

noncomputable def s_ref26_Histogram_Buckets_b0 (mg : GT) (mc : CT) (ms : ST) (P : Program) (C : CallF) (L0 : Value → Value → Value → Value → AHeap → K → Res) (v0 : Value) (v2 : Value) (v3 : Value) (v4 : Value) (H : AHeap) (k : K) : Res :=
bareK (xnilCheck v0) H fun t7 h3 =>
bareK (fad 0 t7) h3 fun t8 h4 =>
bareK (ld1 h4 t8) h4 fun t9 h5 =>
bareK (lenS t9) h5 fun t10 h6 =>
bareK (xbin P .lss T.int (.tmp 5) (.tmp 10) v4 t10) h6 fun t11 h7 =>
mc t11 (fun k2 => k2 .normal [(0, v0), (2, v2), (3, v3), (4, v4)] h7) (fun k2 =>
k2 (.exit 0) [(11, t11), (10, t10), (9, t9), (8, t8), (7, t7), (6, v0), (5, v4), (0, v0), (2, v2), (3, v3), (4, v4)] h7) (seqK (fun tT h8 =>
ms (fun k3 =>
bareK (xnilCheck (get tT 0)) h8 fun t15 h9 =>
bareK (fad 0 t15) h9 fun t16 h10 =>
bareK (ld1 h10 t16) h10 fun t17 h11 =>
bareK (ixS 2 t17 (get tT 4)) h11 fun t19 h12 =>
bareK (fad 0 t19) h12 fun t20 h13 =>
bareK (ld1 h13 t20) h13 fun t21 h14 =>
enterK C F.ref26_Bucket [t21] h14 fun t22 h15 =>
bareK (xnilCheck (get tT 0)) h15 fun t24 h16 =>
bareK (fad 0 t24) h16 fun t25 h17 =>
bareK (ld1 h17 t25) h17 fun t26 h18 =>
bareK (ixS 2 t26 (get tT 4)) h18 fun t28 h19 =>
bareK (fad 0 t28) h19 fun t29 h20 =>
bareK (ld1 h20 t29) h20 fun t30 h21 =>
enterK C F.ref26_Bucket [t30] h21 fun t31 h22 =>
bareK (ixA 42 1 (get tT 3) t31) h22 fun t32 h23 =>
bareK (ld1 h23 t32) h23 fun t33 h24 =>
bareK (xnilCheck (get tT 0)) h24 fun t35 h25 =>
bareK (fad 0 t35) h25 fun t36 h26 =>
bareK (ld1 h26 t36) h26 fun t37 h27 =>
bareK (ixS 2 t37 (get tT 4)) h27 fun t39 h28 =>
bareK (fad 1 t39) h28 fun t40 h29 =>
bareK (ld1 h29 t40) h29 fun t41 h30 =>
bareK (xbin P .add T.int (.tmp 33) (.tmp 41) t33 t41) h30 fun t42 h31 =>
bareK (ixA 42 1 (get tT 3) t22) h31 fun t43 h32 =>
quietK (st1 h32 t43 t42) fun _ h33 =>
checkK (okV (some true) none h14 h15 h15 h15 && (okV (some true) none h14 h15 h15 h16 && (okV (some true) none h14 h15 h16 h17 && (okV (some true) (blockOf t25) h14 h15 h17 h18 && (okV (some true) none h14 h15 h18 h18 && (okV (some true) none h14 h15 h18 h19 && (okV (some true) none h14 h15 h19 h20 && (okV (some true) (blockOf t29) h14 h15 h20 h21 && (okV (some true) none h14 h15 h24 h24 && (okV (some true) none h14 h15 h24 h25 && (okV (some true) none h14 h15 h25 h26 && (okV (some true) (blockOf t36) h14 h15 h26 h27 && (okV (some true) none h14 h15 h27 h27 && (okV (some true) none h14 h15 h27 h28 && (okV (some true) none h14 h15 h28 h29 && (okV (some true) (blockOf t40) h14 h15 h29 h30 && (okV (some true) none h21 h22 h24 h24 && (okV (some true) none h21 h22 h24 h25 && (okV (some true) none h21 h22 h25 h26 && (okV (some true) (blockOf t36) h21 h22 h26 h27 && (okV (some true) none h21 h22 h27 h27 && (okV (some true) none h21 h22 h27 h28 && (okV (some true) none h21 h22 h28 h29 && (okV (some true) (blockOf t40) h21 h22 h29 h30 && true)))))))))))))))))))))))) <|
k3 .normal [(0, (get tT 0)), (2, (get tT 2)), (3, (get tT 3)), (4, (get tT 4))] h33) (seqK (fun tT_1 h34 =>
bareK (xbin P .add T.int (.tmp 12) (.const (.int .i64 1)) (get tT_1 4) (.int .i64 1)) h34 fun t13 h35 =>
k .normal [(0, (get tT_1 0)), (2, (get tT_1 2)), (3, (get tT_1 3)), (4, t13)] h35) (afterK [0, 2, 3, 4] k))) (afterK [0, 2, 3, 4] k))

theorem s_ref26_Histogram_Buckets_eq (M : CombL) (C : CallF) (LP : LoopH) (a0 : Value) (H : AHeap) : dBodyL M Try.prog hints C LP F.ref26_Histogram_Buckets [a0] H = s_ref26_Histogram_Buckets M.b.g M.c M.s Try.prog C (fun v0 v2 v3 v4 H k => loopL M Try.prog hints C LP F.ref26_Histogram_Buckets 0 [(0, v0), (2, v2), (3, v3), (4, v4)] H k) a0 H (endK Try.prog [.cell 2 T.n42_int]) := by kernel_rfl

theorem s_ref26_Histogram_Buckets_b0_eq (M : CombL) (C : CallF) (LP : LoopH) (v0 : Value) (v2 : Value) (v3 : Value) (v4 : Value) (H : AHeap) (k : K) : bodyL M Try.prog hints C LP F.ref26_Histogram_Buckets 0 [(0, v0), (2, v2), (3, v3), (4, v4)] H (afterK [0, 2, 3, 4] k) = s_ref26_Histogram_Buckets_b0 M.b.g M.c M.s Try.prog C (fun v0 v2 v3 v4 H k => loopL M Try.prog hints C LP F.ref26_Histogram_Buckets 0 [(0, v0), (2, v2), (3, v3), (4, v4)] H k) v0 v2 v3 v4 H k := by kernel_rfl

/-! (*ticketline.ticketlineref26.Histogram).Ends -/

noncomputable def s_ref26_Histogram_Ends (mg : GT) (mc : CT) (ms : ST) (P : Program) (C : CallF) (L0 : Value → Value → Value → Value → AHeap → K → Res) (a0 : Value) (H : AHeap) (K0 : K) : Res :=
bareK (xnilCheck a0) H fun t8 h1 =>
bareK (fad 0 t8) h1 fun t9 h2 =>
bareK (ld1 h2 t9) h2 fun t10 h3 =>
bareK (ixS 2 t10 (.int .i64 0)) h3 fun t11 h4 =>
bareK (fad 0 t11) h4 fun t12 h5 =>
bareK (ld1 h5 t12) h5 fun t13 h6 =>
bareK (xnilCheck a0) h6 fun t15 h7 =>
bareK (fad 0 t15) h7 fun t16 h8 =>
bareK (ld1 h8 t16) h8 fun t17 h9 =>
bareK (ixS 2 t17 (.int .i64 0)) h9 fun t18 h10 =>
bareK (fad 0 t18) h10 fun t19 h11 =>
bareK (ld1 h11 t19) h11 fun t20 h12 =>
checkK true <|
ms (fun k1 =>
L0 a0 t13 t20 (.int .i64 0) h12 (blkK [4, 5] 0 k1)) (seqK (fun tT h13 =>
K0 .ret [(2, (get tT 4)), (3, (get tT 5))] h13) K0)

noncomputable def s_ref26_Histogram_Ends_b0 (mg : GT) (mc : CT) (ms : ST) (P : Program) (C : CallF) (L0 : Value → Value → Value → Value → AHeap → K → Res) (v0 : Value) (v4 : Value) (v5 : Value) (v6 : Value) (H : AHeap) (k : K) : Res :=
bareK (xnilCheck v0) H fun t23 h13 =>
bareK (fad 0 t23) h13 fun t24 h14 =>
bareK (ld1 h14 t24) h14 fun t25 h15 =>
bareK (lenS t25) h15 fun t26 h16 =>
bareK (xbin P .lss T.int (.tmp 21) (.tmp 26) v6 t26) h16 fun t27 h17 =>
mc t27 (fun k2 => k2 .normal [(0, v0), (4, v4), (5, v5), (6, v6)] h17) (fun k2 =>
k2 (.exit 0) [(27, t27), (26, t26), (25, t25), (24, t24), (23, t23), (22, v0), (21, v6), (0, v0), (4, v4), (5, v5), (6, v6)] h17) (seqK (fun tT h18 =>
ms (fun k3 =>
bareK (xnilCheck (get tT 0)) h18 fun t32 h19 =>
bareK (fad 0 t32) h19 fun t33 h20 =>
bareK (ld1 h20 t33) h20 fun t34 h21 =>
bareK (ixS 2 t34 (get tT 6)) h21 fun t36 h22 =>
bareK (fad 0 t36) h22 fun t37 h23 =>
bareK (ld1 h23 t37) h23 fun t38 h24 =>
nextK C h24 (xbuiltin P .min [T.int, T.int] [(get tT 4), t38] h24) fun t39 h25 =>
bareK (xnilCheck (get tT 0)) h25 fun t42 h26 =>
bareK (fad 0 t42) h26 fun t43 h27 =>
bareK (ld1 h27 t43) h27 fun t44 h28 =>
bareK (ixS 2 t44 (get tT 6)) h28 fun t46 h29 =>
bareK (fad 0 t46) h29 fun t47 h30 =>
bareK (ld1 h30 t47) h30 fun t48 h31 =>
nextK C h31 (xbuiltin P .max [T.int, T.int] [(get tT 5), t48] h31) fun t49 h32 =>
checkK true <|
k3 .normal [(0, (get tT 0)), (4, t39), (5, t49), (6, (get tT 6))] h32) (seqK (fun tT_1 h33 =>
bareK (xbin P .add T.int (.tmp 28) (.const (.int .i64 1)) (get tT_1 6) (.int .i64 1)) h33 fun t29 h34 =>
k .normal [(0, (get tT_1 0)), (4, (get tT_1 4)), (5, (get tT_1 5)), (6, t29)] h34) (afterK [0, 4, 5, 6] k))) (afterK [0, 4, 5, 6] k))

theorem s_ref26_Histogram_Ends_eq (M : CombL) (C : CallF) (LP : LoopH) (a0 : Value) (H : AHeap) : dBodyL M Try.prog hints C LP F.ref26_Histogram_Ends [a0] H = s_ref26_Histogram_Ends M.b.g M.c M.s Try.prog C (fun v0 v4 v5 v6 H k => loopL M Try.prog hints C LP F.ref26_Histogram_Ends 0 [(0, v0), (4, v4), (5, v5), (6, v6)] H k) a0 H (endK Try.prog [.tmp 2, .tmp 3]) := by kernel_rfl

theorem s_ref26_Histogram_Ends_b0_eq (M : CombL) (C : CallF) (LP : LoopH) (v0 : Value) (v4 : Value) (v5 : Value) (v6 : Value) (H : AHeap) (k : K) : bodyL M Try.prog hints C LP F.ref26_Histogram_Ends 0 [(0, v0), (4, v4), (5, v5), (6, v6)] H (afterK [0, 4, 5, 6] k) = s_ref26_Histogram_Ends_b0 M.b.g M.c M.s Try.prog C (fun v0 v4 v5 v6 H k => loopL M Try.prog hints C LP F.ref26_Histogram_Ends 0 [(0, v0), (4, v4), (5, v5), (6, v6)] H k) v0 v4 v5 v6 H k := by kernel_rfl

/-! (*ticketline.ticketlineref26.Histogram).Quantile -/

noncomputable def s_ref26_Histogram_Quantile (mg : GT) (mc : CT) (ms : ST) (P : Program) (C : CallF) (L0 : Value → Value → Value → Value → Value → Value → AHeap → K → Res) (a0 : Value) (a1 : Value) (H : AHeap) (K0 : K) : Res :=
enterK C F.ref26_Histogram_Buckets [a0] H fun t13 h1 =>
bothK (newv T.n42_int (.agg #[(.int .i64 0), (.int .i64 0), (.int .i64 0), (.int .i64 0), (.int .i64 0), (.int .i64 0), (.int .i64 0), (.int .i64 0), (.int .i64 0), (.int .i64 0), (.int .i64 0), (.int .i64 0), (.int .i64 0), (.int .i64 0), (.int .i64 0), (.int .i64 0), (.int .i64 0), (.int .i64 0), (.int .i64 0), (.int .i64 0), (.int .i64 0), (.int .i64 0), (.int .i64 0), (.int .i64 0), (.int .i64 0), (.int .i64 0), (.int .i64 0), (.int .i64 0), (.int .i64 0), (.int .i64 0), (.int .i64 0), (.int .i64 0), (.int .i64 0), (.int .i64 0), (.int .i64 0), (.int .i64 0), (.int .i64 0), (.int .i64 0), (.int .i64 0), (.int .i64 0), (.int .i64 0), (.int .i64 0)]) h1) fun t5 h2 =>
quietK (stN 42 h2 t5 t13) fun _ h3 =>
enterK C F.ref26_Histogram_Ends [a0] h3 fun t16 h4 =>
bareK (xextract t16 0) h4 fun t17 h5 =>
bareK (xextract t16 1) h5 fun t18 h6 =>
ms (fun k1 =>
L0 a0 a1 t5 t18 (.int .i64 0) (.int .i64 0) h6 (blkK [] 0 k1)) (seqK (fun tT h7 =>
K0 .ret [(4, (.int .i64 (-1)))] h7) K0)

noncomputable def s_ref26_Histogram_Quantile_b0 (mg : GT) (mc : CT) (ms : ST) (P : Program) (C : CallF) (L0 : Value → Value → Value → Value → Value → Value → AHeap → K → Res) (v0 : Value) (v1 : Value) (v5 : Value) (v7 : Value) (v8 : Value) (v9 : Value) (H : AHeap) (k : K) : Res :=
bareK (xbin P .lss T.int (.tmp 19) (.const (.int .i64 42)) v9 (.int .i64 42)) H fun t20 h7 =>
mc t20 (fun k2 => k2 .normal [(0, v0), (1, v1), (5, v5), (7, v7), (8, v8), (9, v9)] h7) (fun k2 =>
k2 (.exit 0) [(20, t20), (19, v9), (0, v0), (1, v1), (5, v5), (7, v7), (8, v8), (9, v9)] h7) (seqK (fun tT h8 =>
ms (fun k3 =>
bareK (ixA 42 1 (get tT 5) (get tT 9)) h8 fun t25 h9 =>
bareK (ld1 h9 t25) h9 fun t26 h10 =>
bareK (xbin P .add T.int (.tmp 23) (.tmp 26) (get tT 8) t26) h10 fun t27 h11 =>
bareK (ixA 42 1 (get tT 5) (get tT 9)) h11 fun t29 h12 =>
bareK (ld1 h12 t29) h12 fun t30 h13 =>
bareK (xbin P .gtr T.int (.tmp 30) (.const (.int .i64 0)) t30 (.int .i64 0)) h13 fun t31 h14 =>
mg t31 true (fun o4 => o4 t27 h14) h14 fun t33 h15 =>
mg t31 true (fun o5 => bareK (xbin P .mul T.int (.const (.int .i64 1000)) (.tmp 33) (.int .i64 1000) t33) h15 o5) h15 fun t34 h16 =>
mg t31 true (fun o6 => o6 (get tT 1) h16) h16 fun t35 h17 =>
mg t31 true (fun o7 => o7 (get tT 0) h17) h17 fun t36 h18 =>
mg t31 true (fun o8 => enterK C F.ref26_Histogram_Count [t36] h18 o8) h18 fun t37 h19 =>
mg t31 true (fun o9 => bareK (xbin P .mul T.int (.tmp 35) (.tmp 37) t35 t37) h19 o9) h19 fun t38 h20 =>
mg t31 true (fun o10 => bareK (xbin P .geq T.int (.tmp 34) (.tmp 38) t34 t38) h20 o10) h20 fun t39 h21 =>
pickK t31 t39 (.bool false) fun t40 =>
mc t40 (fun k11 => enterK C F.ref26_Bounds [(get tT 9)] h21 fun t43 h22 =>
bareK (xextract t43 0) h22 fun t44 h23 =>
bareK (xextract t43 1) h23 fun t45 h24 =>
nextK C h24 (xbuiltin P .min [T.int, T.int] [t45, (get tT 7)] h24) fun t48 h25 =>
k11 .ret [(4, t48)] h25) (fun k11 =>
k11 .normal [(0, (get tT 0)), (1, (get tT 1)), (5, (get tT 5)), (7, (get tT 7)), (8, t27), (9, (get tT 9))] h21) (blkK [0, 1, 5, 7, 8, 9] 1 k3)) (seqK (fun tT_1 h26 =>
bareK (xbin P .add T.int (.tmp 21) (.const (.int .i64 1)) (get tT_1 9) (.int .i64 1)) h26 fun t22 h27 =>
k .normal [(0, (get tT_1 0)), (1, (get tT_1 1)), (5, (get tT_1 5)), (7, (get tT_1 7)), (8, (get tT_1 8)), (9, t22)] h27) (afterK [0, 1, 5, 7, 8, 9] k))) (afterK [0, 1, 5, 7, 8, 9] k))

theorem s_ref26_Histogram_Quantile_eq (M : CombL) (C : CallF) (LP : LoopH) (a0 : Value) (a1 : Value) (H : AHeap) : dBodyL M Try.prog hints C LP F.ref26_Histogram_Quantile [a0, a1] H = s_ref26_Histogram_Quantile M.b.g M.c M.s Try.prog C (fun v0 v1 v5 v7 v8 v9 H k => loopL M Try.prog hints C LP F.ref26_Histogram_Quantile 0 [(0, v0), (1, v1), (5, v5), (7, v7), (8, v8), (9, v9)] H k) a0 a1 H (endK Try.prog [.tmp 4]) := by kernel_rfl

theorem s_ref26_Histogram_Quantile_b0_eq (M : CombL) (C : CallF) (LP : LoopH) (v0 : Value) (v1 : Value) (v5 : Value) (v7 : Value) (v8 : Value) (v9 : Value) (H : AHeap) (k : K) : bodyL M Try.prog hints C LP F.ref26_Histogram_Quantile 0 [(0, v0), (1, v1), (5, v5), (7, v7), (8, v8), (9, v9)] H (afterK [0, 1, 5, 7, 8, 9] k) = s_ref26_Histogram_Quantile_b0 M.b.g M.c M.s Try.prog C (fun v0 v1 v5 v7 v8 v9 H k => loopL M Try.prog hints C LP F.ref26_Histogram_Quantile 0 [(0, v0), (1, v1), (5, v5), (7, v7), (8, v8), (9, v9)] H k) v0 v1 v5 v7 v8 v9 H k := by kernel_rfl

/-! math.bits.Len -/

noncomputable def s_math_bits_Len (mg : GT) (mc : CT) (ms : ST) (P : Program) (C : CallF) (a0 : Value) (H : AHeap) (K0 : K) : Res :=
mc (.bool false) (fun k1 => bothK (xconv P T.uint T.uint32 a0 H) fun t4 h1 =>
enterK C F.math_bits_Len32 [t4] h1 fun t5 h2 =>
k1 .ret [(2, t5)] h2) (fun k1 =>
k1 .normal [(0, a0)] H) (seqK (fun tT h3 =>
enterK C F.math_bits_Len64 [(get tT 0)] h3 fun t7 h4 =>
K0 .ret [(2, t7)] h4) K0)

theorem s_math_bits_Len_eq (M : CombL) (C : CallF) (LP : LoopH) (a0 : Value) (H : AHeap) : dBodyL M Try.prog hints C LP F.math_bits_Len [a0] H = s_math_bits_Len M.b.g M.c M.s Try.prog C a0 H (endK Try.prog [.tmp 2]) := by kernel_rfl

/-! ticketline.stats.named$1 -/

noncomputable def s_stats_named_1 (mg : GT) (mc : CT) (ms : ST) (P : Program) (C : CallF) (a0 : Value) (H : AHeap) (K0 : K) : Res :=
enterK C F.strings_ContainsRune [(.string (mk [97, 98, 99, 100, 101, 102, 103, 104, 105, 106, 107, 108, 109, 110, 111, 112, 113, 114, 115, 116, 117, 118, 119, 120, 121, 122, 48, 49, 50, 51, 52, 53, 54, 55, 56, 57, 45])), a0] H fun t4 h1 =>
bareK (xun P .not t4) h1 fun t5 h2 =>
K0 .ret [(2, t5)] h2

theorem s_stats_named_1_eq (M : CombL) (C : CallF) (LP : LoopH) (a0 : Value) (H : AHeap) : dBodyL M Try.prog hints C LP F.stats_named_1 [a0] H = s_stats_named_1 M.b.g M.c M.s Try.prog C a0 H (endK Try.prog [.tmp 2]) := by kernel_rfl

/-! strings.ContainsRune -/

noncomputable def s_strings_ContainsRune (mg : GT) (mc : CT) (ms : ST) (P : Program) (C : CallF) (a0 : Value) (a1 : Value) (H : AHeap) (K0 : K) : Res :=
enterK C F.strings_IndexRune [a0, a1] H fun t7 h1 =>
bareK (xbin P .geq T.int (.tmp 7) (.const (.int .i64 0)) t7 (.int .i64 0)) h1 fun t8 h2 =>
K0 .ret [(4, t8)] h2

theorem s_strings_ContainsRune_eq (M : CombL) (C : CallF) (LP : LoopH) (a0 : Value) (a1 : Value) (H : AHeap) : dBodyL M Try.prog hints C LP F.strings_ContainsRune [a0, a1] H = s_strings_ContainsRune M.b.g M.c M.s Try.prog C a0 a1 H (endK Try.prog [.tmp 4]) := by kernel_rfl

/-! strings.ContainsFunc -/

noncomputable def s_strings_ContainsFunc (mg : GT) (mc : CT) (ms : ST) (P : Program) (C : CallF) (a0 : Value) (a1 : Value) (H : AHeap) (K0 : K) : Res :=
enterK C F.strings_IndexFunc [a0, a1] H fun t7 h1 =>
bareK (xbin P .geq T.int (.tmp 7) (.const (.int .i64 0)) t7 (.int .i64 0)) h1 fun t8 h2 =>
K0 .ret [(4, t8)] h2

theorem s_strings_ContainsFunc_eq (M : CombL) (C : CallF) (LP : LoopH) (a0 : Value) (a1 : Value) (H : AHeap) : dBodyL M Try.prog hints C LP F.strings_ContainsFunc [a0, a1] H = s_strings_ContainsFunc M.b.g M.c M.s Try.prog C a0 a1 H (endK Try.prog [.tmp 4]) := by kernel_rfl

/-! slices.pdqsortOrdered[string] -/

noncomputable def s_slices_pdqsortOrdered_string (mg : GT) (mc : CT) (ms : ST) (P : Program) (C : CallF) (L0 : Value → Value → Value → Value → Value → Value → AHeap → K → Res) (a0 : Value) (a1 : Value) (a2 : Value) (a3 : Value) (H : AHeap) (K0 : K) : Res :=
ms (fun k1 =>
L0 a0 a1 a2 a3 (.bool true) (.bool true) H (blkK [] 0 k1)) K0

noncomputable def s_slices_pdqsortOrdered_string_b0 (mg : GT) (mc : CT) (ms : ST) (P : Program) (C : CallF) (L0 : Value → Value → Value → Value → Value → Value → AHeap → K → Res) (v0 : Value) (v1 : Value) (v2 : Value) (v3 : Value) (v8 : Value) (v9 : Value) (H : AHeap) (k : K) : Res :=
ms (fun k2 =>
bareK (xbin P .sub T.int (.tmp 19) (.tmp 20) v2 v1) H fun t21 h1 =>
bareK (xbin P .leq T.int (.tmp 22) (.const (.int .i64 12)) t21 (.int .i64 12)) h1 fun t23 h2 =>
mc t23 (fun k3 => enterK C F.slices_insertionSortOrdered_string [v0, v1, v2] h2 fun t27 h3 =>
k3 .ret [] h3) (fun k3 =>
k3 .normal [(0, v0), (1, v1), (2, v2), (3, v3), (8, v8), (9, v9), (10, t21)] h2) (seqK (fun tT h4 =>
bareK (xbin P .eql T.int (.tmp 28) (.const (.int .i64 0)) (get tT 3) (.int .i64 0)) h4 fun t29 h5 =>
mc t29 (fun k4 => enterK C F.slices_heapSortOrdered_string [(get tT 0), (get tT 1), (get tT 2)] h5 fun t33 h6 =>
k4 .ret [] h6) (fun k4 =>
k4 .normal [(0, (get tT 0)), (1, (get tT 1)), (2, (get tT 2)), (3, (get tT 3)), (8, (get tT 8)), (9, (get tT 9)), (10, (get tT 10))] h5) (seqK (fun tT_1 h7 =>
bareK (xun P .not (get tT_1 8)) h7 fun t35 h8 =>
mc t35 (fun k5 => enterK C F.slices_breakPatternsOrdered_string [(get tT_1 0), (get tT_1 1), (get tT_1 2)] h8 fun t39 h9 =>
bareK (xbin P .sub T.int (.tmp 40) (.const (.int .i64 1)) (get tT_1 3) (.int .i64 1)) h9 fun t41 h10 =>
k5 .normal [(0, (get tT_1 0)), (1, (get tT_1 1)), (2, (get tT_1 2)), (3, t41), (8, (get tT_1 8)), (9, (get tT_1 9)), (10, (get tT_1 10))] h10) (fun k5 =>
k5 .normal [(0, (get tT_1 0)), (1, (get tT_1 1)), (2, (get tT_1 2)), (3, (get tT_1 3)), (8, (get tT_1 8)), (9, (get tT_1 9)), (10, (get tT_1 10))] h8) (seqK (fun tT_2 h11 =>
enterK C F.slices_choosePivotOrdered_string [(get tT_2 0), (get tT_2 1), (get tT_2 2)] h11 fun t46 h12 =>
bareK (xextract t46 0) h12 fun t47 h13 =>
bareK (xextract t46 1) h13 fun t48 h14 =>
bareK (xbin P .eql T.slices_sortedHint (.tmp 49) (.const (.int .i64 2)) t48 (.int .i64 2)) h14 fun t50 h15 =>
mc t50 (fun k6 => enterK C F.slices_reverseRangeOrdered_string [(get tT_2 0), (get tT_2 1), (get tT_2 2)] h15 fun t54 h16 =>
bareK (xbin P .sub T.int (.tmp 55) (.const (.int .i64 1)) (get tT_2 2) (.int .i64 1)) h16 fun t56 h17 =>
bareK (xbin P .sub T.int (.tmp 57) (.tmp 58) t47 (get tT_2 1)) h17 fun t59 h18 =>
bareK (xbin P .sub T.int (.tmp 56) (.tmp 59) t56 t59) h18 fun t60 h19 =>
k6 .normal [(0, (get tT_2 0)), (1, (get tT_2 1)), (2, (get tT_2 2)), (3, (get tT_2 3)), (8, (get tT_2 8)), (9, (get tT_2 9)), (10, (get tT_2 10)), (11, t60), (12, (.int .i64 1))] h19) (fun k6 =>
k6 .normal [(0, (get tT_2 0)), (1, (get tT_2 1)), (2, (get tT_2 2)), (3, (get tT_2 3)), (8, (get tT_2 8)), (9, (get tT_2 9)), (10, (get tT_2 10)), (11, t47), (12, t48)] h15) (seqK (fun tT_3 h20 =>
mg (get tT_3 8) true (fun o7 => o7 (get tT_3 9) h20) h20 fun t63 h21 =>
pickK (get tT_3 8) t63 (.bool false) fun t64 =>
mg t64 true (fun o8 => o8 (get tT_3 12) h21) h21 fun t66 h22 =>
mg t64 true (fun o9 => bareK (xbin P .eql T.slices_sortedHint (.tmp 66) (.const (.int .i64 1)) t66 (.int .i64 1)) h22 o9) h22 fun t67 h23 =>
pickK t64 t67 (.bool false) fun t68 =>
mc t68 (fun k10 => enterK C F.slices_partialInsertionSortOrdered_string [(get tT_3 0), (get tT_3 1), (get tT_3 2)] h23 fun t72 h24 =>
mc t72 (fun k11 => k11 .ret [] h24) (fun k11 =>
k11 .normal [(0, (get tT_3 0)), (1, (get tT_3 1)), (2, (get tT_3 2)), (3, (get tT_3 3)), (8, (get tT_3 8)), (9, (get tT_3 9)), (10, (get tT_3 10)), (11, (get tT_3 11))] h24) (afterK [0, 1, 2, 3, 8, 9, 10, 11] k10)) (fun k10 =>
k10 .normal [(0, (get tT_3 0)), (1, (get tT_3 1)), (2, (get tT_3 2)), (3, (get tT_3 3)), (8, (get tT_3 8)), (9, (get tT_3 9)), (10, (get tT_3 10)), (11, (get tT_3 11))] h23) (seqK (fun tT_4 h25 =>
bareK (xbin P .gtr T.int (.tmp 73) (.const (.int .i64 0)) (get tT_4 1) (.int .i64 0)) h25 fun t74 h26 =>
mg t74 true (fun o12 => o12 (get tT_4 0) h26) h26 fun t76 h27 =>
mg t74 true (fun o13 => o13 (get tT_4 1) h27) h27 fun t77 h28 =>
mg t74 true (fun o14 => bareK (xbin P .sub T.int (.tmp 77) (.const (.int .i64 1)) t77 (.int .i64 1)) h28 o14) h28 fun t78 h29 =>
mg t74 true (fun o15 => bareK (ixS 1 t76 t78) h29 o15) h29 fun t79 h30 =>
mg t74 true (fun o16 => bareK (ld1 h30 t79) h30 o16) h30 fun t80 h31 =>
mg t74 true (fun o17 => o17 (get tT_4 0) h31) h31 fun t81 h32 =>
mg t74 true (fun o18 => o18 (get tT_4 11) h32) h32 fun t82 h33 =>
mg t74 true (fun o19 => bareK (ixS 1 t81 t82) h33 o19) h33 fun t83 h34 =>
mg t74 true (fun o20 => bareK (ld1 h34 t83) h34 o20) h34 fun t84 h35 =>
mg t74 true (fun o21 => enterK C F.cmp_Less_string [t80, t84] h35 o21) h35 fun t85 h36 =>
mg t74 true (fun o22 => bareK (xun P .not t85) h36 o22) h36 fun t86 h37 =>
pickK t74 t86 (.bool false) fun t87 =>
checkK true <|
mc t87 (fun k23 => enterK C F.slices_partitionEqualOrdered_string [(get tT_4 0), (get tT_4 1), (get tT_4 2), (get tT_4 11)] h37 fun t92 h38 =>
k23 (.exit 1) ((1, t92) :: (93, t92) :: (13, t92) :: (92, t92) :: (91, (get tT_4 11)) :: (90, (get tT_4 2)) :: (89, (get tT_4 1)) :: (88, (get tT_4 0)) :: (87, t87) :: (86, t86) :: (85, t85) :: (84, t84) :: (83, t83) :: (82, t82) :: (81, t81) :: (80, t80) :: (79, t79) :: (78, t78) :: (77, t77) :: (76, t76) :: (75, t74) :: (74, t74) :: (73, (get tT_4 1)) :: tT_4) h38) (fun k23 =>
k23 .normal [(0, (get tT_4 0)), (1, (get tT_4 1)), (2, (get tT_4 2)), (3, (get tT_4 3)), (10, (get tT_4 10)), (11, (get tT_4 11))] h37) (seqK (fun tT_5 h39 =>
enterK C F.slices_partitionOrdered_string [(get tT_5 0), (get tT_5 1), (get tT_5 2), (get tT_5 11)] h39 fun t99 h40 =>
bareK (xextract t99 0) h40 fun t100 h41 =>
bareK (xextract t99 1) h41 fun t101 h42 =>
bareK (xbin P .sub T.int (.tmp 103) (.tmp 104) t100 (get tT_5 1)) h42 fun t105 h43 =>
bareK (xbin P .sub T.int (.tmp 106) (.tmp 107) (get tT_5 2) t100) h43 fun t108 h44 =>
bareK (xbin P .quo T.int (.tmp 109) (.const (.int .i64 8)) (get tT_5 10) (.int .i64 8)) h44 fun t110 h45 =>
bareK (xbin P .lss T.int (.tmp 111) (.tmp 112) t105 t108) h45 fun t113 h46 =>
mc t113 (fun k24 => bareK (xbin P .geq T.int (.tmp 114) (.tmp 115) t105 t110) h46 fun t116 h47 =>
enterK C F.slices_pdqsortOrdered_string [(get tT_5 0), (get tT_5 1), t100, (get tT_5 3)] h47 fun t121 h48 =>
bareK (xbin P .add T.int (.tmp 122) (.const (.int .i64 1)) t100 (.int .i64 1)) h48 fun t123 h49 =>
k24 .normal [(0, (get tT_5 0)), (1, t123), (2, (get tT_5 2)), (3, (get tT_5 3)), (8, t116), (9, t101)] h49) (fun k24 =>
bareK (xbin P .geq T.int (.tmp 124) (.tmp 125) t108 t110) h46 fun t126 h50 =>
bareK (xbin P .add T.int (.tmp 128) (.const (.int .i64 1)) t100 (.int .i64 1)) h50 fun t129 h51 =>
enterK C F.slices_pdqsortOrdered_string [(get tT_5 0), t129, (get tT_5 2), (get tT_5 3)] h51 fun t132 h52 =>
k24 .normal [(0, (get tT_5 0)), (1, (get tT_5 1)), (2, t100), (3, (get tT_5 3)), (8, t126), (9, t101)] h52) (blkK [0, 1, 2, 3, 8, 9] 1 k2)) (blkK [0, 1, 2, 3, 8, 9] 1 k2))) (blkK [0, 1, 2, 3, 8, 9] 1 k2))) (blkK [0, 1, 2, 3, 8, 9] 1 k2))) (blkK [0, 1, 2, 3, 8, 9] 1 k2))) (blkK [0, 1, 2, 3, 8, 9] 1 k2))) (blkK [0, 1, 2, 3, 8, 9] 1 k2))) (afterK [0, 1, 2, 3, 8, 9] k)

theorem s_slices_pdqsortOrdered_string_eq (M : CombL) (C : CallF) (LP : LoopH) (a0 : Value) (a1 : Value) (a2 : Value) (a3 : Value) (H : AHeap) : dBodyL M Try.prog hints C LP F.slices_pdqsortOrdered_string [a0, a1, a2, a3] H = s_slices_pdqsortOrdered_string M.b.g M.c M.s Try.prog C (fun v0 v1 v2 v3 v8 v9 H k => loopL M Try.prog hints C LP F.slices_pdqsortOrdered_string 0 [(0, v0), (1, v1), (2, v2), (3, v3), (8, v8), (9, v9)] H k) a0 a1 a2 a3 H (endK Try.prog []) := by kernel_rfl

theorem s_slices_pdqsortOrdered_string_b0_eq (M : CombL) (C : CallF) (LP : LoopH) (v0 : Value) (v1 : Value) (v2 : Value) (v3 : Value) (v8 : Value) (v9 : Value) (H : AHeap) (k : K) : bodyL M Try.prog hints C LP F.slices_pdqsortOrdered_string 0 [(0, v0), (1, v1), (2, v2), (3, v3), (8, v8), (9, v9)] H (afterK [0, 1, 2, 3, 8, 9] k) = s_slices_pdqsortOrdered_string_b0 M.b.g M.c M.s Try.prog C (fun v0 v1 v2 v3 v8 v9 H k => loopL M Try.prog hints C LP F.slices_pdqsortOrdered_string 0 [(0, v0), (1, v1), (2, v2), (3, v3), (8, v8), (9, v9)] H k) v0 v1 v2 v3 v8 v9 H k := by kernel_rfl

/-! (*ticketline.stats.Histogram).empty -/

noncomputable def s_stats_Histogram_empty (mg : GT) (mc : CT) (ms : ST) (P : Program) (C : CallF) (a0 : Value) (H : AHeap) (K0 : K) : Res :=
bareK (xnilCheck a0) H fun t4 h1 =>
bareK (fad 0 t4) h1 fun t5 h2 =>
bareK (ldN 42 h2 t5) h2 fun t6 h3 =>
bareK (bldA #[(.int .i64 0), (.int .i64 0), (.int .i64 0), (.int .i64 0), (.int .i64 0), (.int .i64 0), (.int .i64 0), (.int .i64 0), (.int .i64 0), (.int .i64 0), (.int .i64 0), (.int .i64 0), (.int .i64 0), (.int .i64 0), (.int .i64 0), (.int .i64 0), (.int .i64 0), (.int .i64 0), (.int .i64 0), (.int .i64 0), (.int .i64 0), (.int .i64 0), (.int .i64 0), (.int .i64 0), (.int .i64 0), (.int .i64 0), (.int .i64 0), (.int .i64 0), (.int .i64 0), (.int .i64 0), (.int .i64 0), (.int .i64 0), (.int .i64 0), (.int .i64 0), (.int .i64 0), (.int .i64 0), (.int .i64 0), (.int .i64 0), (.int .i64 0), (.int .i64 0), (.int .i64 0), (.int .i64 0)] 1 []) h3 fun t7 h4 =>
bareK (xbin P .eql T.n42_int (.tmp 6) (.tmp 7) t6 t7) h4 fun t8 h5 =>
K0 .ret [(2, t8)] h5

theorem s_stats_Histogram_empty_eq (M : CombL) (C : CallF) (LP : LoopH) (a0 : Value) (H : AHeap) : dBodyL M Try.prog hints C LP F.stats_Histogram_empty [a0] H = s_stats_Histogram_empty M.b.g M.c M.s Try.prog C a0 H (endK Try.prog [.tmp 2]) := by kernel_rfl

/-! math.bits.Len32 -/

noncomputable def s_math_bits_Len32 (mg : GT) (mc : CT) (ms : ST) (P : Program) (C : CallF) (a0 : Value) (H : AHeap) (K0 : K) : Res :=
bareK (xbin P .geq T.uint32 (.tmp 3) (.const (.int .u32 65536)) a0 (.int .u32 65536)) H fun t4 h1 =>
mc t4 (fun k1 => bareK (xbin P .shr T.uint32 (.tmp 5) (.const (.int .u64 16)) a0 (.int .u64 16)) h1 fun t6 h2 =>
k1 .normal [(0, t6), (2, (.int .i64 16))] h2) (fun k1 =>
k1 .normal [(0, a0), (2, (.int .i64 0))] h1) (seqK (fun tT h3 =>
bareK (xbin P .geq T.uint32 (.tmp 7) (.const (.int .u32 256)) (get tT 0) (.int .u32 256)) h3 fun t8 h4 =>
mc t8 (fun k2 => bareK (xbin P .shr T.uint32 (.tmp 9) (.const (.int .u64 8)) (get tT 0) (.int .u64 8)) h4 fun t10 h5 =>
bareK (xbin P .add T.int (.tmp 11) (.const (.int .i64 8)) (get tT 2) (.int .i64 8)) h5 fun t12 h6 =>
k2 .normal [(0, t10), (2, t12)] h6) (fun k2 =>
k2 .normal [(0, (get tT 0)), (2, (get tT 2))] h4) (seqK (fun tT_1 h7 =>
bothK (xconv P T.uint32 T.uint8 (get tT_1 0) h7) fun t15 h8 =>
bareK (xindex P T.string (.string (mk [0, 1, 2, 2, 3, 3, 3, 3, 4, 4, 4, 4, 4, 4, 4, 4, 5, 5, 5, 5, 5, 5, 5, 5, 5, 5, 5, 5, 5, 5, 5, 5, 6, 6, 6, 6, 6, 6, 6, 6, 6, 6, 6, 6, 6, 6, 6, 6, 6, 6, 6, 6, 6, 6, 6, 6, 6, 6, 6, 6, 6, 6, 6, 6, 7, 7, 7, 7, 7, 7, 7, 7, 7, 7, 7, 7, 7, 7, 7, 7, 7, 7, 7, 7, 7, 7, 7, 7, 7, 7, 7, 7, 7, 7, 7, 7, 7, 7, 7, 7, 7, 7, 7, 7, 7, 7, 7, 7, 7, 7, 7, 7, 7, 7, 7, 7, 7, 7, 7, 7, 7, 7, 7, 7, 7, 7, 7, 7, 8, 8, 8, 8, 8, 8, 8, 8, 8, 8, 8, 8, 8, 8, 8, 8, 8, 8, 8, 8, 8, 8, 8, 8, 8, 8, 8, 8, 8, 8, 8, 8, 8, 8, 8, 8, 8, 8, 8, 8, 8, 8, 8, 8, 8, 8, 8, 8, 8, 8, 8, 8, 8, 8, 8, 8, 8, 8, 8, 8, 8, 8, 8, 8, 8, 8, 8, 8, 8, 8, 8, 8, 8, 8, 8, 8, 8, 8, 8, 8, 8, 8, 8, 8, 8, 8, 8, 8, 8, 8, 8, 8, 8, 8, 8, 8, 8, 8, 8, 8, 8, 8, 8, 8, 8, 8, 8, 8, 8, 8, 8, 8, 8, 8, 8, 8, 8, 8, 8, 8, 8, 8, 8, 8, 8, 8, 8, 8])) t15) h8 fun t16 h9 =>
bothK (xconv P T.uint8 T.int t16 h9) fun t17 h10 =>
bareK (xbin P .add T.int (.tmp 13) (.tmp 17) (get tT_1 2) t17) h10 fun t18 h11 =>
K0 .ret [(2, t18)] h11) K0)) K0)

theorem s_math_bits_Len32_eq (M : CombL) (C : CallF) (LP : LoopH) (a0 : Value) (H : AHeap) : dBodyL M Try.prog hints C LP F.math_bits_Len32 [a0] H = s_math_bits_Len32 M.b.g M.c M.s Try.prog C a0 H (endK Try.prog [.tmp 2]) := by kernel_rfl

/-! math.bits.Len64 -/

noncomputable def s_math_bits_Len64 (mg : GT) (mc : CT) (ms : ST) (P : Program) (C : CallF) (a0 : Value) (H : AHeap) (K0 : K) : Res :=
bareK (xbin P .geq T.uint64 (.tmp 3) (.const (.int .u64 4294967296)) a0 (.int .u64 4294967296)) H fun t4 h1 =>
mc t4 (fun k1 => bareK (xbin P .shr T.uint64 (.tmp 5) (.const (.int .u64 32)) a0 (.int .u64 32)) h1 fun t6 h2 =>
k1 .normal [(0, t6), (2, (.int .i64 32))] h2) (fun k1 =>
k1 .normal [(0, a0), (2, (.int .i64 0))] h1) (seqK (fun tT h3 =>
bareK (xbin P .geq T.uint64 (.tmp 7) (.const (.int .u64 65536)) (get tT 0) (.int .u64 65536)) h3 fun t8 h4 =>
mc t8 (fun k2 => bareK (xbin P .shr T.uint64 (.tmp 9) (.const (.int .u64 16)) (get tT 0) (.int .u64 16)) h4 fun t10 h5 =>
bareK (xbin P .add T.int (.tmp 11) (.const (.int .i64 16)) (get tT 2) (.int .i64 16)) h5 fun t12 h6 =>
k2 .normal [(0, t10), (2, t12)] h6) (fun k2 =>
k2 .normal [(0, (get tT 0)), (2, (get tT 2))] h4) (seqK (fun tT_1 h7 =>
bareK (xbin P .geq T.uint64 (.tmp 13) (.const (.int .u64 256)) (get tT_1 0) (.int .u64 256)) h7 fun t14 h8 =>
mc t14 (fun k3 => bareK (xbin P .shr T.uint64 (.tmp 15) (.const (.int .u64 8)) (get tT_1 0) (.int .u64 8)) h8 fun t16 h9 =>
bareK (xbin P .add T.int (.tmp 17) (.const (.int .i64 8)) (get tT_1 2) (.int .i64 8)) h9 fun t18 h10 =>
k3 .normal [(0, t16), (2, t18)] h10) (fun k3 =>
k3 .normal [(0, (get tT_1 0)), (2, (get tT_1 2))] h8) (seqK (fun tT_2 h11 =>
bothK (xconv P T.uint64 T.uint8 (get tT_2 0) h11) fun t21 h12 =>
bareK (xindex P T.string (.string (mk [0, 1, 2, 2, 3, 3, 3, 3, 4, 4, 4, 4, 4, 4, 4, 4, 5, 5, 5, 5, 5, 5, 5, 5, 5, 5, 5, 5, 5, 5, 5, 5, 6, 6, 6, 6, 6, 6, 6, 6, 6, 6, 6, 6, 6, 6, 6, 6, 6, 6, 6, 6, 6, 6, 6, 6, 6, 6, 6, 6, 6, 6, 6, 6, 7, 7, 7, 7, 7, 7, 7, 7, 7, 7, 7, 7, 7, 7, 7, 7, 7, 7, 7, 7, 7, 7, 7, 7, 7, 7, 7, 7, 7, 7, 7, 7, 7, 7, 7, 7, 7, 7, 7, 7, 7, 7, 7, 7, 7, 7, 7, 7, 7, 7, 7, 7, 7, 7, 7, 7, 7, 7, 7, 7, 7, 7, 7, 7, 8, 8, 8, 8, 8, 8, 8, 8, 8, 8, 8, 8, 8, 8, 8, 8, 8, 8, 8, 8, 8, 8, 8, 8, 8, 8, 8, 8, 8, 8, 8, 8, 8, 8, 8, 8, 8, 8, 8, 8, 8, 8, 8, 8, 8, 8, 8, 8, 8, 8, 8, 8, 8, 8, 8, 8, 8, 8, 8, 8, 8, 8, 8, 8, 8, 8, 8, 8, 8, 8, 8, 8, 8, 8, 8, 8, 8, 8, 8, 8, 8, 8, 8, 8, 8, 8, 8, 8, 8, 8, 8, 8, 8, 8, 8, 8, 8, 8, 8, 8, 8, 8, 8, 8, 8, 8, 8, 8, 8, 8, 8, 8, 8, 8, 8, 8, 8, 8, 8, 8, 8, 8, 8, 8, 8, 8, 8, 8])) t21) h12 fun t22 h13 =>
bothK (xconv P T.uint8 T.int t22 h13) fun t23 h14 =>
bareK (xbin P .add T.int (.tmp 19) (.tmp 23) (get tT_2 2) t23) h14 fun t24 h15 =>
K0 .ret [(2, t24)] h15) K0)) K0)) K0)

theorem s_math_bits_Len64_eq (M : CombL) (C : CallF) (LP : LoopH) (a0 : Value) (H : AHeap) : dBodyL M Try.prog hints C LP F.math_bits_Len64 [a0] H = s_math_bits_Len64 M.b.g M.c M.s Try.prog C a0 H (endK Try.prog [.tmp 2]) := by kernel_rfl

/-! strings.IndexFunc -/

noncomputable def s_strings_IndexFunc (mg : GT) (mc : CT) (ms : ST) (P : Program) (C : CallF) (a0 : Value) (a1 : Value) (H : AHeap) (K0 : K) : Res :=
enterK C F.strings_indexFunc [a0, a1, (.bool true)] H fun t7 h1 =>
K0 .ret [(4, t7)] h1

theorem s_strings_IndexFunc_eq (M : CombL) (C : CallF) (LP : LoopH) (a0 : Value) (a1 : Value) (H : AHeap) : dBodyL M Try.prog hints C LP F.strings_IndexFunc [a0, a1] H = s_strings_IndexFunc M.b.g M.c M.s Try.prog C a0 a1 H (endK Try.prog [.tmp 4]) := by kernel_rfl

/-! slices.insertionSortOrdered[string] -/

noncomputable def s_slices_insertionSortOrdered_string (mg : GT) (mc : CT) (ms : ST) (P : Program) (C : CallF) (L0 : Value → Value → Value → Value → AHeap → K → Res) (L1 : Value → Value → Value → Value → Value → AHeap → K → Res) (a0 : Value) (a1 : Value) (a2 : Value) (H : AHeap) (K0 : K) : Res :=
bareK (xbin P .add T.int (.tmp 8) (.const (.int .i64 1)) a1 (.int .i64 1)) H fun t9 h1 =>
ms (fun k1 =>
L0 a0 a1 a2 t9 h1 (blkK [] 0 k1)) K0

noncomputable def s_slices_insertionSortOrdered_string_b0 (mg : GT) (mc : CT) (ms : ST) (P : Program) (C : CallF) (L0 : Value → Value → Value → Value → AHeap → K → Res) (L1 : Value → Value → Value → Value → Value → AHeap → K → Res) (v0 : Value) (v1 : Value) (v2 : Value) (v6 : Value) (H : AHeap) (k : K) : Res :=
bareK (xbin P .lss T.int (.tmp 10) (.tmp 11) v6 v2) H fun t12 h2 =>
mc t12 (fun k2 => k2 .normal [(0, v0), (1, v1), (2, v2), (6, v6)] h2) (fun k2 =>
k2 (.exit 0) [(12, t12), (11, v2), (10, v6), (0, v0), (1, v1), (2, v2), (6, v6)] h2) (seqK (fun tT h3 =>
ms (fun k3 =>
ms (fun k4 =>
L1 (get tT 0) (get tT 1) (get tT 2) (get tT 6) (get tT 6) h3 (blkK [0, 1, 2, 6] 2 k4)) (blkK [0, 1, 2, 6] 1 k3)) (seqK (fun tT_1 h4 =>
bareK (xbin P .add T.int (.tmp 13) (.const (.int .i64 1)) (get tT_1 6) (.int .i64 1)) h4 fun t14 h5 =>
k .normal [(0, (get tT_1 0)), (1, (get tT_1 1)), (2, (get tT_1 2)), (6, t14)] h5) (afterK [0, 1, 2, 6] k))) (afterK [0, 1, 2, 6] k))

noncomputable def s_slices_insertionSortOrdered_string_b1 (mg : GT) (mc : CT) (ms : ST) (P : Program) (C : CallF) (L0 : Value → Value → Value → Value → AHeap → K → Res) (L1 : Value → Value → Value → Value → Value → AHeap → K → Res) (v0 : Value) (v1 : Value) (v2 : Value) (v6 : Value) (v7 : Value) (H : AHeap) (k : K) : Res :=
bareK (xbin P .gtr T.int (.tmp 16) (.tmp 17) v7 v1) H fun t18 h4 =>
mg t18 true (fun o5 => o5 v0 h4) h4 fun t20 h5 =>
mg t18 true (fun o6 => o6 v7 h5) h5 fun t21 h6 =>
mg t18 true (fun o7 => bareK (ixS 1 t20 t21) h6 o7) h6 fun t22 h7 =>
mg t18 true (fun o8 => bareK (ld1 h7 t22) h7 o8) h7 fun t23 h8 =>
mg t18 true (fun o9 => o9 v0 h8) h8 fun t24 h9 =>
mg t18 true (fun o10 => o10 v7 h9) h9 fun t25 h10 =>
mg t18 true (fun o11 => bareK (xbin P .sub T.int (.tmp 25) (.const (.int .i64 1)) t25 (.int .i64 1)) h10 o11) h10 fun t26 h11 =>
mg t18 true (fun o12 => bareK (ixS 1 t24 t26) h11 o12) h11 fun t27 h12 =>
mg t18 true (fun o13 => bareK (ld1 h12 t27) h12 o13) h12 fun t28 h13 =>
mg t18 true (fun o14 => enterK C F.cmp_Less_string [t23, t28] h13 o14) h13 fun t29 h14 =>
pickK t18 t29 (.bool false) fun t30 =>
checkK true <|
mc t30 (fun k15 => k15 .normal [(0, v0), (1, v1), (2, v2), (6, v6), (7, v7)] h14) (fun k15 =>
k15 (.exit 2) [(30, t30), (29, t29), (28, t28), (27, t27), (26, t26), (25, t25), (24, t24), (23, t23), (22, t22), (21, t21), (20, t20), (19, t18), (18, t18), (17, v1), (16, v7), (0, v0), (1, v1), (2, v2), (6, v6), (7, v7)] h14) (seqK (fun tT h15 =>
ms (fun k16 =>
bareK (xbin P .sub T.int (.tmp 36) (.const (.int .i64 1)) (get tT 7) (.int .i64 1)) h15 fun t37 h16 =>
bareK (xbin P .sub T.int (.tmp 39) (.const (.int .i64 1)) (get tT 7) (.int .i64 1)) h16 fun t40 h17 =>
bareK (ixS 1 (get tT 0) t40) h17 fun t41 h18 =>
bareK (ld1 h18 t41) h18 fun t42 h19 =>
bareK (ixS 1 (get tT 0) (get tT 7)) h19 fun t45 h20 =>
bareK (ld1 h20 t45) h20 fun t46 h21 =>
bareK (ixS 1 (get tT 0) (get tT 7)) h21 fun t47 h22 =>
quietK (st1 h22 t47 t42) fun _ h23 =>
bareK (ixS 1 (get tT 0) t37) h23 fun t48 h24 =>
quietK (st1 h24 t48 t46) fun _ h25 =>
checkK (okV (some true) none h22 h23 h15 h15 && (okV (some true) none h22 h23 h15 h15 && (okV (some true) none h22 h23 h15 h16 && true))) <|
k16 .normal [(0, (get tT 0)), (1, (get tT 1)), (2, (get tT 2)), (6, (get tT 6)), (7, (get tT 7))] h25) (seqK (fun tT_1 h26 =>
bareK (xbin P .sub T.int (.tmp 31) (.const (.int .i64 1)) (get tT_1 7) (.int .i64 1)) h26 fun t32 h27 =>
k .normal [(0, (get tT_1 0)), (1, (get tT_1 1)), (2, (get tT_1 2)), (6, (get tT_1 6)), (7, t32)] h27) (afterK [0, 1, 2, 6, 7] k))) (afterK [0, 1, 2, 6, 7] k))

theorem s_slices_insertionSortOrdered_string_eq (M : CombL) (C : CallF) (LP : LoopH) (a0 : Value) (a1 : Value) (a2 : Value) (H : AHeap) : dBodyL M Try.prog hints C LP F.slices_insertionSortOrdered_string [a0, a1, a2] H = s_slices_insertionSortOrdered_string M.b.g M.c M.s Try.prog C (fun v0 v1 v2 v6 H k => loopL M Try.prog hints C LP F.slices_insertionSortOrdered_string 0 [(0, v0), (1, v1), (2, v2), (6, v6)] H k) (fun v0 v1 v2 v6 v7 H k => loopL M Try.prog hints C LP F.slices_insertionSortOrdered_string 1 [(0, v0), (1, v1), (2, v2), (6, v6), (7, v7)] H k) a0 a1 a2 H (endK Try.prog []) := by kernel_rfl

theorem s_slices_insertionSortOrdered_string_b0_eq (M : CombL) (C : CallF) (LP : LoopH) (v0 : Value) (v1 : Value) (v2 : Value) (v6 : Value) (H : AHeap) (k : K) : bodyL M Try.prog hints C LP F.slices_insertionSortOrdered_string 0 [(0, v0), (1, v1), (2, v2), (6, v6)] H (afterK [0, 1, 2, 6] k) = s_slices_insertionSortOrdered_string_b0 M.b.g M.c M.s Try.prog C (fun v0 v1 v2 v6 H k => loopL M Try.prog hints C LP F.slices_insertionSortOrdered_string 0 [(0, v0), (1, v1), (2, v2), (6, v6)] H k) (fun v0 v1 v2 v6 v7 H k => loopL M Try.prog hints C LP F.slices_insertionSortOrdered_string 1 [(0, v0), (1, v1), (2, v2), (6, v6), (7, v7)] H k) v0 v1 v2 v6 H k := by kernel_rfl

theorem s_slices_insertionSortOrdered_string_b1_eq (M : CombL) (C : CallF) (LP : LoopH) (v0 : Value) (v1 : Value) (v2 : Value) (v6 : Value) (v7 : Value) (H : AHeap) (k : K) : bodyL M Try.prog hints C LP F.slices_insertionSortOrdered_string 1 [(0, v0), (1, v1), (2, v2), (6, v6), (7, v7)] H (afterK [0, 1, 2, 6, 7] k) = s_slices_insertionSortOrdered_string_b1 M.b.g M.c M.s Try.prog C (fun v0 v1 v2 v6 H k => loopL M Try.prog hints C LP F.slices_insertionSortOrdered_string 0 [(0, v0), (1, v1), (2, v2), (6, v6)] H k) (fun v0 v1 v2 v6 v7 H k => loopL M Try.prog hints C LP F.slices_insertionSortOrdered_string 1 [(0, v0), (1, v1), (2, v2), (6, v6), (7, v7)] H k) v0 v1 v2 v6 v7 H k := by kernel_rfl

/-! slices.heapSortOrdered[string] -/

noncomputable def s_slices_heapSortOrdered_string (mg : GT) (mc : CT) (ms : ST) (P : Program) (C : CallF) (L0 : Value → Value → Value → Value → Value → AHeap → K → Res) (L1 : Value → Value → Value → Value → AHeap → K → Res) (a0 : Value) (a1 : Value) (a2 : Value) (H : AHeap) (K0 : K) : Res :=
bareK (xbin P .sub T.int (.tmp 12) (.tmp 13) a2 a1) H fun t14 h1 =>
bareK (xbin P .sub T.int (.tmp 15) (.const (.int .i64 1)) t14 (.int .i64 1)) h1 fun t16 h2 =>
bareK (xbin P .quo T.int (.tmp 16) (.const (.int .i64 2)) t16 (.int .i64 2)) h2 fun t17 h3 =>
ms (fun k1 =>
L0 a0 a1 (.int .i64 0) t14 t17 h3 (blkK [0, 6, 7, 8] 0 k1)) (seqK (fun tT h4 =>
bareK (xbin P .sub T.int (.tmp 27) (.const (.int .i64 1)) (get tT 8) (.int .i64 1)) h4 fun t28 h5 =>
ms (fun k2 =>
L1 (get tT 0) (get tT 6) (get tT 7) t28 h5 (blkK [] 2 k2)) K0) K0)

noncomputable def s_slices_heapSortOrdered_string_b0 (mg : GT) (mc : CT) (ms : ST) (P : Program) (C : CallF) (L0 : Value → Value → Value → Value → Value → AHeap → K → Res) (L1 : Value → Value → Value → Value → AHeap → K → Res) (v0 : Value) (v6 : Value) (v7 : Value) (v8 : Value) (v9 : Value) (H : AHeap) (k : K) : Res :=
bareK (xbin P .geq T.int (.tmp 18) (.const (.int .i64 0)) v9 (.int .i64 0)) H fun t19 h4 =>
mc t19 (fun k2 => k2 .normal [(0, v0), (6, v6), (7, v7), (8, v8), (9, v9)] h4) (fun k2 =>
k2 (.exit 0) [(19, t19), (18, v9), (0, v0), (6, v6), (7, v7), (8, v8), (9, v9)] h4) (seqK (fun tT h5 =>
ms (fun k3 =>
enterK C F.slices_siftDownOrdered_string [(get tT 0), (get tT 9), (get tT 8), (get tT 6)] h5 fun t26 h6 =>
k3 .normal [(0, (get tT 0)), (6, (get tT 6)), (7, (get tT 7)), (8, (get tT 8)), (9, (get tT 9))] h6) (seqK (fun tT_1 h7 =>
bareK (xbin P .sub T.int (.tmp 20) (.const (.int .i64 1)) (get tT_1 9) (.int .i64 1)) h7 fun t21 h8 =>
k .normal [(0, (get tT_1 0)), (6, (get tT_1 6)), (7, (get tT_1 7)), (8, (get tT_1 8)), (9, t21)] h8) (afterK [0, 6, 7, 8, 9] k))) (afterK [0, 6, 7, 8, 9] k))

noncomputable def s_slices_heapSortOrdered_string_b1 (mg : GT) (mc : CT) (ms : ST) (P : Program) (C : CallF) (L0 : Value → Value → Value → Value → Value → AHeap → K → Res) (L1 : Value → Value → Value → Value → AHeap → K → Res) (v0 : Value) (v6 : Value) (v7 : Value) (v10 : Value) (H : AHeap) (k : K) : Res :=
bareK (xbin P .geq T.int (.tmp 29) (.const (.int .i64 0)) v10 (.int .i64 0)) H fun t30 h6 =>
mc t30 (fun k3 => k3 .normal [(0, v0), (6, v6), (7, v7), (10, v10)] h6) (fun k3 =>
k3 (.exit 2) [(30, t30), (29, v10), (0, v0), (6, v6), (7, v7), (10, v10)] h6) (seqK (fun tT h7 =>
ms (fun k4 =>
bareK (xbin P .add T.int (.tmp 36) (.tmp 37) (get tT 6) (get tT 10)) h7 fun t38 h8 =>
bareK (xbin P .add T.int (.tmp 40) (.tmp 41) (get tT 6) (get tT 10)) h8 fun t42 h9 =>
bareK (ixS 1 (get tT 0) t42) h9 fun t43 h10 =>
bareK (ld1 h10 t43) h10 fun t44 h11 =>
bareK (ixS 1 (get tT 0) (get tT 6)) h11 fun t47 h12 =>
bareK (ld1 h12 t47) h12 fun t48 h13 =>
bareK (ixS 1 (get tT 0) (get tT 6)) h13 fun t49 h14 =>
quietK (st1 h14 t49 t44) fun _ h15 =>
bareK (ixS 1 (get tT 0) t38) h15 fun t50 h16 =>
quietK (st1 h16 t50 t48) fun _ h17 =>
checkK (okV (some true) none h14 h15 h7 h7 && (okV (some true) none h14 h15 h7 h7 && (okV (some true) none h14 h15 h7 h7 && (okV (some true) none h14 h15 h7 h8 && true)))) <|
enterK C F.slices_siftDownOrdered_string [(get tT 0), (get tT 7), (get tT 10), (get tT 6)] h17 fun t55 h18 =>
k4 .normal [(0, (get tT 0)), (6, (get tT 6)), (7, (get tT 7)), (10, (get tT 10))] h18) (seqK (fun tT_1 h19 =>
bareK (xbin P .sub T.int (.tmp 31) (.const (.int .i64 1)) (get tT_1 10) (.int .i64 1)) h19 fun t32 h20 =>
k .normal [(0, (get tT_1 0)), (6, (get tT_1 6)), (7, (get tT_1 7)), (10, t32)] h20) (afterK [0, 6, 7, 10] k))) (afterK [0, 6, 7, 10] k))

theorem s_slices_heapSortOrdered_string_eq (M : CombL) (C : CallF) (LP : LoopH) (a0 : Value) (a1 : Value) (a2 : Value) (H : AHeap) : dBodyL M Try.prog hints C LP F.slices_heapSortOrdered_string [a0, a1, a2] H = s_slices_heapSortOrdered_string M.b.g M.c M.s Try.prog C (fun v0 v6 v7 v8 v9 H k => loopL M Try.prog hints C LP F.slices_heapSortOrdered_string 0 [(0, v0), (6, v6), (7, v7), (8, v8), (9, v9)] H k) (fun v0 v6 v7 v10 H k => loopL M Try.prog hints C LP F.slices_heapSortOrdered_string 1 [(0, v0), (6, v6), (7, v7), (10, v10)] H k) a0 a1 a2 H (endK Try.prog []) := by kernel_rfl

theorem s_slices_heapSortOrdered_string_b0_eq (M : CombL) (C : CallF) (LP : LoopH) (v0 : Value) (v6 : Value) (v7 : Value) (v8 : Value) (v9 : Value) (H : AHeap) (k : K) : bodyL M Try.prog hints C LP F.slices_heapSortOrdered_string 0 [(0, v0), (6, v6), (7, v7), (8, v8), (9, v9)] H (afterK [0, 6, 7, 8, 9] k) = s_slices_heapSortOrdered_string_b0 M.b.g M.c M.s Try.prog C (fun v0 v6 v7 v8 v9 H k => loopL M Try.prog hints C LP F.slices_heapSortOrdered_string 0 [(0, v0), (6, v6), (7, v7), (8, v8), (9, v9)] H k) (fun v0 v6 v7 v10 H k => loopL M Try.prog hints C LP F.slices_heapSortOrdered_string 1 [(0, v0), (6, v6), (7, v7), (10, v10)] H k) v0 v6 v7 v8 v9 H k := by kernel_rfl

theorem s_slices_heapSortOrdered_string_b1_eq (M : CombL) (C : CallF) (LP : LoopH) (v0 : Value) (v6 : Value) (v7 : Value) (v10 : Value) (H : AHeap) (k : K) : bodyL M Try.prog hints C LP F.slices_heapSortOrdered_string 1 [(0, v0), (6, v6), (7, v7), (10, v10)] H (afterK [0, 6, 7, 10] k) = s_slices_heapSortOrdered_string_b1 M.b.g M.c M.s Try.prog C (fun v0 v6 v7 v8 v9 H k => loopL M Try.prog hints C LP F.slices_heapSortOrdered_string 0 [(0, v0), (6, v6), (7, v7), (8, v8), (9, v9)] H k) (fun v0 v6 v7 v10 H k => loopL M Try.prog hints C LP F.slices_heapSortOrdered_string 1 [(0, v0), (6, v6), (7, v7), (10, v10)] H k) v0 v6 v7 v10 H k := by kernel_rfl

/-! slices.breakPatternsOrdered[string] -/

noncomputable def s_slices_breakPatternsOrdered_string (mg : GT) (mc : CT) (ms : ST) (P : Program) (C : CallF) (L0 : Value → Value → Value → Value → Value → Value → AHeap → K → Res) (a0 : Value) (a1 : Value) (a2 : Value) (H : AHeap) (K0 : K) : Res :=
bareK (xbin P .sub T.int (.tmp 11) (.tmp 12) a2 a1) H fun t13 h1 =>
bareK (xbin P .geq T.int (.tmp 14) (.const (.int .i64 8)) t13 (.int .i64 8)) h1 fun t15 h2 =>
mc t15 (fun k1 => bothK (xconv P T.int T.slices_xorshift t13 h2) fun t17 h3 =>
bothK (newv T.slices_xorshift (.int .u64 0) h3) fun t7 h4 =>
quietK (st1 h4 t7 t17) fun _ h5 =>
enterK C F.slices_nextPowerOfTwo [t13] h5 fun t19 h6 =>
bareK (xbin P .quo T.int (.tmp 21) (.const (.int .i64 4)) t13 (.int .i64 4)) h6 fun t22 h7 =>
bareK (xbin P .mul T.int (.tmp 22) (.const (.int .i64 2)) t22 (.int .i64 2)) h7 fun t23 h8 =>
bareK (xbin P .add T.int (.tmp 20) (.tmp 23) a1 t23) h8 fun t24 h9 =>
bareK (xbin P .sub T.int (.tmp 24) (.const (.int .i64 1)) t24 (.int .i64 1)) h9 fun t25 h10 =>
ms (fun k2 =>
L0 a0 a1 t13 t7 t19 t25 h10 (blkK [] 0 k2)) (afterK [] k1)) (fun k1 =>
k1 .normal [] h2) K0

noncomputable def s_slices_breakPatternsOrdered_string_b0 (mg : GT) (mc : CT) (ms : ST) (P : Program) (C : CallF) (L0 : Value → Value → Value → Value → Value → Value → AHeap → K → Res) (v0 : Value) (v1 : Value) (v6 : Value) (v7 : Value) (v8 : Value) (v9 : Value) (H : AHeap) (k : K) : Res :=
bareK (xbin P .quo T.int (.tmp 28) (.const (.int .i64 4)) v6 (.int .i64 4)) H fun t29 h11 =>
bareK (xbin P .mul T.int (.tmp 29) (.const (.int .i64 2)) t29 (.int .i64 2)) h11 fun t30 h12 =>
bareK (xbin P .add T.int (.tmp 27) (.tmp 30) v1 t30) h12 fun t31 h13 =>
bareK (xbin P .add T.int (.tmp 31) (.const (.int .i64 1)) t31 (.int .i64 1)) h13 fun t32 h14 =>
bareK (xbin P .leq T.int (.tmp 26) (.tmp 32) v9 t32) h14 fun t33 h15 =>
mc t33 (fun k3 => k3 .normal [(0, v0), (1, v1), (6, v6), (7, v7), (8, v8), (9, v9)] h15) (fun k3 =>
k3 (.exit 0) [(33, t33), (32, t32), (31, t31), (30, t30), (29, t29), (28, v6), (27, v1), (26, v9), (0, v0), (1, v1), (6, v6), (7, v7), (8, v8), (9, v9)] h15) (seqK (fun tT h16 =>
ms (fun k4 =>
enterK C F.slices_xorshift_Next [(get tT 7)] h16 fun t36 h17 =>
bareK (xbin P .sub T.uint (.tmp 37) (.const (.int .u64 1)) (get tT 8) (.int .u64 1)) h17 fun t38 h18 =>
bareK (xbin P .and T.uint (.tmp 36) (.tmp 38) t36 t38) h18 fun t39 h19 =>
bothK (xconv P T.uint T.int t39 h19) fun t40 h20 =>
bareK (xbin P .geq T.int (.tmp 41) (.tmp 42) t40 (get tT 6)) h20 fun t43 h21 =>
mc t43 (fun k5 => bareK (xbin P .sub T.int (.tmp 44) (.tmp 45) t40 (get tT 6)) h21 fun t46 h22 =>
k5 .normal [(0, (get tT 0)), (1, (get tT 1)), (6, (get tT 6)), (7, (get tT 7)), (8, (get tT 8)), (9, (get tT 9)), (10, t46)] h22) (fun k5 =>
k5 .normal [(0, (get tT 0)), (1, (get tT 1)), (6, (get tT 6)), (7, (get tT 7)), (8, (get tT 8)), (9, (get tT 9)), (10, t40)] h21) (seqK (fun tT_1 h23 =>
bareK (xbin P .add T.int (.tmp 50) (.tmp 51) (get tT_1 1) (get tT_1 10)) h23 fun t52 h24 =>
bareK (xbin P .add T.int (.tmp 54) (.tmp 55) (get tT_1 1) (get tT_1 10)) h24 fun t56 h25 =>
bareK (ixS 1 (get tT_1 0) t56) h25 fun t57 h26 =>
bareK (ld1 h26 t57) h26 fun t58 h27 =>
bareK (ixS 1 (get tT_1 0) (get tT_1 9)) h27 fun t61 h28 =>
bareK (ld1 h28 t61) h28 fun t62 h29 =>
bareK (ixS 1 (get tT_1 0) (get tT_1 9)) h29 fun t63 h30 =>
quietK (st1 h30 t63 t58) fun _ h31 =>
bareK (ixS 1 (get tT_1 0) t52) h31 fun t64 h32 =>
quietK (st1 h32 t64 t62) fun _ h33 =>
checkK (okV (some true) none h30 h31 h23 h23 && (okV (some true) none h30 h31 h23 h23 && (okV (some true) none h30 h31 h23 h23 && (okV (some true) none h30 h31 h23 h24 && true)))) <|
k4 .normal [(0, (get tT_1 0)), (1, (get tT_1 1)), (6, (get tT_1 6)), (7, (get tT_1 7)), (8, (get tT_1 8)), (9, (get tT_1 9))] h33) (blkK [0, 1, 6, 7, 8, 9] 1 k4))) (seqK (fun tT_2 h34 =>
bareK (xbin P .add T.int (.tmp 34) (.const (.int .i64 1)) (get tT_2 9) (.int .i64 1)) h34 fun t35 h35 =>
k .normal [(0, (get tT_2 0)), (1, (get tT_2 1)), (6, (get tT_2 6)), (7, (get tT_2 7)), (8, (get tT_2 8)), (9, t35)] h35) (afterK [0, 1, 6, 7, 8, 9] k))) (afterK [0, 1, 6, 7, 8, 9] k))

theorem s_slices_breakPatternsOrdered_string_eq (M : CombL) (C : CallF) (LP : LoopH) (a0 : Value) (a1 : Value) (a2 : Value) (H : AHeap) : dBodyL M Try.prog hints C LP F.slices_breakPatternsOrdered_string [a0, a1, a2] H = s_slices_breakPatternsOrdered_string M.b.g M.c M.s Try.prog C (fun v0 v1 v6 v7 v8 v9 H k => loopL M Try.prog hints C LP F.slices_breakPatternsOrdered_string 0 [(0, v0), (1, v1), (6, v6), (7, v7), (8, v8), (9, v9)] H k) a0 a1 a2 H (endK Try.prog []) := by kernel_rfl

theorem s_slices_breakPatternsOrdered_string_b0_eq (M : CombL) (C : CallF) (LP : LoopH) (v0 : Value) (v1 : Value) (v6 : Value) (v7 : Value) (v8 : Value) (v9 : Value) (H : AHeap) (k : K) : bodyL M Try.prog hints C LP F.slices_breakPatternsOrdered_string 0 [(0, v0), (1, v1), (6, v6), (7, v7), (8, v8), (9, v9)] H (afterK [0, 1, 6, 7, 8, 9] k) = s_slices_breakPatternsOrdered_string_b0 M.b.g M.c M.s Try.prog C (fun v0 v1 v6 v7 v8 v9 H k => loopL M Try.prog hints C LP F.slices_breakPatternsOrdered_string 0 [(0, v0), (1, v1), (6, v6), (7, v7), (8, v8), (9, v9)] H k) v0 v1 v6 v7 v8 v9 H k := by kernel_rfl

/-! slices.choosePivotOrdered[string] -/

noncomputable def s_slices_choosePivotOrdered_string (mg : GT) (mc : CT) (ms : ST) (P : Program) (C : CallF) (a0 : Value) (a1 : Value) (a2 : Value) (H : AHeap) (K0 : K) : Res :=
bareK (xbin P .sub T.int (.tmp 13) (.tmp 14) a2 a1) H fun t15 h1 =>
bothK (newv T.int (.int .i64 0) h1) fun t9 h2 =>
bareK (xbin P .quo T.int (.tmp 17) (.const (.int .i64 4)) t15 (.int .i64 4)) h2 fun t18 h3 =>
bareK (xbin P .mul T.int (.tmp 18) (.const (.int .i64 1)) t18 (.int .i64 1)) h3 fun t19 h4 =>
bareK (xbin P .add T.int (.tmp 16) (.tmp 19) a1 t19) h4 fun t20 h5 =>
bareK (xbin P .quo T.int (.tmp 22) (.const (.int .i64 4)) t15 (.int .i64 4)) h5 fun t23 h6 =>
bareK (xbin P .mul T.int (.tmp 23) (.const (.int .i64 2)) t23 (.int .i64 2)) h6 fun t24 h7 =>
bareK (xbin P .add T.int (.tmp 21) (.tmp 24) a1 t24) h7 fun t25 h8 =>
bareK (xbin P .quo T.int (.tmp 27) (.const (.int .i64 4)) t15 (.int .i64 4)) h8 fun t28 h9 =>
bareK (xbin P .mul T.int (.tmp 28) (.const (.int .i64 3)) t28 (.int .i64 3)) h9 fun t29 h10 =>
bareK (xbin P .add T.int (.tmp 26) (.tmp 29) a1 t29) h10 fun t30 h11 =>
bareK (xbin P .geq T.int (.tmp 31) (.const (.int .i64 8)) t15 (.int .i64 8)) h11 fun t32 h12 =>
mc t32 (fun k1 => bareK (xbin P .geq T.int (.tmp 33) (.const (.int .i64 50)) t15 (.int .i64 50)) h12 fun t34 h13 =>
mc t34 (fun k2 => enterK C F.slices_medianAdjacentOrdered_string [a0, t20, t9] h13 fun t37 h14 =>
enterK C F.slices_medianAdjacentOrdered_string [a0, t25, t9] h14 fun t40 h15 =>
enterK C F.slices_medianAdjacentOrdered_string [a0, t30, t9] h15 fun t43 h16 =>
k2 .normal [(0, a0), (9, t9), (10, t37), (11, t40), (12, t43)] h16) (fun k2 =>
k2 .normal [(0, a0), (9, t9), (10, t20), (11, t25), (12, t30)] h13) (seqK (fun tT h17 =>
enterK C F.slices_medianOrdered_string [(get tT 0), (get tT 10), (get tT 11), (get tT 12), (get tT 9)] h17 fun t48 h18 =>
k1 .normal [(9, (get tT 9)), (11, t48)] h18) (afterK [9, 11] k1))) (fun k1 =>
k1 .normal [(9, t9), (11, t25)] h12) (seqK (fun tT_1 h19 =>
bareK (ld1 h19 (get tT_1 9)) h19 fun t49 h20 =>
ms (fun k3 =>
bareK (xbin P .eql T.int (.tmp 49) (.const (.int .i64 0)) t49 (.int .i64 0)) h20 fun t52 h21 =>
mc t52 (fun k4 => k4 .ret [(6, (get tT_1 11)), (7, (.int .i64 1))] h21) (fun k4 =>
bareK (xbin P .eql T.int (.tmp 49) (.const (.int .i64 12)) t49 (.int .i64 12)) h21 fun t55 h22 =>
mc t55 (fun k5 => k5 .ret [(6, (get tT_1 11)), (7, (.int .i64 2))] h22) (fun k5 =>
k5 .ret [(6, (get tT_1 11)), (7, (.int .i64 0))] h22) (afterK [6, 7] k4)) (blkK [6, 7] 0 k3)) K0) K0)

theorem s_slices_choosePivotOrdered_string_eq (M : CombL) (C : CallF) (LP : LoopH) (a0 : Value) (a1 : Value) (a2 : Value) (H : AHeap) : dBodyL M Try.prog hints C LP F.slices_choosePivotOrdered_string [a0, a1, a2] H = s_slices_choosePivotOrdered_string M.b.g M.c M.s Try.prog C a0 a1 a2 H (endK Try.prog [.tmp 6, .tmp 7]) := by kernel_rfl

/-! slices.reverseRangeOrdered[string] -/

noncomputable def s_slices_reverseRangeOrdered_string (mg : GT) (mc : CT) (ms : ST) (P : Program) (C : CallF) (L0 : Value → Value → Value → AHeap → K → Res) (a0 : Value) (a1 : Value) (a2 : Value) (H : AHeap) (K0 : K) : Res :=
bareK (xbin P .sub T.int (.tmp 9) (.const (.int .i64 1)) a2 (.int .i64 1)) H fun t10 h1 =>
ms (fun k1 =>
L0 a0 a1 t10 h1 (blkK [] 0 k1)) K0

noncomputable def s_slices_reverseRangeOrdered_string_b0 (mg : GT) (mc : CT) (ms : ST) (P : Program) (C : CallF) (L0 : Value → Value → Value → AHeap → K → Res) (v0 : Value) (v6 : Value) (v7 : Value) (H : AHeap) (k : K) : Res :=
bareK (xbin P .lss T.int (.tmp 11) (.tmp 12) v6 v7) H fun t13 h2 =>
mc t13 (fun k2 => k2 .normal [(0, v0), (6, v6), (7, v7)] h2) (fun k2 =>
k2 (.exit 0) [(13, t13), (12, v7), (11, v6), (0, v0), (6, v6), (7, v7)] h2) (seqK (fun tT h3 =>
ms (fun k3 =>
bareK (ixS 1 (get tT 0) (get tT 7)) h3 fun t20 h4 =>
bareK (ld1 h4 t20) h4 fun t21 h5 =>
bareK (ixS 1 (get tT 0) (get tT 6)) h5 fun t24 h6 =>
bareK (ld1 h6 t24) h6 fun t25 h7 =>
bareK (ixS 1 (get tT 0) (get tT 6)) h7 fun t26 h8 =>
quietK (st1 h8 t26 t21) fun _ h9 =>
bareK (ixS 1 (get tT 0) (get tT 7)) h9 fun t27 h10 =>
quietK (st1 h10 t27 t25) fun _ h11 =>
checkK (okV (some true) none h8 h9 h3 h3 && (okV (some true) none h8 h9 h3 h3 && true)) <|
bareK (xbin P .add T.int (.tmp 28) (.const (.int .i64 1)) (get tT 6) (.int .i64 1)) h11 fun t29 h12 =>
bareK (xbin P .sub T.int (.tmp 30) (.const (.int .i64 1)) (get tT 7) (.int .i64 1)) h12 fun t31 h13 =>
k3 .normal [(0, (get tT 0)), (6, t29), (7, t31)] h13) (afterK [0, 6, 7] k)) (afterK [0, 6, 7] k))

theorem s_slices_reverseRangeOrdered_string_eq (M : CombL) (C : CallF) (LP : LoopH) (a0 : Value) (a1 : Value) (a2 : Value) (H : AHeap) : dBodyL M Try.prog hints C LP F.slices_reverseRangeOrdered_string [a0, a1, a2] H = s_slices_reverseRangeOrdered_string M.b.g M.c M.s Try.prog C (fun v0 v6 v7 H k => loopL M Try.prog hints C LP F.slices_reverseRangeOrdered_string 0 [(0, v0), (6, v6), (7, v7)] H k) a0 a1 a2 H (endK Try.prog []) := by kernel_rfl

theorem s_slices_reverseRangeOrdered_string_b0_eq (M : CombL) (C : CallF) (LP : LoopH) (v0 : Value) (v6 : Value) (v7 : Value) (H : AHeap) (k : K) : bodyL M Try.prog hints C LP F.slices_reverseRangeOrdered_string 0 [(0, v0), (6, v6), (7, v7)] H (afterK [0, 6, 7] k) = s_slices_reverseRangeOrdered_string_b0 M.b.g M.c M.s Try.prog C (fun v0 v6 v7 H k => loopL M Try.prog hints C LP F.slices_reverseRangeOrdered_string 0 [(0, v0), (6, v6), (7, v7)] H k) v0 v6 v7 H k := by kernel_rfl

/-! slices.partialInsertionSortOrdered[string] -/

noncomputable def s_slices_partialInsertionSortOrdered_string (mg : GT) (mc : CT) (ms : ST) (P : Program) (C : CallF) (L0 : Value → Value → Value → Value → Value → AHeap → K → Res) (L1 : Value → Value → Value → Value → Value → AHeap → K → Res) (L2 : Value → Value → Value → Value → Value → Value → AHeap → K → Res) (L3 : Value → Value → Value → Value → Value → Value → AHeap → K → Res) (a0 : Value) (a1 : Value) (a2 : Value) (H : AHeap) (K0 : K) : Res :=
bareK (xbin P .add T.int (.tmp 11) (.const (.int .i64 1)) a1 (.int .i64 1)) H fun t12 h1 =>
ms (fun k1 =>
L0 a0 a1 a2 t12 (.int .i64 0) h1 (blkK [] 0 k1)) (seqK (fun tT h2 =>
K0 .ret [(6, (.bool false))] h2) K0)

noncomputable def s_slices_partialInsertionSortOrdered_string_b0 (mg : GT) (mc : CT) (ms : ST) (P : Program) (C : CallF) (L0 : Value → Value → Value → Value → Value → AHeap → K → Res) (L1 : Value → Value → Value → Value → Value → AHeap → K → Res) (L2 : Value → Value → Value → Value → Value → Value → AHeap → K → Res) (L3 : Value → Value → Value → Value → Value → Value → AHeap → K → Res) (v0 : Value) (v1 : Value) (v2 : Value) (v7 : Value) (v8 : Value) (H : AHeap) (k : K) : Res :=
bareK (xbin P .lss T.int (.tmp 13) (.const (.int .i64 5)) v8 (.int .i64 5)) H fun t14 h2 =>
mc t14 (fun k2 => k2 .normal [(0, v0), (1, v1), (2, v2), (7, v7), (8, v8)] h2) (fun k2 =>
k2 (.exit 0) [(14, t14), (13, v8), (0, v0), (1, v1), (2, v2), (7, v7), (8, v8)] h2) (seqK (fun tT h3 =>
ms (fun k3 =>
ms (fun k4 =>
L1 (get tT 0) (get tT 1) (get tT 2) (get tT 7) (get tT 8) h3 (blkK [0, 1, 2, 7, 8] 2 k4)) (seqK (fun tT_1 h4 =>
bareK (xbin P .eql T.int (.tmp 35) (.tmp 36) (get tT_1 7) (get tT_1 2)) h4 fun t37 h5 =>
mc t37 (fun k5 => k5 .ret [(6, (.bool true))] h5) (fun k5 =>
k5 .normal [(0, (get tT_1 0)), (1, (get tT_1 1)), (2, (get tT_1 2)), (7, (get tT_1 7)), (8, (get tT_1 8))] h5) (seqK (fun tT_2 h6 =>
bareK (xbin P .sub T.int (.tmp 38) (.tmp 39) (get tT_2 2) (get tT_2 1)) h6 fun t40 h7 =>
bareK (xbin P .lss T.int (.tmp 40) (.const (.int .i64 50)) t40 (.int .i64 50)) h7 fun t41 h8 =>
mc t41 (fun k6 => k6 .ret [(6, (.bool false))] h8) (fun k6 =>
k6 .normal [(0, (get tT_2 0)), (1, (get tT_2 1)), (2, (get tT_2 2)), (7, (get tT_2 7)), (8, (get tT_2 8))] h8) (seqK (fun tT_3 h9 =>
bareK (xbin P .sub T.int (.tmp 45) (.const (.int .i64 1)) (get tT_3 7) (.int .i64 1)) h9 fun t46 h10 =>
bareK (xbin P .sub T.int (.tmp 48) (.const (.int .i64 1)) (get tT_3 7) (.int .i64 1)) h10 fun t49 h11 =>
bareK (ixS 1 (get tT_3 0) t49) h11 fun t50 h12 =>
bareK (ld1 h12 t50) h12 fun t51 h13 =>
bareK (ixS 1 (get tT_3 0) (get tT_3 7)) h13 fun t54 h14 =>
bareK (ld1 h14 t54) h14 fun t55 h15 =>
bareK (ixS 1 (get tT_3 0) (get tT_3 7)) h15 fun t56 h16 =>
quietK (st1 h16 t56 t51) fun _ h17 =>
bareK (ixS 1 (get tT_3 0) t46) h17 fun t57 h18 =>
quietK (st1 h18 t57 t55) fun _ h19 =>
checkK (okV (some true) none h16 h17 h9 h9 && (okV (some true) none h16 h17 h9 h9 && (okV (some true) none h16 h17 h9 h10 && true))) <|
bareK (xbin P .sub T.int (.tmp 58) (.tmp 59) (get tT_3 7) (get tT_3 1)) h19 fun t60 h20 =>
bareK (xbin P .geq T.int (.tmp 60) (.const (.int .i64 2)) t60 (.int .i64 2)) h20 fun t61 h21 =>
mc t61 (fun k7 => bareK (xbin P .sub T.int (.tmp 62) (.const (.int .i64 1)) (get tT_3 7) (.int .i64 1)) h21 fun t63 h22 =>
ms (fun k8 =>
L2 (get tT_3 0) (get tT_3 1) (get tT_3 2) (get tT_3 7) (get tT_3 8) t63 h22 (blkK [0, 1, 2, 7, 8] 4 k8)) (afterK [0, 1, 2, 7, 8] k7)) (fun k7 =>
k7 .normal [(0, (get tT_3 0)), (1, (get tT_3 1)), (2, (get tT_3 2)), (7, (get tT_3 7)), (8, (get tT_3 8))] h21) (seqK (fun tT_4 h23 =>
bareK (xbin P .sub T.int (.tmp 95) (.tmp 96) (get tT_4 2) (get tT_4 7)) h23 fun t97 h24 =>
bareK (xbin P .geq T.int (.tmp 97) (.const (.int .i64 2)) t97 (.int .i64 2)) h24 fun t98 h25 =>
mc t98 (fun k9 => bareK (xbin P .add T.int (.tmp 99) (.const (.int .i64 1)) (get tT_4 7) (.int .i64 1)) h25 fun t100 h26 =>
ms (fun k10 =>
L3 (get tT_4 0) (get tT_4 1) (get tT_4 2) (get tT_4 7) (get tT_4 8) t100 h26 (blkK [0, 1, 2, 7, 8] 6 k10)) (afterK [0, 1, 2, 7, 8] k9)) (fun k9 =>
k9 .normal [(0, (get tT_4 0)), (1, (get tT_4 1)), (2, (get tT_4 2)), (7, (get tT_4 7)), (8, (get tT_4 8))] h25) (blkK [0, 1, 2, 7, 8] 1 k3)) (blkK [0, 1, 2, 7, 8] 1 k3))) (blkK [0, 1, 2, 7, 8] 1 k3))) (blkK [0, 1, 2, 7, 8] 1 k3))) (blkK [0, 1, 2, 7, 8] 1 k3))) (seqK (fun tT_5 h27 =>
bareK (xbin P .add T.int (.tmp 15) (.const (.int .i64 1)) (get tT_5 8) (.int .i64 1)) h27 fun t16 h28 =>
k .normal [(0, (get tT_5 0)), (1, (get tT_5 1)), (2, (get tT_5 2)), (7, (get tT_5 7)), (8, t16)] h28) (afterK [0, 1, 2, 7, 8] k))) (afterK [0, 1, 2, 7, 8] k))

noncomputable def s_slices_partialInsertionSortOrdered_string_b1 (mg : GT) (mc : CT) (ms : ST) (P : Program) (C : CallF) (L0 : Value → Value → Value → Value → Value → AHeap → K → Res) (L1 : Value → Value → Value → Value → Value → AHeap → K → Res) (L2 : Value → Value → Value → Value → Value → Value → AHeap → K → Res) (L3 : Value → Value → Value → Value → Value → Value → AHeap → K → Res) (v0 : Value) (v1 : Value) (v2 : Value) (v7 : Value) (v8 : Value) (H : AHeap) (k : K) : Res :=
bareK (xbin P .lss T.int (.tmp 17) (.tmp 18) v7 v2) H fun t19 h4 =>
mg t19 true (fun o5 => o5 v0 h4) h4 fun t21 h5 =>
mg t19 true (fun o6 => o6 v7 h5) h5 fun t22 h6 =>
mg t19 true (fun o7 => bareK (ixS 1 t21 t22) h6 o7) h6 fun t23 h7 =>
mg t19 true (fun o8 => bareK (ld1 h7 t23) h7 o8) h7 fun t24 h8 =>
mg t19 true (fun o9 => o9 v0 h8) h8 fun t25 h9 =>
mg t19 true (fun o10 => o10 v7 h9) h9 fun t26 h10 =>
mg t19 true (fun o11 => bareK (xbin P .sub T.int (.tmp 26) (.const (.int .i64 1)) t26 (.int .i64 1)) h10 o11) h10 fun t27 h11 =>
mg t19 true (fun o12 => bareK (ixS 1 t25 t27) h11 o12) h11 fun t28 h12 =>
mg t19 true (fun o13 => bareK (ld1 h12 t28) h12 o13) h12 fun t29 h13 =>
mg t19 true (fun o14 => enterK C F.cmp_Less_string [t24, t29] h13 o14) h13 fun t30 h14 =>
mg t19 true (fun o15 => bareK (xun P .not t30) h14 o15) h14 fun t31 h15 =>
pickK t19 t31 (.bool false) fun t32 =>
checkK true <|
mc t32 (fun k16 => k16 .normal [(0, v0), (1, v1), (2, v2), (7, v7), (8, v8)] h15) (fun k16 =>
k16 (.exit 2) [(32, t32), (31, t31), (30, t30), (29, t29), (28, t28), (27, t27), (26, t26), (25, t25), (24, t24), (23, t23), (22, t22), (21, t21), (20, t19), (19, t19), (18, v2), (17, v7), (0, v0), (1, v1), (2, v2), (7, v7), (8, v8)] h15) (seqK (fun tT h16 =>
ms (fun k17 =>
bareK (xbin P .add T.int (.tmp 33) (.const (.int .i64 1)) (get tT 7) (.int .i64 1)) h16 fun t34 h17 =>
k17 .normal [(0, (get tT 0)), (1, (get tT 1)), (2, (get tT 2)), (7, t34), (8, (get tT 8))] h17) (afterK [0, 1, 2, 7, 8] k)) (afterK [0, 1, 2, 7, 8] k))

noncomputable def s_slices_partialInsertionSortOrdered_string_b2 (mg : GT) (mc : CT) (ms : ST) (P : Program) (C : CallF) (L0 : Value → Value → Value → Value → Value → AHeap → K → Res) (L1 : Value → Value → Value → Value → Value → AHeap → K → Res) (L2 : Value → Value → Value → Value → Value → Value → AHeap → K → Res) (L3 : Value → Value → Value → Value → Value → Value → AHeap → K → Res) (v0 : Value) (v1 : Value) (v2 : Value) (v7 : Value) (v8 : Value) (v9 : Value) (H : AHeap) (k : K) : Res :=
bareK (xbin P .geq T.int (.tmp 64) (.const (.int .i64 1)) v9 (.int .i64 1)) H fun t65 h23 =>
mc t65 (fun k9 => k9 .normal [(0, v0), (1, v1), (2, v2), (7, v7), (8, v8), (9, v9)] h23) (fun k9 =>
k9 (.exit 4) [(65, t65), (64, v9), (0, v0), (1, v1), (2, v2), (7, v7), (8, v8), (9, v9)] h23) (seqK (fun tT h24 =>
ms (fun k10 =>
bareK (ixS 1 (get tT 0) (get tT 9)) h24 fun t70 h25 =>
bareK (ld1 h25 t70) h25 fun t71 h26 =>
bareK (xbin P .sub T.int (.tmp 73) (.const (.int .i64 1)) (get tT 9) (.int .i64 1)) h26 fun t74 h27 =>
bareK (ixS 1 (get tT 0) t74) h27 fun t75 h28 =>
bareK (ld1 h28 t75) h28 fun t76 h29 =>
enterK C F.cmp_Less_string [t71, t76] h29 fun t77 h30 =>
bareK (xun P .not t77) h30 fun t78 h31 =>
checkK true <|
mc t78 (fun k11 => k11 (.exit 4) ((78, t78) :: (77, t77) :: (76, t76) :: (75, t75) :: (74, t74) :: (73, (get tT 9)) :: (72, (get tT 0)) :: (71, t71) :: (70, t70) :: (69, (get tT 9)) :: (68, (get tT 0)) :: tT) h31) (fun k11 =>
k11 .normal [(0, (get tT 0)), (1, (get tT 1)), (2, (get tT 2)), (7, (get tT 7)), (8, (get tT 8)), (9, (get tT 9))] h31) (seqK (fun tT_1 h32 =>
bareK (xbin P .sub T.int (.tmp 82) (.const (.int .i64 1)) (get tT_1 9) (.int .i64 1)) h32 fun t83 h33 =>
bareK (xbin P .sub T.int (.tmp 85) (.const (.int .i64 1)) (get tT_1 9) (.int .i64 1)) h33 fun t86 h34 =>
bareK (ixS 1 (get tT_1 0) t86) h34 fun t87 h35 =>
bareK (ld1 h35 t87) h35 fun t88 h36 =>
bareK (ixS 1 (get tT_1 0) (get tT_1 9)) h36 fun t91 h37 =>
bareK (ld1 h37 t91) h37 fun t92 h38 =>
bareK (ixS 1 (get tT_1 0) (get tT_1 9)) h38 fun t93 h39 =>
quietK (st1 h39 t93 t88) fun _ h40 =>
bareK (ixS 1 (get tT_1 0) t83) h40 fun t94 h41 =>
quietK (st1 h41 t94 t92) fun _ h42 =>
checkK (okV (some true) none h39 h40 h32 h32 && (okV (some true) none h39 h40 h32 h32 && (okV (some true) none h39 h40 h32 h33 && true))) <|
k10 .normal [(0, (get tT_1 0)), (1, (get tT_1 1)), (2, (get tT_1 2)), (7, (get tT_1 7)), (8, (get tT_1 8)), (9, (get tT_1 9))] h42) (blkK [0, 1, 2, 7, 8, 9] 5 k10))) (seqK (fun tT_2 h43 =>
bareK (xbin P .sub T.int (.tmp 66) (.const (.int .i64 1)) (get tT_2 9) (.int .i64 1)) h43 fun t67 h44 =>
k .normal [(0, (get tT_2 0)), (1, (get tT_2 1)), (2, (get tT_2 2)), (7, (get tT_2 7)), (8, (get tT_2 8)), (9, t67)] h44) (afterK [0, 1, 2, 7, 8, 9] k))) (afterK [0, 1, 2, 7, 8, 9] k))

noncomputable def s_slices_partialInsertionSortOrdered_string_b3 (mg : GT) (mc : CT) (ms : ST) (P : Program) (C : CallF) (L0 : Value → Value → Value → Value → Value → AHeap → K → Res) (L1 : Value → Value → Value → Value → Value → AHeap → K → Res) (L2 : Value → Value → Value → Value → Value → Value → AHeap → K → Res) (L3 : Value → Value → Value → Value → Value → Value → AHeap → K → Res) (v0 : Value) (v1 : Value) (v2 : Value) (v7 : Value) (v8 : Value) (v10 : Value) (H : AHeap) (k : K) : Res :=
bareK (xbin P .lss T.int (.tmp 101) (.tmp 102) v10 v2) H fun t103 h27 =>
mc t103 (fun k11 => k11 .normal [(0, v0), (1, v1), (2, v2), (7, v7), (8, v8), (10, v10)] h27) (fun k11 =>
k11 (.exit 6) [(103, t103), (102, v2), (101, v10), (0, v0), (1, v1), (2, v2), (7, v7), (8, v8), (10, v10)] h27) (seqK (fun tT h28 =>
ms (fun k12 =>
bareK (ixS 1 (get tT 0) (get tT 10)) h28 fun t108 h29 =>
bareK (ld1 h29 t108) h29 fun t109 h30 =>
bareK (xbin P .sub T.int (.tmp 111) (.const (.int .i64 1)) (get tT 10) (.int .i64 1)) h30 fun t112 h31 =>
bareK (ixS 1 (get tT 0) t112) h31 fun t113 h32 =>
bareK (ld1 h32 t113) h32 fun t114 h33 =>
enterK C F.cmp_Less_string [t109, t114] h33 fun t115 h34 =>
bareK (xun P .not t115) h34 fun t116 h35 =>
checkK true <|
mc t116 (fun k13 => k13 (.exit 6) ((116, t116) :: (115, t115) :: (114, t114) :: (113, t113) :: (112, t112) :: (111, (get tT 10)) :: (110, (get tT 0)) :: (109, t109) :: (108, t108) :: (107, (get tT 10)) :: (106, (get tT 0)) :: tT) h35) (fun k13 =>
k13 .normal [(0, (get tT 0)), (1, (get tT 1)), (2, (get tT 2)), (7, (get tT 7)), (8, (get tT 8)), (10, (get tT 10))] h35) (seqK (fun tT_1 h36 =>
bareK (xbin P .sub T.int (.tmp 120) (.const (.int .i64 1)) (get tT_1 10) (.int .i64 1)) h36 fun t121 h37 =>
bareK (xbin P .sub T.int (.tmp 123) (.const (.int .i64 1)) (get tT_1 10) (.int .i64 1)) h37 fun t124 h38 =>
bareK (ixS 1 (get tT_1 0) t124) h38 fun t125 h39 =>
bareK (ld1 h39 t125) h39 fun t126 h40 =>
bareK (ixS 1 (get tT_1 0) (get tT_1 10)) h40 fun t129 h41 =>
bareK (ld1 h41 t129) h41 fun t130 h42 =>
bareK (ixS 1 (get tT_1 0) (get tT_1 10)) h42 fun t131 h43 =>
quietK (st1 h43 t131 t126) fun _ h44 =>
bareK (ixS 1 (get tT_1 0) t121) h44 fun t132 h45 =>
quietK (st1 h45 t132 t130) fun _ h46 =>
checkK (okV (some true) none h43 h44 h36 h36 && (okV (some true) none h43 h44 h36 h36 && (okV (some true) none h43 h44 h36 h37 && true))) <|
k12 .normal [(0, (get tT_1 0)), (1, (get tT_1 1)), (2, (get tT_1 2)), (7, (get tT_1 7)), (8, (get tT_1 8)), (10, (get tT_1 10))] h46) (blkK [0, 1, 2, 7, 8, 10] 7 k12))) (seqK (fun tT_2 h47 =>
bareK (xbin P .add T.int (.tmp 104) (.const (.int .i64 1)) (get tT_2 10) (.int .i64 1)) h47 fun t105 h48 =>
k .normal [(0, (get tT_2 0)), (1, (get tT_2 1)), (2, (get tT_2 2)), (7, (get tT_2 7)), (8, (get tT_2 8)), (10, t105)] h48) (afterK [0, 1, 2, 7, 8, 10] k))) (afterK [0, 1, 2, 7, 8, 10] k))

theorem s_slices_partialInsertionSortOrdered_string_eq (M : CombL) (C : CallF) (LP : LoopH) (a0 : Value) (a1 : Value) (a2 : Value) (H : AHeap) : dBodyL M Try.prog hints C LP F.slices_partialInsertionSortOrdered_string [a0, a1, a2] H = s_slices_partialInsertionSortOrdered_string M.b.g M.c M.s Try.prog C (fun v0 v1 v2 v7 v8 H k => loopL M Try.prog hints C LP F.slices_partialInsertionSortOrdered_string 0 [(0, v0), (1, v1), (2, v2), (7, v7), (8, v8)] H k) (fun v0 v1 v2 v7 v8 H k => loopL M Try.prog hints C LP F.slices_partialInsertionSortOrdered_string 1 [(0, v0), (1, v1), (2, v2), (7, v7), (8, v8)] H k) (fun v0 v1 v2 v7 v8 v9 H k => loopL M Try.prog hints C LP F.slices_partialInsertionSortOrdered_string 2 [(0, v0), (1, v1), (2, v2), (7, v7), (8, v8), (9, v9)] H k) (fun v0 v1 v2 v7 v8 v10 H k => loopL M Try.prog hints C LP F.slices_partialInsertionSortOrdered_string 3 [(0, v0), (1, v1), (2, v2), (7, v7), (8, v8), (10, v10)] H k) a0 a1 a2 H (endK Try.prog [.tmp 6]) := by kernel_rfl

theorem s_slices_partialInsertionSortOrdered_string_b0_eq (M : CombL) (C : CallF) (LP : LoopH) (v0 : Value) (v1 : Value) (v2 : Value) (v7 : Value) (v8 : Value) (H : AHeap) (k : K) : bodyL M Try.prog hints C LP F.slices_partialInsertionSortOrdered_string 0 [(0, v0), (1, v1), (2, v2), (7, v7), (8, v8)] H (afterK [0, 1, 2, 7, 8] k) = s_slices_partialInsertionSortOrdered_string_b0 M.b.g M.c M.s Try.prog C (fun v0 v1 v2 v7 v8 H k => loopL M Try.prog hints C LP F.slices_partialInsertionSortOrdered_string 0 [(0, v0), (1, v1), (2, v2), (7, v7), (8, v8)] H k) (fun v0 v1 v2 v7 v8 H k => loopL M Try.prog hints C LP F.slices_partialInsertionSortOrdered_string 1 [(0, v0), (1, v1), (2, v2), (7, v7), (8, v8)] H k) (fun v0 v1 v2 v7 v8 v9 H k => loopL M Try.prog hints C LP F.slices_partialInsertionSortOrdered_string 2 [(0, v0), (1, v1), (2, v2), (7, v7), (8, v8), (9, v9)] H k) (fun v0 v1 v2 v7 v8 v10 H k => loopL M Try.prog hints C LP F.slices_partialInsertionSortOrdered_string 3 [(0, v0), (1, v1), (2, v2), (7, v7), (8, v8), (10, v10)] H k) v0 v1 v2 v7 v8 H k := by kernel_rfl

theorem s_slices_partialInsertionSortOrdered_string_b1_eq (M : CombL) (C : CallF) (LP : LoopH) (v0 : Value) (v1 : Value) (v2 : Value) (v7 : Value) (v8 : Value) (H : AHeap) (k : K) : bodyL M Try.prog hints C LP F.slices_partialInsertionSortOrdered_string 1 [(0, v0), (1, v1), (2, v2), (7, v7), (8, v8)] H (afterK [0, 1, 2, 7, 8] k) = s_slices_partialInsertionSortOrdered_string_b1 M.b.g M.c M.s Try.prog C (fun v0 v1 v2 v7 v8 H k => loopL M Try.prog hints C LP F.slices_partialInsertionSortOrdered_string 0 [(0, v0), (1, v1), (2, v2), (7, v7), (8, v8)] H k) (fun v0 v1 v2 v7 v8 H k => loopL M Try.prog hints C LP F.slices_partialInsertionSortOrdered_string 1 [(0, v0), (1, v1), (2, v2), (7, v7), (8, v8)] H k) (fun v0 v1 v2 v7 v8 v9 H k => loopL M Try.prog hints C LP F.slices_partialInsertionSortOrdered_string 2 [(0, v0), (1, v1), (2, v2), (7, v7), (8, v8), (9, v9)] H k) (fun v0 v1 v2 v7 v8 v10 H k => loopL M Try.prog hints C LP F.slices_partialInsertionSortOrdered_string 3 [(0, v0), (1, v1), (2, v2), (7, v7), (8, v8), (10, v10)] H k) v0 v1 v2 v7 v8 H k := by kernel_rfl

theorem s_slices_partialInsertionSortOrdered_string_b2_eq (M : CombL) (C : CallF) (LP : LoopH) (v0 : Value) (v1 : Value) (v2 : Value) (v7 : Value) (v8 : Value) (v9 : Value) (H : AHeap) (k : K) : bodyL M Try.prog hints C LP F.slices_partialInsertionSortOrdered_string 2 [(0, v0), (1, v1), (2, v2), (7, v7), (8, v8), (9, v9)] H (afterK [0, 1, 2, 7, 8, 9] k) = s_slices_partialInsertionSortOrdered_string_b2 M.b.g M.c M.s Try.prog C (fun v0 v1 v2 v7 v8 H k => loopL M Try.prog hints C LP F.slices_partialInsertionSortOrdered_string 0 [(0, v0), (1, v1), (2, v2), (7, v7), (8, v8)] H k) (fun v0 v1 v2 v7 v8 H k => loopL M Try.prog hints C LP F.slices_partialInsertionSortOrdered_string 1 [(0, v0), (1, v1), (2, v2), (7, v7), (8, v8)] H k) (fun v0 v1 v2 v7 v8 v9 H k => loopL M Try.prog hints C LP F.slices_partialInsertionSortOrdered_string 2 [(0, v0), (1, v1), (2, v2), (7, v7), (8, v8), (9, v9)] H k) (fun v0 v1 v2 v7 v8 v10 H k => loopL M Try.prog hints C LP F.slices_partialInsertionSortOrdered_string 3 [(0, v0), (1, v1), (2, v2), (7, v7), (8, v8), (10, v10)] H k) v0 v1 v2 v7 v8 v9 H k := by kernel_rfl

theorem s_slices_partialInsertionSortOrdered_string_b3_eq (M : CombL) (C : CallF) (LP : LoopH) (v0 : Value) (v1 : Value) (v2 : Value) (v7 : Value) (v8 : Value) (v10 : Value) (H : AHeap) (k : K) : bodyL M Try.prog hints C LP F.slices_partialInsertionSortOrdered_string 3 [(0, v0), (1, v1), (2, v2), (7, v7), (8, v8), (10, v10)] H (afterK [0, 1, 2, 7, 8, 10] k) = s_slices_partialInsertionSortOrdered_string_b3 M.b.g M.c M.s Try.prog C (fun v0 v1 v2 v7 v8 H k => loopL M Try.prog hints C LP F.slices_partialInsertionSortOrdered_string 0 [(0, v0), (1, v1), (2, v2), (7, v7), (8, v8)] H k) (fun v0 v1 v2 v7 v8 H k => loopL M Try.prog hints C LP F.slices_partialInsertionSortOrdered_string 1 [(0, v0), (1, v1), (2, v2), (7, v7), (8, v8)] H k) (fun v0 v1 v2 v7 v8 v9 H k => loopL M Try.prog hints C LP F.slices_partialInsertionSortOrdered_string 2 [(0, v0), (1, v1), (2, v2), (7, v7), (8, v8), (9, v9)] H k) (fun v0 v1 v2 v7 v8 v10 H k => loopL M Try.prog hints C LP F.slices_partialInsertionSortOrdered_string 3 [(0, v0), (1, v1), (2, v2), (7, v7), (8, v8), (10, v10)] H k) v0 v1 v2 v7 v8 v10 H k := by kernel_rfl

/-! cmp.Less[string] -/

noncomputable def s_cmp_Less_string (mg : GT) (mc : CT) (ms : ST) (P : Program) (C : CallF) (a0 : Value) (a1 : Value) (H : AHeap) (K0 : K) : Res :=
enterK C F.cmp_isNaN_string [a0] H fun t6 h1 =>
mg t6 true (fun o1 => o1 a1 h1) h1 fun t8 h2 =>
mg t6 true (fun o2 => enterK C F.cmp_isNaN_string [t8] h2 o2) h2 fun t9 h3 =>
mg t6 true (fun o3 => bareK (xun P .not t9) h3 o3) h3 fun t10 h4 =>
pickK t6 t10 (.bool false) fun t11 =>
mg t11 false (fun o4 => o4 a0 h4) h4 fun t13 h5 =>
mg t11 false (fun o5 => o5 a1 h5) h5 fun t14 h6 =>
mg t11 false (fun o6 => bareK (xbin P .lss T.string (.tmp 13) (.tmp 14) t13 t14) h6 o6) h6 fun t15 h7 =>
pickK t11 (.bool true) t15 fun t16 =>
K0 .ret [(4, t16)] h7

theorem s_cmp_Less_string_eq (M : CombL) (C : CallF) (LP : LoopH) (a0 : Value) (a1 : Value) (H : AHeap) : dBodyL M Try.prog hints C LP F.cmp_Less_string [a0, a1] H = s_cmp_Less_string M.b.g M.c M.s Try.prog C a0 a1 H (endK Try.prog [.tmp 4]) := by kernel_rfl

/-! slices.partitionEqualOrdered[string] -/

noncomputable def s_slices_partitionEqualOrdered_string (mg : GT) (mc : CT) (ms : ST) (P : Program) (C : CallF) (L0 : Value → Value → Value → Value → AHeap → K → Res) (L1 : Value → Value → Value → Value → AHeap → K → Res) (L2 : Value → Value → Value → Value → AHeap → K → Res) (a0 : Value) (a1 : Value) (a2 : Value) (a3 : Value) (H : AHeap) (K0 : K) : Res :=
bareK (ixS 1 a0 a3) H fun t17 h1 =>
bareK (ld1 h1 t17) h1 fun t18 h2 =>
bareK (ixS 1 a0 a1) h2 fun t21 h3 =>
bareK (ld1 h3 t21) h3 fun t22 h4 =>
bareK (ixS 1 a0 a1) h4 fun t23 h5 =>
quietK (st1 h5 t23 t18) fun _ h6 =>
bareK (ixS 1 a0 a3) h6 fun t24 h7 =>
quietK (st1 h7 t24 t22) fun _ h8 =>
checkK (okV (some true) none h5 h6 H H && (okV (some true) none h5 h6 H H && true)) <|
bareK (xbin P .add T.int (.tmp 25) (.const (.int .i64 1)) a1 (.int .i64 1)) h8 fun t26 h9 =>
bareK (xbin P .sub T.int (.tmp 27) (.const (.int .i64 1)) a2 (.int .i64 1)) h9 fun t28 h10 =>
ms (fun k1 =>
L0 a0 a1 t26 t28 h10 (blkK [9] 0 k1)) (seqK (fun tT h11 =>
K0 .ret [(8, (get tT 9))] h11) K0)

noncomputable def s_slices_partitionEqualOrdered_string_b0 (mg : GT) (mc : CT) (ms : ST) (P : Program) (C : CallF) (L0 : Value → Value → Value → Value → AHeap → K → Res) (L1 : Value → Value → Value → Value → AHeap → K → Res) (L2 : Value → Value → Value → Value → AHeap → K → Res) (v0 : Value) (v1 : Value) (v9 : Value) (v10 : Value) (H : AHeap) (k : K) : Res :=
ms (fun k2 =>
ms (fun k3 =>
L1 v0 v1 v9 v10 H (blkK [0, 1, 9, 10] 2 k3)) (seqK (fun tT h11 =>
ms (fun k4 =>
L2 (get tT 0) (get tT 1) (get tT 9) (get tT 10) h11 (blkK [0, 1, 9, 10] 4 k4)) (seqK (fun tT_1 h12 =>
bareK (xbin P .gtr T.int (.tmp 62) (.tmp 63) (get tT_1 9) (get tT_1 10)) h12 fun t64 h13 =>
mc t64 (fun k5 => k5 (.exit 0) ((64, t64) :: (63, (get tT_1 10)) :: (62, (get tT_1 9)) :: tT_1) h13) (fun k5 =>
k5 .normal [(0, (get tT_1 0)), (1, (get tT_1 1)), (9, (get tT_1 9)), (10, (get tT_1 10))] h13) (seqK (fun tT_2 h14 =>
bareK (ixS 1 (get tT_2 0) (get tT_2 10)) h14 fun t71 h15 =>
bareK (ld1 h15 t71) h15 fun t72 h16 =>
bareK (ixS 1 (get tT_2 0) (get tT_2 9)) h16 fun t75 h17 =>
bareK (ld1 h17 t75) h17 fun t76 h18 =>
bareK (ixS 1 (get tT_2 0) (get tT_2 9)) h18 fun t77 h19 =>
quietK (st1 h19 t77 t72) fun _ h20 =>
bareK (ixS 1 (get tT_2 0) (get tT_2 10)) h20 fun t78 h21 =>
quietK (st1 h21 t78 t76) fun _ h22 =>
checkK (okV (some true) none h19 h20 h14 h14 && (okV (some true) none h19 h20 h14 h14 && true)) <|
bareK (xbin P .add T.int (.tmp 79) (.const (.int .i64 1)) (get tT_2 9) (.int .i64 1)) h22 fun t80 h23 =>
bareK (xbin P .sub T.int (.tmp 81) (.const (.int .i64 1)) (get tT_2 10) (.int .i64 1)) h23 fun t82 h24 =>
k2 .normal [(0, (get tT_2 0)), (1, (get tT_2 1)), (9, t80), (10, t82)] h24) (blkK [0, 1, 9, 10] 1 k2))) (blkK [0, 1, 9, 10] 1 k2))) (blkK [0, 1, 9, 10] 1 k2))) (afterK [0, 1, 9, 10] k)

noncomputable def s_slices_partitionEqualOrdered_string_b1 (mg : GT) (mc : CT) (ms : ST) (P : Program) (C : CallF) (L0 : Value → Value → Value → Value → AHeap → K → Res) (L1 : Value → Value → Value → Value → AHeap → K → Res) (L2 : Value → Value → Value → Value → AHeap → K → Res) (v0 : Value) (v1 : Value) (v9 : Value) (v10 : Value) (H : AHeap) (k : K) : Res :=
bareK (xbin P .leq T.int (.tmp 29) (.tmp 30) v9 v10) H fun t31 h11 =>
mg t31 true (fun o4 => o4 v0 h11) h11 fun t33 h12 =>
mg t31 true (fun o5 => o5 v1 h12) h12 fun t34 h13 =>
mg t31 true (fun o6 => bareK (ixS 1 t33 t34) h13 o6) h13 fun t35 h14 =>
mg t31 true (fun o7 => bareK (ld1 h14 t35) h14 o7) h14 fun t36 h15 =>
mg t31 true (fun o8 => o8 v0 h15) h15 fun t37 h16 =>
mg t31 true (fun o9 => o9 v9 h16) h16 fun t38 h17 =>
mg t31 true (fun o10 => bareK (ixS 1 t37 t38) h17 o10) h17 fun t39 h18 =>
mg t31 true (fun o11 => bareK (ld1 h18 t39) h18 o11) h18 fun t40 h19 =>
mg t31 true (fun o12 => enterK C F.cmp_Less_string [t36, t40] h19 o12) h19 fun t41 h20 =>
mg t31 true (fun o13 => bareK (xun P .not t41) h20 o13) h20 fun t42 h21 =>
pickK t31 t42 (.bool false) fun t43 =>
checkK true <|
mc t43 (fun k14 => k14 .normal [(0, v0), (1, v1), (9, v9), (10, v10)] h21) (fun k14 =>
k14 (.exit 2) [(43, t43), (42, t42), (41, t41), (40, t40), (39, t39), (38, t38), (37, t37), (36, t36), (35, t35), (34, t34), (33, t33), (32, t31), (31, t31), (30, v10), (29, v9), (0, v0), (1, v1), (9, v9), (10, v10)] h21) (seqK (fun tT h22 =>
ms (fun k15 =>
bareK (xbin P .add T.int (.tmp 44) (.const (.int .i64 1)) (get tT 9) (.int .i64 1)) h22 fun t45 h23 =>
k15 .normal [(0, (get tT 0)), (1, (get tT 1)), (9, t45), (10, (get tT 10))] h23) (afterK [0, 1, 9, 10] k)) (afterK [0, 1, 9, 10] k))

noncomputable def s_slices_partitionEqualOrdered_string_b2 (mg : GT) (mc : CT) (ms : ST) (P : Program) (C : CallF) (L0 : Value → Value → Value → Value → AHeap → K → Res) (L1 : Value → Value → Value → Value → AHeap → K → Res) (L2 : Value → Value → Value → Value → AHeap → K → Res) (v0 : Value) (v1 : Value) (v9 : Value) (v10 : Value) (H : AHeap) (k : K) : Res :=
bareK (xbin P .leq T.int (.tmp 46) (.tmp 47) v9 v10) H fun t48 h12 =>
mg t48 true (fun o5 => o5 v0 h12) h12 fun t50 h13 =>
mg t48 true (fun o6 => o6 v1 h13) h13 fun t51 h14 =>
mg t48 true (fun o7 => bareK (ixS 1 t50 t51) h14 o7) h14 fun t52 h15 =>
mg t48 true (fun o8 => bareK (ld1 h15 t52) h15 o8) h15 fun t53 h16 =>
mg t48 true (fun o9 => o9 v0 h16) h16 fun t54 h17 =>
mg t48 true (fun o10 => o10 v10 h17) h17 fun t55 h18 =>
mg t48 true (fun o11 => bareK (ixS 1 t54 t55) h18 o11) h18 fun t56 h19 =>
mg t48 true (fun o12 => bareK (ld1 h19 t56) h19 o12) h19 fun t57 h20 =>
mg t48 true (fun o13 => enterK C F.cmp_Less_string [t53, t57] h20 o13) h20 fun t58 h21 =>
pickK t48 t58 (.bool false) fun t59 =>
checkK true <|
mc t59 (fun k14 => k14 .normal [(0, v0), (1, v1), (9, v9), (10, v10)] h21) (fun k14 =>
k14 (.exit 4) [(59, t59), (58, t58), (57, t57), (56, t56), (55, t55), (54, t54), (53, t53), (52, t52), (51, t51), (50, t50), (49, t48), (48, t48), (47, v10), (46, v9), (0, v0), (1, v1), (9, v9), (10, v10)] h21) (seqK (fun tT h22 =>
ms (fun k15 =>
bareK (xbin P .sub T.int (.tmp 60) (.const (.int .i64 1)) (get tT 10) (.int .i64 1)) h22 fun t61 h23 =>
k15 .normal [(0, (get tT 0)), (1, (get tT 1)), (9, (get tT 9)), (10, t61)] h23) (afterK [0, 1, 9, 10] k)) (afterK [0, 1, 9, 10] k))

theorem s_slices_partitionEqualOrdered_string_eq (M : CombL) (C : CallF) (LP : LoopH) (a0 : Value) (a1 : Value) (a2 : Value) (a3 : Value) (H : AHeap) : dBodyL M Try.prog hints C LP F.slices_partitionEqualOrdered_string [a0, a1, a2, a3] H = s_slices_partitionEqualOrdered_string M.b.g M.c M.s Try.prog C (fun v0 v1 v9 v10 H k => loopL M Try.prog hints C LP F.slices_partitionEqualOrdered_string 0 [(0, v0), (1, v1), (9, v9), (10, v10)] H k) (fun v0 v1 v9 v10 H k => loopL M Try.prog hints C LP F.slices_partitionEqualOrdered_string 1 [(0, v0), (1, v1), (9, v9), (10, v10)] H k) (fun v0 v1 v9 v10 H k => loopL M Try.prog hints C LP F.slices_partitionEqualOrdered_string 2 [(0, v0), (1, v1), (9, v9), (10, v10)] H k) a0 a1 a2 a3 H (endK Try.prog [.tmp 8]) := by kernel_rfl

theorem s_slices_partitionEqualOrdered_string_b0_eq (M : CombL) (C : CallF) (LP : LoopH) (v0 : Value) (v1 : Value) (v9 : Value) (v10 : Value) (H : AHeap) (k : K) : bodyL M Try.prog hints C LP F.slices_partitionEqualOrdered_string 0 [(0, v0), (1, v1), (9, v9), (10, v10)] H (afterK [0, 1, 9, 10] k) = s_slices_partitionEqualOrdered_string_b0 M.b.g M.c M.s Try.prog C (fun v0 v1 v9 v10 H k => loopL M Try.prog hints C LP F.slices_partitionEqualOrdered_string 0 [(0, v0), (1, v1), (9, v9), (10, v10)] H k) (fun v0 v1 v9 v10 H k => loopL M Try.prog hints C LP F.slices_partitionEqualOrdered_string 1 [(0, v0), (1, v1), (9, v9), (10, v10)] H k) (fun v0 v1 v9 v10 H k => loopL M Try.prog hints C LP F.slices_partitionEqualOrdered_string 2 [(0, v0), (1, v1), (9, v9), (10, v10)] H k) v0 v1 v9 v10 H k := by kernel_rfl

theorem s_slices_partitionEqualOrdered_string_b1_eq (M : CombL) (C : CallF) (LP : LoopH) (v0 : Value) (v1 : Value) (v9 : Value) (v10 : Value) (H : AHeap) (k : K) : bodyL M Try.prog hints C LP F.slices_partitionEqualOrdered_string 1 [(0, v0), (1, v1), (9, v9), (10, v10)] H (afterK [0, 1, 9, 10] k) = s_slices_partitionEqualOrdered_string_b1 M.b.g M.c M.s Try.prog C (fun v0 v1 v9 v10 H k => loopL M Try.prog hints C LP F.slices_partitionEqualOrdered_string 0 [(0, v0), (1, v1), (9, v9), (10, v10)] H k) (fun v0 v1 v9 v10 H k => loopL M Try.prog hints C LP F.slices_partitionEqualOrdered_string 1 [(0, v0), (1, v1), (9, v9), (10, v10)] H k) (fun v0 v1 v9 v10 H k => loopL M Try.prog hints C LP F.slices_partitionEqualOrdered_string 2 [(0, v0), (1, v1), (9, v9), (10, v10)] H k) v0 v1 v9 v10 H k := by kernel_rfl

theorem s_slices_partitionEqualOrdered_string_b2_eq (M : CombL) (C : CallF) (LP : LoopH) (v0 : Value) (v1 : Value) (v9 : Value) (v10 : Value) (H : AHeap) (k : K) : bodyL M Try.prog hints C LP F.slices_partitionEqualOrdered_string 2 [(0, v0), (1, v1), (9, v9), (10, v10)] H (afterK [0, 1, 9, 10] k) = s_slices_partitionEqualOrdered_string_b2 M.b.g M.c M.s Try.prog C (fun v0 v1 v9 v10 H k => loopL M Try.prog hints C LP F.slices_partitionEqualOrdered_string 0 [(0, v0), (1, v1), (9, v9), (10, v10)] H k) (fun v0 v1 v9 v10 H k => loopL M Try.prog hints C LP F.slices_partitionEqualOrdered_string 1 [(0, v0), (1, v1), (9, v9), (10, v10)] H k) (fun v0 v1 v9 v10 H k => loopL M Try.prog hints C LP F.slices_partitionEqualOrdered_string 2 [(0, v0), (1, v1), (9, v9), (10, v10)] H k) v0 v1 v9 v10 H k := by kernel_rfl

/-! slices.partitionOrdered[string] -/

noncomputable def s_slices_partitionOrdered_string (mg : GT) (mc : CT) (ms : ST) (P : Program) (C : CallF) (L0 : Value → Value → Value → Value → AHeap → K → Res) (L1 : Value → Value → Value → Value → AHeap → K → Res) (L2 : Value → Value → Value → Value → AHeap → K → Res) (L3 : Value → Value → Value → Value → AHeap → K → Res) (L4 : Value → Value → Value → Value → AHeap → K → Res) (a0 : Value) (a1 : Value) (a2 : Value) (a3 : Value) (H : AHeap) (K0 : K) : Res :=
bareK (ixS 1 a0 a3) H fun t18 h1 =>
bareK (ld1 h1 t18) h1 fun t19 h2 =>
bareK (ixS 1 a0 a1) h2 fun t22 h3 =>
bareK (ld1 h3 t22) h3 fun t23 h4 =>
bareK (ixS 1 a0 a1) h4 fun t24 h5 =>
quietK (st1 h5 t24 t19) fun _ h6 =>
bareK (ixS 1 a0 a3) h6 fun t25 h7 =>
quietK (st1 h7 t25 t23) fun _ h8 =>
checkK (okV (some true) none h5 h6 H H && (okV (some true) none h5 h6 H H && true)) <|
bareK (xbin P .add T.int (.tmp 26) (.const (.int .i64 1)) a1 (.int .i64 1)) h8 fun t27 h9 =>
bareK (xbin P .sub T.int (.tmp 28) (.const (.int .i64 1)) a2 (.int .i64 1)) h9 fun t29 h10 =>
ms (fun k1 =>
L0 a0 a1 t27 t29 h10 (blkK [0, 1, 10, 11] 0 k1)) (seqK (fun tT h11 =>
ms (fun k2 =>
L1 (get tT 0) (get tT 1) (get tT 10) (get tT 11) h11 (blkK [0, 1, 10, 11] 2 k2)) (seqK (fun tT_1 h12 =>
bareK (xbin P .gtr T.int (.tmp 63) (.tmp 64) (get tT_1 10) (get tT_1 11)) h12 fun t65 h13 =>
mc t65 (fun k3 => bareK (ixS 1 (get tT_1 0) (get tT_1 1)) h13 fun t72 h14 =>
bareK (ld1 h14 t72) h14 fun t73 h15 =>
bareK (ixS 1 (get tT_1 0) (get tT_1 11)) h15 fun t76 h16 =>
bareK (ld1 h16 t76) h16 fun t77 h17 =>
bareK (ixS 1 (get tT_1 0) (get tT_1 11)) h17 fun t78 h18 =>
quietK (st1 h18 t78 t73) fun _ h19 =>
bareK (ixS 1 (get tT_1 0) (get tT_1 1)) h19 fun t79 h20 =>
quietK (st1 h20 t79 t77) fun _ h21 =>
checkK (okV (some true) none h18 h19 h13 h13 && (okV (some true) none h18 h19 h13 h13 && true)) <|
k3 .ret [(8, (get tT_1 11)), (9, (.bool true))] h21) (fun k3 =>
k3 .normal [(0, (get tT_1 0)), (1, (get tT_1 1)), (10, (get tT_1 10)), (11, (get tT_1 11))] h13) (seqK (fun tT_2 h22 =>
bareK (ixS 1 (get tT_2 0) (get tT_2 11)) h22 fun t87 h23 =>
bareK (ld1 h23 t87) h23 fun t88 h24 =>
bareK (ixS 1 (get tT_2 0) (get tT_2 10)) h24 fun t91 h25 =>
bareK (ld1 h25 t91) h25 fun t92 h26 =>
bareK (ixS 1 (get tT_2 0) (get tT_2 10)) h26 fun t93 h27 =>
quietK (st1 h27 t93 t88) fun _ h28 =>
bareK (ixS 1 (get tT_2 0) (get tT_2 11)) h28 fun t94 h29 =>
quietK (st1 h29 t94 t92) fun _ h30 =>
checkK (okV (some true) none h27 h28 h22 h22 && (okV (some true) none h27 h28 h22 h22 && true)) <|
bareK (xbin P .add T.int (.tmp 95) (.const (.int .i64 1)) (get tT_2 10) (.int .i64 1)) h30 fun t96 h31 =>
bareK (xbin P .sub T.int (.tmp 97) (.const (.int .i64 1)) (get tT_2 11) (.int .i64 1)) h31 fun t98 h32 =>
ms (fun k4 =>
L2 (get tT_2 0) (get tT_2 1) t96 t98 h32 (blkK [0, 1, 11] 4 k4)) (seqK (fun tT_3 h33 =>
bareK (ixS 1 (get tT_3 0) (get tT_3 1)) h33 fun t159 h34 =>
bareK (ld1 h34 t159) h34 fun t160 h35 =>
bareK (ixS 1 (get tT_3 0) (get tT_3 11)) h35 fun t163 h36 =>
bareK (ld1 h36 t163) h36 fun t164 h37 =>
bareK (ixS 1 (get tT_3 0) (get tT_3 11)) h37 fun t165 h38 =>
quietK (st1 h38 t165 t160) fun _ h39 =>
bareK (ixS 1 (get tT_3 0) (get tT_3 1)) h39 fun t166 h40 =>
quietK (st1 h40 t166 t164) fun _ h41 =>
checkK (okV (some true) none h38 h39 h33 h33 && (okV (some true) none h38 h39 h33 h33 && true)) <|
K0 .ret [(8, (get tT_3 11)), (9, (.bool false))] h41) K0)) K0)) K0)) K0)

noncomputable def s_slices_partitionOrdered_string_b0 (mg : GT) (mc : CT) (ms : ST) (P : Program) (C : CallF) (L0 : Value → Value → Value → Value → AHeap → K → Res) (L1 : Value → Value → Value → Value → AHeap → K → Res) (L2 : Value → Value → Value → Value → AHeap → K → Res) (L3 : Value → Value → Value → Value → AHeap → K → Res) (L4 : Value → Value → Value → Value → AHeap → K → Res) (v0 : Value) (v1 : Value) (v10 : Value) (v11 : Value) (H : AHeap) (k : K) : Res :=
bareK (xbin P .leq T.int (.tmp 30) (.tmp 31) v10 v11) H fun t32 h11 =>
mg t32 true (fun o2 => o2 v0 h11) h11 fun t34 h12 =>
mg t32 true (fun o3 => o3 v10 h12) h12 fun t35 h13 =>
mg t32 true (fun o4 => bareK (ixS 1 t34 t35) h13 o4) h13 fun t36 h14 =>
mg t32 true (fun o5 => bareK (ld1 h14 t36) h14 o5) h14 fun t37 h15 =>
mg t32 true (fun o6 => o6 v0 h15) h15 fun t38 h16 =>
mg t32 true (fun o7 => o7 v1 h16) h16 fun t39 h17 =>
mg t32 true (fun o8 => bareK (ixS 1 t38 t39) h17 o8) h17 fun t40 h18 =>
mg t32 true (fun o9 => bareK (ld1 h18 t40) h18 o9) h18 fun t41 h19 =>
mg t32 true (fun o10 => enterK C F.cmp_Less_string [t37, t41] h19 o10) h19 fun t42 h20 =>
pickK t32 t42 (.bool false) fun t43 =>
checkK true <|
mc t43 (fun k11 => k11 .normal [(0, v0), (1, v1), (10, v10), (11, v11)] h20) (fun k11 =>
k11 (.exit 0) [(43, t43), (42, t42), (41, t41), (40, t40), (39, t39), (38, t38), (37, t37), (36, t36), (35, t35), (34, t34), (33, t32), (32, t32), (31, v11), (30, v10), (0, v0), (1, v1), (10, v10), (11, v11)] h20) (seqK (fun tT h21 =>
ms (fun k12 =>
bareK (xbin P .add T.int (.tmp 44) (.const (.int .i64 1)) (get tT 10) (.int .i64 1)) h21 fun t45 h22 =>
k12 .normal [(0, (get tT 0)), (1, (get tT 1)), (10, t45), (11, (get tT 11))] h22) (afterK [0, 1, 10, 11] k)) (afterK [0, 1, 10, 11] k))

noncomputable def s_slices_partitionOrdered_string_b1 (mg : GT) (mc : CT) (ms : ST) (P : Program) (C : CallF) (L0 : Value → Value → Value → Value → AHeap → K → Res) (L1 : Value → Value → Value → Value → AHeap → K → Res) (L2 : Value → Value → Value → Value → AHeap → K → Res) (L3 : Value → Value → Value → Value → AHeap → K → Res) (L4 : Value → Value → Value → Value → AHeap → K → Res) (v0 : Value) (v1 : Value) (v10 : Value) (v11 : Value) (H : AHeap) (k : K) : Res :=
bareK (xbin P .leq T.int (.tmp 46) (.tmp 47) v10 v11) H fun t48 h12 =>
mg t48 true (fun o3 => o3 v0 h12) h12 fun t50 h13 =>
mg t48 true (fun o4 => o4 v11 h13) h13 fun t51 h14 =>
mg t48 true (fun o5 => bareK (ixS 1 t50 t51) h14 o5) h14 fun t52 h15 =>
mg t48 true (fun o6 => bareK (ld1 h15 t52) h15 o6) h15 fun t53 h16 =>
mg t48 true (fun o7 => o7 v0 h16) h16 fun t54 h17 =>
mg t48 true (fun o8 => o8 v1 h17) h17 fun t55 h18 =>
mg t48 true (fun o9 => bareK (ixS 1 t54 t55) h18 o9) h18 fun t56 h19 =>
mg t48 true (fun o10 => bareK (ld1 h19 t56) h19 o10) h19 fun t57 h20 =>
mg t48 true (fun o11 => enterK C F.cmp_Less_string [t53, t57] h20 o11) h20 fun t58 h21 =>
mg t48 true (fun o12 => bareK (xun P .not t58) h21 o12) h21 fun t59 h22 =>
pickK t48 t59 (.bool false) fun t60 =>
checkK true <|
mc t60 (fun k13 => k13 .normal [(0, v0), (1, v1), (10, v10), (11, v11)] h22) (fun k13 =>
k13 (.exit 2) [(60, t60), (59, t59), (58, t58), (57, t57), (56, t56), (55, t55), (54, t54), (53, t53), (52, t52), (51, t51), (50, t50), (49, t48), (48, t48), (47, v11), (46, v10), (0, v0), (1, v1), (10, v10), (11, v11)] h22) (seqK (fun tT h23 =>
ms (fun k14 =>
bareK (xbin P .sub T.int (.tmp 61) (.const (.int .i64 1)) (get tT 11) (.int .i64 1)) h23 fun t62 h24 =>
k14 .normal [(0, (get tT 0)), (1, (get tT 1)), (10, (get tT 10)), (11, t62)] h24) (afterK [0, 1, 10, 11] k)) (afterK [0, 1, 10, 11] k))

noncomputable def s_slices_partitionOrdered_string_b2 (mg : GT) (mc : CT) (ms : ST) (P : Program) (C : CallF) (L0 : Value → Value → Value → Value → AHeap → K → Res) (L1 : Value → Value → Value → Value → AHeap → K → Res) (L2 : Value → Value → Value → Value → AHeap → K → Res) (L3 : Value → Value → Value → Value → AHeap → K → Res) (L4 : Value → Value → Value → Value → AHeap → K → Res) (v0 : Value) (v1 : Value) (v10 : Value) (v11 : Value) (H : AHeap) (k : K) : Res :=
ms (fun k5 =>
ms (fun k6 =>
L3 v0 v1 v10 v11 H (blkK [0, 1, 10, 11] 6 k6)) (seqK (fun tT h33 =>
ms (fun k7 =>
L4 (get tT 0) (get tT 1) (get tT 10) (get tT 11) h33 (blkK [0, 1, 10, 11] 8 k7)) (seqK (fun tT_1 h34 =>
bareK (xbin P .gtr T.int (.tmp 132) (.tmp 133) (get tT_1 10) (get tT_1 11)) h34 fun t134 h35 =>
mc t134 (fun k8 => k8 (.exit 4) ((134, t134) :: (133, (get tT_1 11)) :: (132, (get tT_1 10)) :: tT_1) h35) (fun k8 =>
k8 .normal [(0, (get tT_1 0)), (1, (get tT_1 1)), (10, (get tT_1 10)), (11, (get tT_1 11))] h35) (seqK (fun tT_2 h36 =>
bareK (ixS 1 (get tT_2 0) (get tT_2 11)) h36 fun t141 h37 =>
bareK (ld1 h37 t141) h37 fun t142 h38 =>
bareK (ixS 1 (get tT_2 0) (get tT_2 10)) h38 fun t145 h39 =>
bareK (ld1 h39 t145) h39 fun t146 h40 =>
bareK (ixS 1 (get tT_2 0) (get tT_2 10)) h40 fun t147 h41 =>
quietK (st1 h41 t147 t142) fun _ h42 =>
bareK (ixS 1 (get tT_2 0) (get tT_2 11)) h42 fun t148 h43 =>
quietK (st1 h43 t148 t146) fun _ h44 =>
checkK (okV (some true) none h41 h42 h36 h36 && (okV (some true) none h41 h42 h36 h36 && true)) <|
bareK (xbin P .add T.int (.tmp 149) (.const (.int .i64 1)) (get tT_2 10) (.int .i64 1)) h44 fun t150 h45 =>
bareK (xbin P .sub T.int (.tmp 151) (.const (.int .i64 1)) (get tT_2 11) (.int .i64 1)) h45 fun t152 h46 =>
k5 .normal [(0, (get tT_2 0)), (1, (get tT_2 1)), (10, t150), (11, t152)] h46) (blkK [0, 1, 10, 11] 5 k5))) (blkK [0, 1, 10, 11] 5 k5))) (blkK [0, 1, 10, 11] 5 k5))) (afterK [0, 1, 10, 11] k)

noncomputable def s_slices_partitionOrdered_string_b3 (mg : GT) (mc : CT) (ms : ST) (P : Program) (C : CallF) (L0 : Value → Value → Value → Value → AHeap → K → Res) (L1 : Value → Value → Value → Value → AHeap → K → Res) (L2 : Value → Value → Value → Value → AHeap → K → Res) (L3 : Value → Value → Value → Value → AHeap → K → Res) (L4 : Value → Value → Value → Value → AHeap → K → Res) (v0 : Value) (v1 : Value) (v10 : Value) (v11 : Value) (H : AHeap) (k : K) : Res :=
bareK (xbin P .leq T.int (.tmp 99) (.tmp 100) v10 v11) H fun t101 h33 =>
mg t101 true (fun o7 => o7 v0 h33) h33 fun t103 h34 =>
mg t101 true (fun o8 => o8 v10 h34) h34 fun t104 h35 =>
mg t101 true (fun o9 => bareK (ixS 1 t103 t104) h35 o9) h35 fun t105 h36 =>
mg t101 true (fun o10 => bareK (ld1 h36 t105) h36 o10) h36 fun t106 h37 =>
mg t101 true (fun o11 => o11 v0 h37) h37 fun t107 h38 =>
mg t101 true (fun o12 => o12 v1 h38) h38 fun t108 h39 =>
mg t101 true (fun o13 => bareK (ixS 1 t107 t108) h39 o13) h39 fun t109 h40 =>
mg t101 true (fun o14 => bareK (ld1 h40 t109) h40 o14) h40 fun t110 h41 =>
mg t101 true (fun o15 => enterK C F.cmp_Less_string [t106, t110] h41 o15) h41 fun t111 h42 =>
pickK t101 t111 (.bool false) fun t112 =>
checkK true <|
mc t112 (fun k16 => k16 .normal [(0, v0), (1, v1), (10, v10), (11, v11)] h42) (fun k16 =>
k16 (.exit 6) [(112, t112), (111, t111), (110, t110), (109, t109), (108, t108), (107, t107), (106, t106), (105, t105), (104, t104), (103, t103), (102, t101), (101, t101), (100, v11), (99, v10), (0, v0), (1, v1), (10, v10), (11, v11)] h42) (seqK (fun tT h43 =>
ms (fun k17 =>
bareK (xbin P .add T.int (.tmp 113) (.const (.int .i64 1)) (get tT 10) (.int .i64 1)) h43 fun t114 h44 =>
k17 .normal [(0, (get tT 0)), (1, (get tT 1)), (10, t114), (11, (get tT 11))] h44) (afterK [0, 1, 10, 11] k)) (afterK [0, 1, 10, 11] k))

noncomputable def s_slices_partitionOrdered_string_b4 (mg : GT) (mc : CT) (ms : ST) (P : Program) (C : CallF) (L0 : Value → Value → Value → Value → AHeap → K → Res) (L1 : Value → Value → Value → Value → AHeap → K → Res) (L2 : Value → Value → Value → Value → AHeap → K → Res) (L3 : Value → Value → Value → Value → AHeap → K → Res) (L4 : Value → Value → Value → Value → AHeap → K → Res) (v0 : Value) (v1 : Value) (v10 : Value) (v11 : Value) (H : AHeap) (k : K) : Res :=
bareK (xbin P .leq T.int (.tmp 115) (.tmp 116) v10 v11) H fun t117 h34 =>
mg t117 true (fun o8 => o8 v0 h34) h34 fun t119 h35 =>
mg t117 true (fun o9 => o9 v11 h35) h35 fun t120 h36 =>
mg t117 true (fun o10 => bareK (ixS 1 t119 t120) h36 o10) h36 fun t121 h37 =>
mg t117 true (fun o11 => bareK (ld1 h37 t121) h37 o11) h37 fun t122 h38 =>
mg t117 true (fun o12 => o12 v0 h38) h38 fun t123 h39 =>
mg t117 true (fun o13 => o13 v1 h39) h39 fun t124 h40 =>
mg t117 true (fun o14 => bareK (ixS 1 t123 t124) h40 o14) h40 fun t125 h41 =>
mg t117 true (fun o15 => bareK (ld1 h41 t125) h41 o15) h41 fun t126 h42 =>
mg t117 true (fun o16 => enterK C F.cmp_Less_string [t122, t126] h42 o16) h42 fun t127 h43 =>
mg t117 true (fun o17 => bareK (xun P .not t127) h43 o17) h43 fun t128 h44 =>
pickK t117 t128 (.bool false) fun t129 =>
checkK true <|
mc t129 (fun k18 => k18 .normal [(0, v0), (1, v1), (10, v10), (11, v11)] h44) (fun k18 =>
k18 (.exit 8) [(129, t129), (128, t128), (127, t127), (126, t126), (125, t125), (124, t124), (123, t123), (122, t122), (121, t121), (120, t120), (119, t119), (118, t117), (117, t117), (116, v11), (115, v10), (0, v0), (1, v1), (10, v10), (11, v11)] h44) (seqK (fun tT h45 =>
ms (fun k19 =>
bareK (xbin P .sub T.int (.tmp 130) (.const (.int .i64 1)) (get tT 11) (.int .i64 1)) h45 fun t131 h46 =>
k19 .normal [(0, (get tT 0)), (1, (get tT 1)), (10, (get tT 10)), (11, t131)] h46) (afterK [0, 1, 10, 11] k)) (afterK [0, 1, 10, 11] k))

theorem s_slices_partitionOrdered_string_eq (M : CombL) (C : CallF) (LP : LoopH) (a0 : Value) (a1 : Value) (a2 : Value) (a3 : Value) (H : AHeap) : dBodyL M Try.prog hints C LP F.slices_partitionOrdered_string [a0, a1, a2, a3] H = s_slices_partitionOrdered_string M.b.g M.c M.s Try.prog C (fun v0 v1 v10 v11 H k => loopL M Try.prog hints C LP F.slices_partitionOrdered_string 0 [(0, v0), (1, v1), (10, v10), (11, v11)] H k) (fun v0 v1 v10 v11 H k => loopL M Try.prog hints C LP F.slices_partitionOrdered_string 1 [(0, v0), (1, v1), (10, v10), (11, v11)] H k) (fun v0 v1 v10 v11 H k => loopL M Try.prog hints C LP F.slices_partitionOrdered_string 2 [(0, v0), (1, v1), (10, v10), (11, v11)] H k) (fun v0 v1 v10 v11 H k => loopL M Try.prog hints C LP F.slices_partitionOrdered_string 3 [(0, v0), (1, v1), (10, v10), (11, v11)] H k) (fun v0 v1 v10 v11 H k => loopL M Try.prog hints C LP F.slices_partitionOrdered_string 4 [(0, v0), (1, v1), (10, v10), (11, v11)] H k) a0 a1 a2 a3 H (endK Try.prog [.tmp 8, .tmp 9]) := by kernel_rfl

theorem s_slices_partitionOrdered_string_b0_eq (M : CombL) (C : CallF) (LP : LoopH) (v0 : Value) (v1 : Value) (v10 : Value) (v11 : Value) (H : AHeap) (k : K) : bodyL M Try.prog hints C LP F.slices_partitionOrdered_string 0 [(0, v0), (1, v1), (10, v10), (11, v11)] H (afterK [0, 1, 10, 11] k) = s_slices_partitionOrdered_string_b0 M.b.g M.c M.s Try.prog C (fun v0 v1 v10 v11 H k => loopL M Try.prog hints C LP F.slices_partitionOrdered_string 0 [(0, v0), (1, v1), (10, v10), (11, v11)] H k) (fun v0 v1 v10 v11 H k => loopL M Try.prog hints C LP F.slices_partitionOrdered_string 1 [(0, v0), (1, v1), (10, v10), (11, v11)] H k) (fun v0 v1 v10 v11 H k => loopL M Try.prog hints C LP F.slices_partitionOrdered_string 2 [(0, v0), (1, v1), (10, v10), (11, v11)] H k) (fun v0 v1 v10 v11 H k => loopL M Try.prog hints C LP F.slices_partitionOrdered_string 3 [(0, v0), (1, v1), (10, v10), (11, v11)] H k) (fun v0 v1 v10 v11 H k => loopL M Try.prog hints C LP F.slices_partitionOrdered_string 4 [(0, v0), (1, v1), (10, v10), (11, v11)] H k) v0 v1 v10 v11 H k := by kernel_rfl

theorem s_slices_partitionOrdered_string_b1_eq (M : CombL) (C : CallF) (LP : LoopH) (v0 : Value) (v1 : Value) (v10 : Value) (v11 : Value) (H : AHeap) (k : K) : bodyL M Try.prog hints C LP F.slices_partitionOrdered_string 1 [(0, v0), (1, v1), (10, v10), (11, v11)] H (afterK [0, 1, 10, 11] k) = s_slices_partitionOrdered_string_b1 M.b.g M.c M.s Try.prog C (fun v0 v1 v10 v11 H k => loopL M Try.prog hints C LP F.slices_partitionOrdered_string 0 [(0, v0), (1, v1), (10, v10), (11, v11)] H k) (fun v0 v1 v10 v11 H k => loopL M Try.prog hints C LP F.slices_partitionOrdered_string 1 [(0, v0), (1, v1), (10, v10), (11, v11)] H k) (fun v0 v1 v10 v11 H k => loopL M Try.prog hints C LP F.slices_partitionOrdered_string 2 [(0, v0), (1, v1), (10, v10), (11, v11)] H k) (fun v0 v1 v10 v11 H k => loopL M Try.prog hints C LP F.slices_partitionOrdered_string 3 [(0, v0), (1, v1), (10, v10), (11, v11)] H k) (fun v0 v1 v10 v11 H k => loopL M Try.prog hints C LP F.slices_partitionOrdered_string 4 [(0, v0), (1, v1), (10, v10), (11, v11)] H k) v0 v1 v10 v11 H k := by kernel_rfl

theorem s_slices_partitionOrdered_string_b2_eq (M : CombL) (C : CallF) (LP : LoopH) (v0 : Value) (v1 : Value) (v10 : Value) (v11 : Value) (H : AHeap) (k : K) : bodyL M Try.prog hints C LP F.slices_partitionOrdered_string 2 [(0, v0), (1, v1), (10, v10), (11, v11)] H (afterK [0, 1, 10, 11] k) = s_slices_partitionOrdered_string_b2 M.b.g M.c M.s Try.prog C (fun v0 v1 v10 v11 H k => loopL M Try.prog hints C LP F.slices_partitionOrdered_string 0 [(0, v0), (1, v1), (10, v10), (11, v11)] H k) (fun v0 v1 v10 v11 H k => loopL M Try.prog hints C LP F.slices_partitionOrdered_string 1 [(0, v0), (1, v1), (10, v10), (11, v11)] H k) (fun v0 v1 v10 v11 H k => loopL M Try.prog hints C LP F.slices_partitionOrdered_string 2 [(0, v0), (1, v1), (10, v10), (11, v11)] H k) (fun v0 v1 v10 v11 H k => loopL M Try.prog hints C LP F.slices_partitionOrdered_string 3 [(0, v0), (1, v1), (10, v10), (11, v11)] H k) (fun v0 v1 v10 v11 H k => loopL M Try.prog hints C LP F.slices_partitionOrdered_string 4 [(0, v0), (1, v1), (10, v10), (11, v11)] H k) v0 v1 v10 v11 H k := by kernel_rfl

theorem s_slices_partitionOrdered_string_b3_eq (M : CombL) (C : CallF) (LP : LoopH) (v0 : Value) (v1 : Value) (v10 : Value) (v11 : Value) (H : AHeap) (k : K) : bodyL M Try.prog hints C LP F.slices_partitionOrdered_string 3 [(0, v0), (1, v1), (10, v10), (11, v11)] H (afterK [0, 1, 10, 11] k) = s_slices_partitionOrdered_string_b3 M.b.g M.c M.s Try.prog C (fun v0 v1 v10 v11 H k => loopL M Try.prog hints C LP F.slices_partitionOrdered_string 0 [(0, v0), (1, v1), (10, v10), (11, v11)] H k) (fun v0 v1 v10 v11 H k => loopL M Try.prog hints C LP F.slices_partitionOrdered_string 1 [(0, v0), (1, v1), (10, v10), (11, v11)] H k) (fun v0 v1 v10 v11 H k => loopL M Try.prog hints C LP F.slices_partitionOrdered_string 2 [(0, v0), (1, v1), (10, v10), (11, v11)] H k) (fun v0 v1 v10 v11 H k => loopL M Try.prog hints C LP F.slices_partitionOrdered_string 3 [(0, v0), (1, v1), (10, v10), (11, v11)] H k) (fun v0 v1 v10 v11 H k => loopL M Try.prog hints C LP F.slices_partitionOrdered_string 4 [(0, v0), (1, v1), (10, v10), (11, v11)] H k) v0 v1 v10 v11 H k := by kernel_rfl

theorem s_slices_partitionOrdered_string_b4_eq (M : CombL) (C : CallF) (LP : LoopH) (v0 : Value) (v1 : Value) (v10 : Value) (v11 : Value) (H : AHeap) (k : K) : bodyL M Try.prog hints C LP F.slices_partitionOrdered_string 4 [(0, v0), (1, v1), (10, v10), (11, v11)] H (afterK [0, 1, 10, 11] k) = s_slices_partitionOrdered_string_b4 M.b.g M.c M.s Try.prog C (fun v0 v1 v10 v11 H k => loopL M Try.prog hints C LP F.slices_partitionOrdered_string 0 [(0, v0), (1, v1), (10, v10), (11, v11)] H k) (fun v0 v1 v10 v11 H k => loopL M Try.prog hints C LP F.slices_partitionOrdered_string 1 [(0, v0), (1, v1), (10, v10), (11, v11)] H k) (fun v0 v1 v10 v11 H k => loopL M Try.prog hints C LP F.slices_partitionOrdered_string 2 [(0, v0), (1, v1), (10, v10), (11, v11)] H k) (fun v0 v1 v10 v11 H k => loopL M Try.prog hints C LP F.slices_partitionOrdered_string 3 [(0, v0), (1, v1), (10, v10), (11, v11)] H k) (fun v0 v1 v10 v11 H k => loopL M Try.prog hints C LP F.slices_partitionOrdered_string 4 [(0, v0), (1, v1), (10, v10), (11, v11)] H k) v0 v1 v10 v11 H k := by kernel_rfl

/-! strings.IndexByte -/

noncomputable def s_strings_IndexByte (mg : GT) (mc : CT) (ms : ST) (P : Program) (C : CallF) (a0 : Value) (a1 : Value) (H : AHeap) (K0 : K) : Res :=
enterK C F.internal_stringslite_IndexByte [a0, a1] H fun t7 h1 =>
K0 .ret [(4, t7)] h1

theorem s_strings_IndexByte_eq (M : CombL) (C : CallF) (LP : LoopH) (a0 : Value) (a1 : Value) (H : AHeap) : dBodyL M Try.prog hints C LP F.strings_IndexByte [a0, a1] H = s_strings_IndexByte M.b.g M.c M.s Try.prog C a0 a1 H (endK Try.prog [.tmp 4]) := by kernel_rfl

/-! unicode.utf8.ValidRune -/

noncomputable def s_unicode_utf8_ValidRune (mg : GT) (mc : CT) (ms : ST) (P : Program) (C : CallF) (a0 : Value) (H : AHeap) (K0 : K) : Res :=
ms (fun k1 =>
bareK (xbin P .leq T.int32 (.const (.int .i32 0)) (.tmp 4) (.int .i32 0) a0) H fun t5 h1 =>
mg t5 true (fun o2 => o2 a0 h1) h1 fun t7 h2 =>
mg t5 true (fun o3 => bareK (xbin P .lss T.int32 (.tmp 7) (.const (.int .i32 55296)) t7 (.int .i32 55296)) h2 o3) h2 fun t8 h3 =>
pickK t5 t8 (.bool false) fun t9 =>
mc t9 (fun k4 => k4 .ret [(2, (.bool true))] h3) (fun k4 =>
bareK (xbin P .lss T.int32 (.const (.int .i32 57343)) (.tmp 11) (.int .i32 57343) a0) h3 fun t12 h4 =>
mg t12 true (fun o5 => o5 a0 h4) h4 fun t14 h5 =>
mg t12 true (fun o6 => bareK (xbin P .leq T.int32 (.tmp 14) (.const (.int .i32 1114111)) t14 (.int .i32 1114111)) h5 o6) h5 fun t15 h6 =>
pickK t12 t15 (.bool false) fun t16 =>
mc t16 (fun k7 => k7 .ret [(2, (.bool true))] h6) (fun k7 =>
k7 .normal [] h6) (afterK [] k4)) (blkK [] 0 k1)) (seqK (fun tT h7 =>
K0 .ret [(2, (.bool false))] h7) K0)

theorem s_unicode_utf8_ValidRune_eq (M : CombL) (C : CallF) (LP : LoopH) (a0 : Value) (H : AHeap) : dBodyL M Try.prog hints C LP F.unicode_utf8_ValidRune [a0] H = s_unicode_utf8_ValidRune M.b.g M.c M.s Try.prog C a0 H (endK Try.prog [.tmp 2]) := by kernel_rfl

/-! internal.bytealg.Cutover -/

noncomputable def s_internal_bytealg_Cutover (mg : GT) (mc : CT) (ms : ST) (P : Program) (C : CallF) (a0 : Value) (H : AHeap) (K0 : K) : Res :=
bareK (xbin P .add T.int (.tmp 3) (.const (.int .i64 16)) a0 (.int .i64 16)) H fun t4 h1 =>
bareK (xbin P .quo T.int (.tmp 4) (.const (.int .i64 8)) t4 (.int .i64 8)) h1 fun t5 h2 =>
K0 .ret [(2, t5)] h2

theorem s_internal_bytealg_Cutover_eq (M : CombL) (C : CallF) (LP : LoopH) (a0 : Value) (H : AHeap) : dBodyL M Try.prog hints C LP F.internal_bytealg_Cutover [a0] H = s_internal_bytealg_Cutover M.b.g M.c M.s Try.prog C a0 H (endK Try.prog [.tmp 2]) := by kernel_rfl

/-! strings.indexFunc -/

noncomputable def s_strings_indexFunc (mg : GT) (mc : CT) (ms : ST) (P : Program) (C : CallF) (L0 : Value → Value → Value → AHeap → K → Res) (a0 : Value) (a1 : Value) (a2 : Value) (H : AHeap) (K0 : K) : Res :=
bareK (none) H fun t10 h1 =>
ms (fun k1 =>
L0 a1 a2 t10 h1 (blkK [] 0 k1)) (seqK (fun tT h2 =>
K0 .ret [(6, (.int .i64 (-1)))] h2) K0)

noncomputable def s_strings_indexFunc_b0 (mg : GT) (mc : CT) (ms : ST) (P : Program) (C : CallF) (L0 : Value → Value → Value → AHeap → K → Res) (v1 : Value) (v2 : Value) (v10 : Value) (H : AHeap) (k : K) : Res :=
bareK (none) H fun t11 h2 =>
bareK (xextract t11 0) h2 fun t12 h3 =>
mc t12 (fun k2 => k2 .normal [(1, v1), (2, v2), (10, v10), (11, t11)] h3) (fun k2 =>
k2 (.exit 0) [(12, t12), (11, t11), (1, v1), (2, v2), (10, v10)] h3) (seqK (fun tT h4 =>
ms (fun k3 =>
bareK (xextract (get tT 11) 1) h4 fun t13 h5 =>
bareK (xextract (get tT 11) 2) h5 fun t14 h6 =>
callK P C (get tT 1) [t14] h6 fun t17 h7 =>
bareK (xbin P .eql T.bool (.tmp 17) (.tmp 18) t17 (get tT 2)) h7 fun t19 h8 =>
mc t19 (fun k4 => k4 .ret [(6, t13)] h8) (fun k4 =>
k4 .normal [(1, (get tT 1)), (2, (get tT 2)), (10, (get tT 10))] h8) (blkK [1, 2, 10] 1 k3)) (afterK [1, 2, 10] k)) (afterK [1, 2, 10] k))

theorem s_strings_indexFunc_eq (M : CombL) (C : CallF) (LP : LoopH) (a0 : Value) (a1 : Value) (a2 : Value) (H : AHeap) : dBodyL M Try.prog hints C LP F.strings_indexFunc [a0, a1, a2] H = s_strings_indexFunc M.b.g M.c M.s Try.prog C (fun v1 v2 v10 H k => loopL M Try.prog hints C LP F.strings_indexFunc 0 [(1, v1), (2, v2), (10, v10)] H k) a0 a1 a2 H (endK Try.prog [.tmp 6]) := by kernel_rfl

theorem s_strings_indexFunc_b0_eq (M : CombL) (C : CallF) (LP : LoopH) (v1 : Value) (v2 : Value) (v10 : Value) (H : AHeap) (k : K) : bodyL M Try.prog hints C LP F.strings_indexFunc 0 [(1, v1), (2, v2), (10, v10)] H (afterK [1, 2, 10] k) = s_strings_indexFunc_b0 M.b.g M.c M.s Try.prog C (fun v1 v2 v10 H k => loopL M Try.prog hints C LP F.strings_indexFunc 0 [(1, v1), (2, v2), (10, v10)] H k) v1 v2 v10 H k := by kernel_rfl

/-! slices.siftDownOrdered[string] -/

noncomputable def s_slices_siftDownOrdered_string (mg : GT) (mc : CT) (ms : ST) (P : Program) (C : CallF) (L0 : Value → Value → Value → Value → AHeap → K → Res) (a0 : Value) (a1 : Value) (a2 : Value) (a3 : Value) (H : AHeap) (K0 : K) : Res :=
ms (fun k1 =>
L0 a0 a2 a3 a1 H (blkK [] 0 k1)) K0

noncomputable def s_slices_siftDownOrdered_string_b0 (mg : GT) (mc : CT) (ms : ST) (P : Program) (C : CallF) (L0 : Value → Value → Value → Value → AHeap → K → Res) (v0 : Value) (v2 : Value) (v3 : Value) (v8 : Value) (H : AHeap) (k : K) : Res :=
ms (fun k2 =>
bareK (xbin P .mul T.int (.const (.int .i64 2)) (.tmp 11) (.int .i64 2) v8) H fun t12 h1 =>
bareK (xbin P .add T.int (.tmp 12) (.const (.int .i64 1)) t12 (.int .i64 1)) h1 fun t13 h2 =>
bareK (xbin P .geq T.int (.tmp 14) (.tmp 15) t13 v2) h2 fun t16 h3 =>
mc t16 (fun k3 => k3 (.exit 0) [(16, t16), (15, v2), (14, t13), (9, t13), (13, t13), (12, t12), (11, v8), (0, v0), (2, v2), (3, v3), (8, v8)] h3) (fun k3 =>
k3 .normal [(0, v0), (2, v2), (3, v3), (8, v8), (9, t13)] h3) (seqK (fun tT h4 =>
bareK (xbin P .add T.int (.tmp 17) (.const (.int .i64 1)) (get tT 9) (.int .i64 1)) h4 fun t18 h5 =>
bareK (xbin P .lss T.int (.tmp 18) (.tmp 19) t18 (get tT 2)) h5 fun t20 h6 =>
mg t20 true (fun o4 => o4 (get tT 0) h6) h6 fun t22 h7 =>
mg t20 true (fun o5 => o5 (get tT 3) h7) h7 fun t23 h8 =>
mg t20 true (fun o6 => o6 (get tT 9) h8) h8 fun t24 h9 =>
mg t20 true (fun o7 => bareK (xbin P .add T.int (.tmp 23) (.tmp 24) t23 t24) h9 o7) h9 fun t25 h10 =>
mg t20 true (fun o8 => bareK (ixS 1 t22 t25) h10 o8) h10 fun t26 h11 =>
mg t20 true (fun o9 => bareK (ld1 h11 t26) h11 o9) h11 fun t27 h12 =>
mg t20 true (fun o10 => o10 (get tT 0) h12) h12 fun t28 h13 =>
mg t20 true (fun o11 => o11 (get tT 3) h13) h13 fun t29 h14 =>
mg t20 true (fun o12 => o12 (get tT 9) h14) h14 fun t30 h15 =>
mg t20 true (fun o13 => bareK (xbin P .add T.int (.tmp 29) (.tmp 30) t29 t30) h15 o13) h15 fun t31 h16 =>
mg t20 true (fun o14 => bareK (xbin P .add T.int (.tmp 31) (.const (.int .i64 1)) t31 (.int .i64 1)) h16 o14) h16 fun t32 h17 =>
mg t20 true (fun o15 => bareK (ixS 1 t28 t32) h17 o15) h17 fun t33 h18 =>
mg t20 true (fun o16 => bareK (ld1 h18 t33) h18 o16) h18 fun t34 h19 =>
mg t20 true (fun o17 => enterK C F.cmp_Less_string [t27, t34] h19 o17) h19 fun t35 h20 =>
pickK t20 t35 (.bool false) fun t36 =>
checkK true <|
mc t36 (fun k18 => bareK (xbin P .add T.int (.tmp 37) (.const (.int .i64 1)) (get tT 9) (.int .i64 1)) h20 fun t38 h21 =>
k18 .normal [(0, (get tT 0)), (2, (get tT 2)), (3, (get tT 3)), (8, (get tT 8)), (9, t38)] h21) (fun k18 =>
k18 .normal [(0, (get tT 0)), (2, (get tT 2)), (3, (get tT 3)), (8, (get tT 8)), (9, (get tT 9))] h20) (seqK (fun tT_1 h22 =>
bareK (xbin P .add T.int (.tmp 40) (.tmp 41) (get tT_1 3) (get tT_1 8)) h22 fun t42 h23 =>
bareK (ixS 1 (get tT_1 0) t42) h23 fun t43 h24 =>
bareK (ld1 h24 t43) h24 fun t44 h25 =>
bareK (xbin P .add T.int (.tmp 46) (.tmp 47) (get tT_1 3) (get tT_1 9)) h25 fun t48 h26 =>
bareK (ixS 1 (get tT_1 0) t48) h26 fun t49 h27 =>
bareK (ld1 h27 t49) h27 fun t50 h28 =>
enterK C F.cmp_Less_string [t44, t50] h28 fun t51 h29 =>
bareK (xun P .not t51) h29 fun t52 h30 =>
checkK true <|
mc t52 (fun k19 => k19 .ret [] h30) (fun k19 =>
k19 .normal [(0, (get tT_1 0)), (2, (get tT_1 2)), (3, (get tT_1 3)), (8, (get tT_1 8)), (9, (get tT_1 9))] h30) (seqK (fun tT_2 h31 =>
bareK (xbin P .add T.int (.tmp 54) (.tmp 55) (get tT_2 3) (get tT_2 8)) h31 fun t56 h32 =>
bareK (xbin P .add T.int (.tmp 58) (.tmp 59) (get tT_2 3) (get tT_2 9)) h32 fun t60 h33 =>
bareK (xbin P .add T.int (.tmp 62) (.tmp 63) (get tT_2 3) (get tT_2 9)) h33 fun t64 h34 =>
bareK (ixS 1 (get tT_2 0) t64) h34 fun t65 h35 =>
bareK (ld1 h35 t65) h35 fun t66 h36 =>
bareK (xbin P .add T.int (.tmp 68) (.tmp 69) (get tT_2 3) (get tT_2 8)) h36 fun t70 h37 =>
bareK (ixS 1 (get tT_2 0) t70) h37 fun t71 h38 =>
bareK (ld1 h38 t71) h38 fun t72 h39 =>
bareK (ixS 1 (get tT_2 0) t56) h39 fun t73 h40 =>
quietK (st1 h40 t73 t66) fun _ h41 =>
bareK (ixS 1 (get tT_2 0) t60) h41 fun t74 h42 =>
quietK (st1 h42 t74 t72) fun _ h43 =>
checkK (okV (some true) none h40 h41 h32 h32 && (okV (some true) none h40 h41 h32 h32 && (okV (some true) none h40 h41 h32 h32 && (okV (some true) none h40 h41 h32 h33 && true)))) <|
k2 .normal [(0, (get tT_2 0)), (2, (get tT_2 2)), (3, (get tT_2 3)), (8, (get tT_2 9))] h43) (blkK [0, 2, 3, 8] 1 k2))) (blkK [0, 2, 3, 8] 1 k2))) (blkK [0, 2, 3, 8] 1 k2))) (afterK [0, 2, 3, 8] k)

theorem s_slices_siftDownOrdered_string_eq (M : CombL) (C : CallF) (LP : LoopH) (a0 : Value) (a1 : Value) (a2 : Value) (a3 : Value) (H : AHeap) : dBodyL M Try.prog hints C LP F.slices_siftDownOrdered_string [a0, a1, a2, a3] H = s_slices_siftDownOrdered_string M.b.g M.c M.s Try.prog C (fun v0 v2 v3 v8 H k => loopL M Try.prog hints C LP F.slices_siftDownOrdered_string 0 [(0, v0), (2, v2), (3, v3), (8, v8)] H k) a0 a1 a2 a3 H (endK Try.prog []) := by kernel_rfl

theorem s_slices_siftDownOrdered_string_b0_eq (M : CombL) (C : CallF) (LP : LoopH) (v0 : Value) (v2 : Value) (v3 : Value) (v8 : Value) (H : AHeap) (k : K) : bodyL M Try.prog hints C LP F.slices_siftDownOrdered_string 0 [(0, v0), (2, v2), (3, v3), (8, v8)] H (afterK [0, 2, 3, 8] k) = s_slices_siftDownOrdered_string_b0 M.b.g M.c M.s Try.prog C (fun v0 v2 v3 v8 H k => loopL M Try.prog hints C LP F.slices_siftDownOrdered_string 0 [(0, v0), (2, v2), (3, v3), (8, v8)] H k) v0 v2 v3 v8 H k := by kernel_rfl

/-! slices.nextPowerOfTwo -/

noncomputable def s_slices_nextPowerOfTwo (mg : GT) (mc : CT) (ms : ST) (P : Program) (C : CallF) (a0 : Value) (H : AHeap) (K0 : K) : Res :=
bothK (xconv P T.int T.uint a0 H) fun t4 h1 =>
enterK C F.math_bits_Len [t4] h1 fun t5 h2 =>
bareK (xbin P .shl T.uint (.const (.int .u64 1)) (.tmp 5) (.int .u64 1) t5) h2 fun t6 h3 =>
K0 .ret [(2, t6)] h3

theorem s_slices_nextPowerOfTwo_eq (M : CombL) (C : CallF) (LP : LoopH) (a0 : Value) (H : AHeap) : dBodyL M Try.prog hints C LP F.slices_nextPowerOfTwo [a0] H = s_slices_nextPowerOfTwo M.b.g M.c M.s Try.prog C a0 H (endK Try.prog [.tmp 2]) := by kernel_rfl

/-! (*slices.xorshift).Next -/

noncomputable def s_slices_xorshift_Next (mg : GT) (mc : CT) (ms : ST) (P : Program) (C : CallF) (a0 : Value) (H : AHeap) (K0 : K) : Res :=
bareK (xnilCheck a0) H fun t4 h1 =>
bareK (ld1 h1 t4) h1 fun t5 h2 =>
bareK (xnilCheck a0) h2 fun t7 h3 =>
bareK (ld1 h3 t7) h3 fun t8 h4 =>
bareK (xbin P .shl T.slices_xorshift (.tmp 8) (.const (.int .u64 13)) t8 (.int .u64 13)) h4 fun t9 h5 =>
bareK (xbin P .xor T.slices_xorshift (.tmp 5) (.tmp 9) t5 t9) h5 fun t10 h6 =>
bareK (xnilCheck a0) h6 fun t11 h7 =>
quietK (st1 h7 t11 t10) fun _ h8 =>
checkK true <|
bareK (xnilCheck a0) h8 fun t13 h9 =>
bareK (ld1 h9 t13) h9 fun t14 h10 =>
bareK (xnilCheck a0) h10 fun t16 h11 =>
bareK (ld1 h11 t16) h11 fun t17 h12 =>
bareK (xbin P .shr T.slices_xorshift (.tmp 17) (.const (.int .u64 7)) t17 (.int .u64 7)) h12 fun t18 h13 =>
bareK (xbin P .xor T.slices_xorshift (.tmp 14) (.tmp 18) t14 t18) h13 fun t19 h14 =>
bareK (xnilCheck a0) h14 fun t20 h15 =>
quietK (st1 h15 t20 t19) fun _ h16 =>
checkK true <|
bareK (xnilCheck a0) h16 fun t22 h17 =>
bareK (ld1 h17 t22) h17 fun t23 h18 =>
bareK (xnilCheck a0) h18 fun t25 h19 =>
bareK (ld1 h19 t25) h19 fun t26 h20 =>
bareK (xbin P .shl T.slices_xorshift (.tmp 26) (.const (.int .u64 17)) t26 (.int .u64 17)) h20 fun t27 h21 =>
bareK (xbin P .xor T.slices_xorshift (.tmp 23) (.tmp 27) t23 t27) h21 fun t28 h22 =>
bareK (xnilCheck a0) h22 fun t29 h23 =>
quietK (st1 h23 t29 t28) fun _ h24 =>
checkK true <|
bareK (xnilCheck a0) h24 fun t31 h25 =>
bareK (ld1 h25 t31) h25 fun t32 h26 =>
K0 .ret [(2, t32)] h26

theorem s_slices_xorshift_Next_eq (M : CombL) (C : CallF) (LP : LoopH) (a0 : Value) (H : AHeap) : dBodyL M Try.prog hints C LP F.slices_xorshift_Next [a0] H = s_slices_xorshift_Next M.b.g M.c M.s Try.prog C a0 H (endK Try.prog [.tmp 2]) := by kernel_rfl

/-! slices.medianAdjacentOrdered[string] -/

noncomputable def s_slices_medianAdjacentOrdered_string (mg : GT) (mc : CT) (ms : ST) (P : Program) (C : CallF) (a0 : Value) (a1 : Value) (a2 : Value) (H : AHeap) (K0 : K) : Res :=
bareK (xbin P .sub T.int (.tmp 8) (.const (.int .i64 1)) a1 (.int .i64 1)) H fun t9 h1 =>
bareK (xbin P .add T.int (.tmp 11) (.const (.int .i64 1)) a1 (.int .i64 1)) h1 fun t12 h2 =>
enterK C F.slices_medianOrdered_string [a0, t9, a1, t12, a2] h2 fun t14 h3 =>
K0 .ret [(6, t14)] h3

theorem s_slices_medianAdjacentOrdered_string_eq (M : CombL) (C : CallF) (LP : LoopH) (a0 : Value) (a1 : Value) (a2 : Value) (H : AHeap) : dBodyL M Try.prog hints C LP F.slices_medianAdjacentOrdered_string [a0, a1, a2] H = s_slices_medianAdjacentOrdered_string M.b.g M.c M.s Try.prog C a0 a1 a2 H (endK Try.prog [.tmp 6]) := by kernel_rfl

/-! slices.medianOrdered[string] -/

noncomputable def s_slices_medianOrdered_string (mg : GT) (mc : CT) (ms : ST) (P : Program) (C : CallF) (a0 : Value) (a1 : Value) (a2 : Value) (a3 : Value) (a4 : Value) (H : AHeap) (K0 : K) : Res :=
enterK C F.slices_order2Ordered_string [a0, a1, a2, a4] H fun t16 h1 =>
bareK (xextract t16 0) h1 fun t17 h2 =>
bareK (xextract t16 1) h2 fun t18 h3 =>
enterK C F.slices_order2Ordered_string [a0, t18, a3, a4] h3 fun t24 h4 =>
bareK (xextract t24 0) h4 fun t25 h5 =>
bareK (xextract t24 1) h5 fun t26 h6 =>
enterK C F.slices_order2Ordered_string [a0, t17, t25, a4] h6 fun t32 h7 =>
bareK (xextract t32 0) h7 fun t33 h8 =>
bareK (xextract t32 1) h8 fun t34 h9 =>
K0 .ret [(10, t34)] h9

theorem s_slices_medianOrdered_string_eq (M : CombL) (C : CallF) (LP : LoopH) (a0 : Value) (a1 : Value) (a2 : Value) (a3 : Value) (a4 : Value) (H : AHeap) : dBodyL M Try.prog hints C LP F.slices_medianOrdered_string [a0, a1, a2, a3, a4] H = s_slices_medianOrdered_string M.b.g M.c M.s Try.prog C a0 a1 a2 a3 a4 H (endK Try.prog [.tmp 10]) := by kernel_rfl

/-! cmp.isNaN[string] -/

noncomputable def s_cmp_isNaN_string (mg : GT) (mc : CT) (ms : ST) (P : Program) (C : CallF) (a0 : Value) (H : AHeap) (K0 : K) : Res :=
bareK (xbin P .neq T.string (.tmp 3) (.tmp 4) a0 a0) H fun t5 h1 =>
K0 .ret [(2, t5)] h1

theorem s_cmp_isNaN_string_eq (M : CombL) (C : CallF) (LP : LoopH) (a0 : Value) (H : AHeap) : dBodyL M Try.prog hints C LP F.cmp_isNaN_string [a0] H = s_cmp_isNaN_string M.b.g M.c M.s Try.prog C a0 H (endK Try.prog [.tmp 2]) := by kernel_rfl

/-! internal.stringslite.IndexByte -/

noncomputable def s_internal_stringslite_IndexByte (mg : GT) (mc : CT) (ms : ST) (P : Program) (C : CallF) (a0 : Value) (a1 : Value) (H : AHeap) (K0 : K) : Res :=
bareK (xext P Try.f84 [a0, a1] H) H fun t7 h1 =>
K0 .ret [(4, t7)] h1

theorem s_internal_stringslite_IndexByte_eq (M : CombL) (C : CallF) (LP : LoopH) (a0 : Value) (a1 : Value) (H : AHeap) : dBodyL M Try.prog hints C LP F.internal_stringslite_IndexByte [a0, a1] H = s_internal_stringslite_IndexByte M.b.g M.c M.s Try.prog C a0 a1 H (endK Try.prog [.tmp 4]) := by kernel_rfl

/-! slices.order2Ordered[string] -/

noncomputable def s_slices_order2Ordered_string (mg : GT) (mc : CT) (ms : ST) (P : Program) (C : CallF) (a0 : Value) (a1 : Value) (a2 : Value) (a3 : Value) (H : AHeap) (K0 : K) : Res :=
bareK (ixS 1 a0 a2) H fun t12 h1 =>
bareK (ld1 h1 t12) h1 fun t13 h2 =>
bareK (ixS 1 a0 a1) h2 fun t16 h3 =>
bareK (ld1 h3 t16) h3 fun t17 h4 =>
enterK C F.cmp_Less_string [t13, t17] h4 fun t18 h5 =>
checkK true <|
mc t18 (fun k1 => bareK (xnilCheck a3) h5 fun t20 h6 =>
bareK (ld1 h6 t20) h6 fun t21 h7 =>
bareK (xbin P .add T.int (.tmp 21) (.const (.int .i64 1)) t21 (.int .i64 1)) h7 fun t22 h8 =>
bareK (xnilCheck a3) h8 fun t23 h9 =>
quietK (st1 h9 t23 t22) fun _ h10 =>
k1 .ret [(8, a2), (9, a1)] h10) (fun k1 =>
k1 .normal [(1, a1), (2, a2)] h5) (seqK (fun tT h11 =>
K0 .ret [(8, (get tT 1)), (9, (get tT 2))] h11) K0)

theorem s_slices_order2Ordered_string_eq (M : CombL) (C : CallF) (LP : LoopH) (a0 : Value) (a1 : Value) (a2 : Value) (a3 : Value) (H : AHeap) : dBodyL M Try.prog hints C LP F.slices_order2Ordered_string [a0, a1, a2, a3] H = s_slices_order2Ordered_string M.b.g M.c M.s Try.prog C a0 a1 a2 a3 H (endK Try.prog [.tmp 8, .tmp 9]) := by kernel_rfl

end Go.Proofs.Ytplblfcofplcmaa
