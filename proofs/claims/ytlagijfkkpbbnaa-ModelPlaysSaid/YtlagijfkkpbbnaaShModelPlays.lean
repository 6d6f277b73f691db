/-
  The seat's functions as terms over the engine's combinators (a program of ours printed it).
  Conditions: none. By an AI agent.
-/
import Derived.Test.YtlagijfkkpbbnaaNames
import Derived.Test.YtlagijfkkpbbnaaEng22
import Derived.Test.YtlagijfkkpbbnaaHints
import Derived.Test.YtlagijfkkpbbnaaChecked
import Derived.KernelRfl
set_option linter.unusedVariables false
namespace Go.Proofs.Ytlagijfkkpbbnaa
open Go Eng

/-! ticketline.ticketlinelaw24.ModelPlays -/

noncomputable def s_law_ModelPlays (mg : GT) (mc : CT) (ms : ST) (P : Program) (C : CallF) (L0 : Value → Value → Value → Value → AHeap → K → Res) (a0 : Value) (H : AHeap) (K0 : K) : Res :=
bareK (lenS a0) H fun t8 h1 =>
bareK (xbin P .gtr T.int (.tmp 8) (.const (.int .i64 40)) t8 (.int .i64 40)) h1 fun t9 h2 =>
mc t9 (fun k1 => enterK C F.law_known [] h2 fun t10 h3 =>
k1 .ret [(2, t10)] h3) (fun k1 =>
k1 .normal [(0, a0)] h2) (seqK (fun tT h4 =>
bareK (bldS #[(.slice none 0 0)] [(0, 1)] []) h4 fun t11 h5 =>
bothK (newv T.model_Model t11 h5) fun t12 h6 =>
bareK (bldS #[(.slice none 0 0)] [(0, 1)] []) h6 fun t13 h7 =>
bothK (newv T.ref24_Model t13 h7) fun t14 h8 =>
ms (fun k2 =>
L0 (get tT 0) t12 t14 (.int .i64 0) h8 (blkK [] 0 k2)) (seqK (fun tT_1 h9 =>
enterK C F.law_known [] h9 fun t67 h10 =>
K0 .ret [(2, t67)] h10) K0)) K0)

noncomputable def s_law_ModelPlays_b0 (mg : GT) (mc : CT) (ms : ST) (P : Program) (C : CallF) (L0 : Value → Value → Value → Value → AHeap → K → Res) (v0 : Value) (v3 : Value) (v4 : Value) (v5 : Value) (H : AHeap) (k : K) : Res :=
bareK (lenS v0) H fun t17 h9 =>
bareK (xbin P .lss T.int (.tmp 15) (.tmp 17) v5 t17) h9 fun t18 h10 =>
mc t18 (fun k3 => k3 .normal [(0, v0), (3, v3), (4, v4), (5, v5)] h10) (fun k3 =>
k3 (.exit 0) [(18, t18), (17, t17), (16, v0), (15, v5), (0, v0), (3, v3), (4, v4), (5, v5)] h10) (seqK (fun tT h11 =>
ms (fun k4 =>
bareK (xbin P .eql T.p_model_Model (.tmp 21) (.const (.pointer none)) (get tT 3) (.pointer none)) h11 fun t22 h12 =>
mg t22 false (fun o5 => o5 (get tT 0) h12) h12 fun t24 h13 =>
mg t22 false (fun o6 => o6 (get tT 5) h13) h13 fun t25 h14 =>
mg t22 false (fun o7 => bareK (ixS 5 t24 t25) h14 o7) h14 fun t26 h15 =>
mg t22 false (fun o8 => bareK (ldN 5 h15 t26) h15 o8) h15 fun t27 h16 =>
mg t22 false (fun o9 => enterK C F.law_short [t27] h16 o9) h16 fun t28 h17 =>
mg t22 false (fun o10 => bareK (xun P .not t28) h17 o10) h17 fun t29 h18 =>
pickK t22 (.bool true) t29 fun t30 =>
mc t30 (fun k11 => bareK (xbin P .neq T.p_model_Model (.tmp 31) (.const (.pointer none)) (get tT 3) (.pointer none)) h18 fun t32 h19 =>
mg t32 true (fun o12 => enterK C F.law_known [] h19 o12) h19 fun t34 h20 =>
pickK t32 t34 (.bool false) fun t35 =>
k11 .ret [(2, t35)] h20) (fun k11 =>
k11 .normal [(0, (get tT 0)), (3, (get tT 3)), (4, (get tT 4)), (5, (get tT 5))] h18) (seqK (fun tT_1 h21 =>
bareK (ixS 5 (get tT_1 0) (get tT_1 5)) h21 fun t40 h22 =>
bareK (ldN 5 h22 t40) h22 fun t41 h23 =>
enterK C F.law_does [(get tT_1 3), (get tT_1 4), t41] h23 fun t42 h24 =>
bareK (xun P .not t42) h24 fun t43 h25 =>
mc t43 (fun k13 => k13 .ret [(2, (.bool false))] h25) (fun k13 =>
k13 .normal [(0, (get tT_1 0)), (3, (get tT_1 3)), (4, (get tT_1 4)), (5, (get tT_1 5))] h25) (seqK (fun tT_2 h26 =>
bareK (ixS 5 (get tT_2 0) (get tT_2 5)) h26 fun t46 h27 =>
bareK (fad 0 t46) h27 fun t47 h28 =>
bareK (ld1 h28 t47) h28 fun t48 h29 =>
bareK (xbin P .lss T.int (.tmp 48) (.const (.int .i64 0)) t48 (.int .i64 0)) h29 fun t49 h30 =>
mg t49 false (fun o14 => o14 (get tT_2 0) h30) h30 fun t51 h31 =>
mg t49 false (fun o15 => o15 (get tT_2 5) h31) h31 fun t52 h32 =>
mg t49 false (fun o16 => bareK (ixS 5 t51 t52) h32 o16) h32 fun t53 h33 =>
mg t49 false (fun o17 => bareK (fad 0 t53) h33 o17) h33 fun t54 h34 =>
mg t49 false (fun o18 => bareK (ld1 h34 t54) h34 o18) h34 fun t55 h35 =>
mg t49 false (fun o19 => bareK (xbin P .gtr T.int (.tmp 55) (.const (.int .i64 5)) t55 (.int .i64 5)) h35 o19) h35 fun t56 h36 =>
pickK t49 (.bool true) t56 fun t57 =>
mc t57 (fun k20 => enterK C F.model_Model_Copy [(get tT_2 3)] h36 fun t59 h37 =>
enterK C F.model_Model_Put [(get tT_2 3), (.string (mk [111, 110, 108, 121, 32, 104, 101, 114, 101])), (.string (mk [49]))] h37 fun t61 h38 =>
k20 .normal [(0, (get tT_2 0)), (3, t59), (4, (get tT_2 4)), (5, (get tT_2 5))] h38) (fun k20 =>
k20 .normal [(0, (get tT_2 0)), (3, (get tT_2 3)), (4, (get tT_2 4)), (5, (get tT_2 5))] h36) (seqK (fun tT_3 h39 =>
enterK C F.law_alike [(get tT_3 3), (get tT_3 4)] h39 fun t65 h40 =>
bareK (xun P .not t65) h40 fun t66 h41 =>
mc t66 (fun k21 => k21 .ret [(2, (.bool false))] h41) (fun k21 =>
k21 .normal [(0, (get tT_3 0)), (3, (get tT_3 3)), (4, (get tT_3 4)), (5, (get tT_3 5))] h41) (blkK [0, 3, 4, 5] 1 k4)) (blkK [0, 3, 4, 5] 1 k4))) (blkK [0, 3, 4, 5] 1 k4))) (blkK [0, 3, 4, 5] 1 k4))) (seqK (fun tT_4 h42 =>
bareK (xbin P .add T.int (.tmp 19) (.const (.int .i64 1)) (get tT_4 5) (.int .i64 1)) h42 fun t20 h43 =>
k .normal [(0, (get tT_4 0)), (3, (get tT_4 3)), (4, (get tT_4 4)), (5, t20)] h43) (afterK [0, 3, 4, 5] k))) (afterK [0, 3, 4, 5] k))

theorem s_law_ModelPlays_eq (M : CombL) (C : CallF) (LP : LoopH) (a0 : Value) (H : AHeap) : dBodyL M Try.prog hints C LP F.law_ModelPlays [a0] H = s_law_ModelPlays M.b.g M.c M.s Try.prog C (fun v0 v3 v4 v5 H k => loopL M Try.prog hints C LP F.law_ModelPlays 0 [(0, v0), (3, v3), (4, v4), (5, v5)] H k) a0 H (endK Try.prog [.tmp 2]) := by kernel_rfl

theorem s_law_ModelPlays_b0_eq (M : CombL) (C : CallF) (LP : LoopH) (v0 : Value) (v3 : Value) (v4 : Value) (v5 : Value) (H : AHeap) (k : K) : bodyL M Try.prog hints C LP F.law_ModelPlays 0 [(0, v0), (3, v3), (4, v4), (5, v5)] H (afterK [0, 3, 4, 5] k) = s_law_ModelPlays_b0 M.b.g M.c M.s Try.prog C (fun v0 v3 v4 v5 H k => loopL M Try.prog hints C LP F.law_ModelPlays 0 [(0, v0), (3, v3), (4, v4), (5, v5)] H k) v0 v3 v4 v5 H k := by kernel_rfl

end Go.Proofs.Ytlagijfkkpbbnaa
