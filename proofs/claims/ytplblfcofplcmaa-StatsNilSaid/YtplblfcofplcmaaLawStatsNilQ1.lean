/-
  4 texts in one (merge.py): ShStatsNil DsStatsNil Nil LawStatsNil.
  Conditions: none. By an AI agent.
-/
import Derived.Test.YtplblfcofplcmaaQc3
import Derived.Test.YtplblfcofplcmaaChecked
import Derived.KernelRfl
import Derived.Test.YtplblfcofplcmaaRows
import Derived.WalkKit
import Derived.ProofKit
import Derived.OpenShut
import Derived.ShutString
import Derived.ChangeOld
import Derived.Below
import Derived.SizedLaws
import Derived.ChangeArms
import Derived.Carry

/-
  The seat's functions as terms over the engine's combinators (a program of ours printed it).
  Conditions: none. By an AI agent.
-/
set_option linter.unusedVariables false
namespace Go.Proofs.Ytplblfcofplcmaa
open Go Eng

/-! ticketline.ticketlinelaw26.StatsNil -/

noncomputable def s_law_StatsNil (mg : GT) (mc : CT) (ms : ST) (P : Program) (C : CallF) (a0 : Value) (a1 : Value) (a2 : Value) (H : AHeap) (K0 : K) : Res :=
bareK (lenT a2) H fun t10 h1 =>
bareK (xbin P .gtr T.int (.tmp 10) (.const (.int .i64 60)) t10 (.int .i64 60)) h1 fun t11 h2 =>
mc t11 (fun k1 => enterK C F.law_known [] h2 fun t12 h3 =>
k1 .ret [(6, t12)] h3) (fun k1 =>
k1 .normal [(0, a0), (1, a1), (2, a2)] h2) (seqK (fun tT h4 =>
enterK C F.stats_Histogram_Add [(.pointer none), (get tT 0), (get tT 1)] h4 fun t16 h5 =>
bareK (xbin P .neq T.api_Errno (.tmp 16) (.const (.int .i64 1)) t16 (.int .i64 1)) h5 fun t17 h6 =>
mg t17 false (fun o2 => o2 (.pointer none) h6) h6 fun t19 h7 =>
mg t17 false (fun o3 => bareK (bldS #[(.int .i64 0), (.int .i64 0), (.int .i64 0), (.int .i64 0), (.int .i64 0), (.int .i64 0), (.int .i64 0), (.int .i64 0), (.int .i64 0), (.int .i64 0), (.int .i64 0), (.int .i64 0), (.int .i64 0), (.int .i64 0), (.int .i64 0), (.int .i64 0), (.int .i64 0), (.int .i64 0), (.int .i64 0), (.int .i64 0), (.int .i64 0), (.int .i64 0), (.int .i64 0), (.int .i64 0), (.int .i64 0), (.int .i64 0), (.int .i64 0), (.int .i64 0), (.int .i64 0), (.int .i64 0), (.int .i64 0), (.int .i64 0), (.int .i64 0), (.int .i64 0), (.int .i64 0), (.int .i64 0), (.int .i64 0), (.int .i64 0), (.int .i64 0), (.int .i64 0), (.int .i64 0), (.int .i64 0), (.int .i64 0), (.int .i64 0), (.int .i64 0), (.int .i64 0)] [(0, 42), (42, 1), (43, 1), (44, 1), (45, 1)] []) h7 o3) h7 fun t20 h8 =>
mg t17 false (fun o4 => bothK (newv T.stats_Histogram t20 h8) o4) h8 fun t21 h9 =>
mg t17 false (fun o5 => enterK C F.stats_Histogram_Merge [t19, t21] h9 o5) h9 fun t22 h10 =>
mg t17 false (fun o6 => bareK (xbin P .neq T.api_Errno (.tmp 22) (.const (.int .i64 1)) t22 (.int .i64 1)) h10 o6) h10 fun t23 h11 =>
pickK t17 (.bool true) t23 fun t24 =>
mg t24 false (fun o7 => bareK (bldS #[(.int .i64 0), (.int .i64 0), (.int .i64 0), (.int .i64 0), (.int .i64 0), (.int .i64 0), (.int .i64 0), (.int .i64 0), (.int .i64 0), (.int .i64 0), (.int .i64 0), (.int .i64 0), (.int .i64 0), (.int .i64 0), (.int .i64 0), (.int .i64 0), (.int .i64 0), (.int .i64 0), (.int .i64 0), (.int .i64 0), (.int .i64 0), (.int .i64 0), (.int .i64 0), (.int .i64 0), (.int .i64 0), (.int .i64 0), (.int .i64 0), (.int .i64 0), (.int .i64 0), (.int .i64 0), (.int .i64 0), (.int .i64 0), (.int .i64 0), (.int .i64 0), (.int .i64 0), (.int .i64 0), (.int .i64 0), (.int .i64 0), (.int .i64 0), (.int .i64 0), (.int .i64 0), (.int .i64 0), (.int .i64 0), (.int .i64 0), (.int .i64 0), (.int .i64 0)] [(0, 42), (42, 1), (43, 1), (44, 1), (45, 1)] []) h11 o7) h11 fun t26 h12 =>
mg t24 false (fun o8 => bothK (newv T.stats_Histogram t26 h12) o8) h12 fun t27 h13 =>
mg t24 false (fun o9 => o9 (.pointer none) h13) h13 fun t28 h14 =>
mg t24 false (fun o10 => enterK C F.stats_Histogram_Merge [t27, t28] h14 o10) h14 fun t29 h15 =>
mg t24 false (fun o11 => bareK (xbin P .neq T.api_Errno (.tmp 29) (.const (.int .i64 1)) t29 (.int .i64 1)) h15 o11) h15 fun t30 h16 =>
pickK t24 (.bool true) t30 fun t31 =>
mg t31 false (fun o12 => o12 (.pointer none) h16) h16 fun t33 h17 =>
mg t31 false (fun o13 => enterK C F.stats_Histogram_Count [t33] h17 o13) h17 fun t34 h18 =>
mg t31 false (fun o14 => bareK (xbin P .neq T.int (.tmp 34) (.const (.int .i64 0)) t34 (.int .i64 0)) h18 o14) h18 fun t35 h19 =>
pickK t31 (.bool true) t35 fun t36 =>
mg t36 false (fun o15 => o15 (.pointer none) h19) h19 fun t38 h20 =>
mg t36 false (fun o16 => enterK C F.stats_Histogram_Sum [t38] h20 o16) h20 fun t39 h21 =>
mg t36 false (fun o17 => bareK (xbin P .neq T.int (.tmp 39) (.const (.int .i64 0)) t39 (.int .i64 0)) h21 o17) h21 fun t40 h22 =>
pickK t36 (.bool true) t40 fun t41 =>
mg t41 false (fun o18 => o18 (.pointer none) h22) h22 fun t43 h23 =>
mg t41 false (fun o19 => enterK C F.stats_Histogram_Buckets [t43] h23 o19) h23 fun t44 h24 =>
mg t41 false (fun o20 => bareK (bldA #[(.int .i64 0), (.int .i64 0), (.int .i64 0), (.int .i64 0), (.int .i64 0), (.int .i64 0), (.int .i64 0), (.int .i64 0), (.int .i64 0), (.int .i64 0), (.int .i64 0), (.int .i64 0), (.int .i64 0), (.int .i64 0), (.int .i64 0), (.int .i64 0), (.int .i64 0), (.int .i64 0), (.int .i64 0), (.int .i64 0), (.int .i64 0), (.int .i64 0), (.int .i64 0), (.int .i64 0), (.int .i64 0), (.int .i64 0), (.int .i64 0), (.int .i64 0), (.int .i64 0), (.int .i64 0), (.int .i64 0), (.int .i64 0), (.int .i64 0), (.int .i64 0), (.int .i64 0), (.int .i64 0), (.int .i64 0), (.int .i64 0), (.int .i64 0), (.int .i64 0), (.int .i64 0), (.int .i64 0)] 1 []) h24 o20) h24 fun t45 h25 =>
mg t41 false (fun o21 => bareK (xbin P .neq T.n42_int (.tmp 44) (.tmp 45) t44 t45) h25 o21) h25 fun t46 h26 =>
pickK t41 (.bool true) t46 fun t47 =>
mg t47 false (fun o22 => o22 (.pointer none) h26) h26 fun t49 h27 =>
mg t47 false (fun o23 => enterK C F.law_ends [t49, (.int .i64 0), (.int .i64 0), (.int .i64 0), (.int .i64 1)] h27 o23) h27 fun t50 h28 =>
mg t47 false (fun o24 => bareK (xun P .not t50) h28 o24) h28 fun t51 h29 =>
pickK t47 (.bool true) t51 fun t52 =>
mg t52 false (fun o25 => o25 (.pointer none) h29) h29 fun t54 h30 =>
mg t52 false (fun o26 => o26 (get tT 0) h30) h30 fun t55 h31 =>
mg t52 false (fun o27 => enterK C F.law_quantile [t54, t55, (.int .i64 0), (.int .i64 1)] h31 o27) h31 fun t56 h32 =>
mg t52 false (fun o28 => bareK (xun P .not t56) h32 o28) h32 fun t57 h33 =>
pickK t52 (.bool true) t57 fun t58 =>
mg t58 false (fun o29 => o29 (.pointer none) h33) h33 fun t60 h34 =>
mg t58 false (fun o30 => enterK C F.stats_Histogram_Copy [t60] h34 o30) h34 fun t61 h35 =>
mg t58 false (fun o31 => bareK (xbin P .neq T.p_stats_Histogram (.tmp 61) (.const (.pointer none)) t61 (.pointer none)) h35 o31) h35 fun t62 h36 =>
pickK t58 (.bool true) t62 fun t63 =>
mc t63 (fun k32 => k32 .ret [(6, (.bool false))] h36) (fun k32 =>
k32 .normal [(0, (get tT 0)), (2, (get tT 2)), (8, (.pointer none))] h36) (seqK (fun tT_1 h37 =>
enterK C F.stats_Counter_Add [(get tT_1 8), (get tT_1 2), (get tT_1 0)] h37 fun t67 h38 =>
bareK (xbin P .eql T.api_Errno (.tmp 67) (.const (.int .i64 1)) t67 (.int .i64 1)) h38 fun t68 h39 =>
mg t68 true (fun o33 => o33 (get tT_1 8) h39) h39 fun t70 h40 =>
mg t68 true (fun o34 => o34 (get tT_1 2) h40) h40 fun t71 h41 =>
mg t68 true (fun o35 => enterK C F.stats_Counter_Get [t70, t71] h41 o35) h41 fun t72 h42 =>
mg t68 true (fun o36 => bareK (xbin P .eql T.int (.tmp 72) (.const (.int .i64 0)) t72 (.int .i64 0)) h42 o36) h42 fun t73 h43 =>
pickK t68 t73 (.bool false) fun t74 =>
mg t74 true (fun o37 => o37 (get tT_1 8) h43) h43 fun t76 h44 =>
mg t74 true (fun o38 => enterK C F.stats_Counter_Names [t76] h44 o38) h44 fun t77 h45 =>
mg t74 true (fun o39 => bareK (lenS t77) h45 o39) h45 fun t78 h46 =>
mg t74 true (fun o40 => bareK (xbin P .eql T.int (.tmp 78) (.const (.int .i64 0)) t78 (.int .i64 0)) h46 o40) h46 fun t79 h47 =>
pickK t74 t79 (.bool false) fun t80 =>
mg t80 true (fun o41 => o41 (get tT_1 8) h47) h47 fun t82 h48 =>
mg t80 true (fun o42 => enterK C F.stats_Counter_Total [t82] h48 o42) h48 fun t83 h49 =>
mg t80 true (fun o43 => bareK (xbin P .eql T.int (.tmp 83) (.const (.int .i64 0)) t83 (.int .i64 0)) h49 o43) h49 fun t84 h50 =>
pickK t80 t84 (.bool false) fun t85 =>
mg t85 true (fun o44 => o44 (get tT_1 8) h50) h50 fun t87 h51 =>
mg t85 true (fun o45 => enterK C F.stats_Counter_Copy [t87] h51 o45) h51 fun t88 h52 =>
mg t85 true (fun o46 => bareK (xbin P .eql T.p_stats_Counter (.tmp 88) (.const (.pointer none)) t88 (.pointer none)) h52 o46) h52 fun t89 h53 =>
pickK t85 t89 (.bool false) fun t90 =>
mg t90 true (fun o47 => enterK C F.law_known [] h53 o47) h53 fun t92 h54 =>
pickK t90 t92 (.bool false) fun t93 =>
K0 .ret [(6, t93)] h54) K0)) K0)

theorem s_law_StatsNil_eq (M : CombL) (C : CallF) (LP : LoopH) (a0 : Value) (a1 : Value) (a2 : Value) (H : AHeap) : dBodyL M Try.prog hints C LP F.law_StatsNil [a0, a1, a2] H = s_law_StatsNil M.b.g M.c M.s Try.prog C a0 a1 a2 H (endK Try.prog [.tmp 6]) := by kernel_rfl

end Go.Proofs.Ytplblfcofplcmaa

/-
  The equations of the seat's functions over calls in the limit (a program of ours printed it).
  Conditions: none. By an AI agent.
-/
set_option linter.unusedVariables false
namespace Go.Proofs.Ytplblfcofplcmaa
open Go Eng



theorem d_law_StatsNil (a0 : Value) (a1 : Value) (a2 : Value) (H : AHeap) {r : Value × AHeap} (h : s_law_StatsNil guardK condL shareL Try.prog CC a0 a1 a2 H (endK Try.prog [.tmp 6]) = some r) : CC F.law_StatsNil [a0, a1, a2] H = some (tidy H r) := D_body (by kernel_rfl) ((s_law_StatsNil_eq stdL CC limLP a0 a1 a2 H).trans (Eq.trans (show s_law_StatsNil stdL.b.g stdL.c stdL.s Try.prog CC a0 a1 a2 H (endK Try.prog [.tmp 6]) = s_law_StatsNil guardK condL shareL Try.prog CC a0 a1 a2 H (endK Try.prog [.tmp 6]) by kernel_rfl) h))

end Go.Proofs.Ytplblfcofplcmaa

/-
  Chapter 26: the law StatsNil runs to true.
  Conditions: none. By an AI agent.
-/
set_option maxRecDepth 100000
set_option linter.unusedSimpArgs false
set_option linter.unusedVariables false
namespace Go.Proofs.Ytplblfcofplcmaa
open Go Eng

theorem run_StatsNil (a0 a1 : Int) (a2 : ByteArray) (_ : (Lit.int .i64 a0).wf = true) (_ : (Lit.int .i64 a1).wf = true) (_ : (bl a2).length ≤ 140737488351232) : ∃ k H', dCall Try.prog prims1 hints k F.law_StatsNil [.int .i64 a0, .int .i64 a1, .string a2] H0 = some (.bool true, H') := by
  refine run_fst (n := 60) (by kernel_rfl) ?_
  rw [s_law_StatsNil_eq]
  unfold s_law_StatsNil
  rw [lenT_s, bareK_some']
  by_cases h : (60 : Int) < ((bl a2).length : Int)
  · rw [int_gt, decide_eq_true h]
    kernel_rfl
  · rw [int_gt, decide_eq_false h]
    kernel_rfl

end Go.Proofs.Ytplblfcofplcmaa

/-
  The law StatsNil: for every input it returns true, and its input reads as it did.
  Conditions: none. By an AI agent.
-/
namespace Go.Proofs.Ytplblfcofplcmaa.statsNil
open Go.ChangeShapes Go.WideShapes Go.ChangeAt Go.RowKit
open Go.ChangeMaps (open_string shut_string)
set_option linter.unusedVariables false
theorem own : ownKnob Try.prog.godebug = none := by kernel_rfl
set_option maxRecDepth 100000 in
theorem lifted (os : Os) (started : os.Started) (H : Type) (enc : TypeId × Value → H) :
    ReturnsInHanded {} Try.checked os 8 .any (Rows.statsNilSpec.pre6 enc Try.prog Try.f8 Rows.statsNilRow.domain false) (Rows.statsNilSpec.post enc Try.prog Try.f8 false true false false) := by
  refine returnsInHanded_of_change_sized (C := Try.checked) own started (by kernel_rfl) Try.func8
    (ChangeSpec.witness6 (enc := enc) (C := Try.checked) false ⟨#[], #[.int .i64 0, .int .i64 0, .string ByteArray.empty], []⟩ 8 (by kernel_rfl) (by kernel_rfl) (by kernel_rfl) (by kernel_rfl)) ?_
  intro W base args ds gs before hval0 hW hcnd hsz0 _
  have hsz : (DataW.weightsEach Try.prog (Try.f8.params.toList ++ Rows.statsNilSpec.plain.varTypes Try.prog) (ds ++ gs)).all (· ≤ reachBytes) = true := hsz0
  have hval : ∀ (j : Nat) t v, Try.f8.params[j]? = some t → args[j]? = some v → Value.okWide Try.prog W .any base t v := hval0
  have hW' := hW
  obtain ⟨p, q, hA0, hV, rfl, hfz, hnd⟩ := hW
  have hA : DataW.TrodAll enc Try.prog W 0 (fun _ => true) true Try.f8.params.toList args.toList ds p := hA0
  rw [Try.params8] at hA hval hsz
  obtain ⟨v0, vs0, d0, ds0, p0, q0, hargs, rfl, rfl, h0, r0⟩ := trodAll_cons hA
  obtain ⟨v1, vs1, d1, ds1, p1, q1, rfl, rfl, rfl, h1, r1⟩ := trodAll_cons r0
  obtain ⟨v2, vs2, d2, ds2, p2, q2, rfl, rfl, rfl, h2, r2⟩ := trodAll_cons r1
  obtain ⟨rfl, rfl, rfl⟩ := trodAll_nil r2
  obtain rfl : args = #[v0, v1, v2] := by cases args; simp_all
  obtain ⟨rfl, rfl⟩ := trodVars_none hV
  obtain ⟨a0, rfl, rfl, rfl, w0⟩ := open_int Try.underlying3 (hval 0 3 v0 rfl rfl) h0
  obtain ⟨a1, rfl, rfl, rfl, w1⟩ := open_int Try.underlying3 (hval 1 3 v1 rfl rfl) h1
  obtain ⟨a2, rfl, rfl, rfl, y2⟩ := open_string Try.underlying9 (hval 2 9 v2 rfl rfl) h2
  have w2 : (Eng.bl a2).length ≤ 140737488351232 := sized_string hsz (j := 2) (t := 9) rfl rfl
  clear hA0 hval0 hsz0 hsz
  refine (Eng.law_calls0 (args := #[.int .i64 a0, .int .i64 a1, .string a2]) prims1_ok mixed (fun _ hg => absurd hg List.not_mem_nil) rfl (run_StatsNil a0 a1 a2 w0 w1 w2)).mono fun e W' ⟨he, bel⟩ => ?_
  subst he
  exact ⟨_, rfl, _, _, _, [], _, [], hW', trodAll_mk1 (shut_bool Try.underlying4 _), (trodAll_cons_mk (shut_int Try.underlying3 w0) (trodAll_cons_mk (shut_int Try.underlying3 w1) (trodAll_cons_mk (shut_string Try.underlying9 y2) trodAll_mk0))), rfl, bel.frame _, fun h => by cases h⟩

theorem over : Rows.statsNilRow.holds Try.pinned (OpenSpec.ofChange Rows.statsNilSpec) :=
  OpenClaim.holds_of_wide 8 Try.f8 rfl rfl rfl rfl rfl rfl rfl ⟨rfl, rfl, rfl, rfl, rfl⟩ rfl rfl rfl rfl rfl (by kernel_rfl) Try.func8 (by kernel_rfl)
    (of_decide_eq_true (by kernel_rfl)) (by unfold Func.isWrapper; first | (rw [if_pos (by decide +kernel)]; kernel_rfl) | (rw [if_neg (by decide +kernel)]; exact ⟨rfl, rfl⟩))
    (fun os started H enc _ => lifted os started H enc)
theorem proved : Rows.StatsNilSaid := over
#print axioms proved
end Go.Proofs.Ytplblfcofplcmaa.statsNil
namespace Go.Proofs.Ytplblfcofplcmaa
/-- The row, under a short name, for the claim. -/
theorem statsNil_holds : Rows.StatsNilSaid := statsNil.proved
end Go.Proofs.Ytplblfcofplcmaa
