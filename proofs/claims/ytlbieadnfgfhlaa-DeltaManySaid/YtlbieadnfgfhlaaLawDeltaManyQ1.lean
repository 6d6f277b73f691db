/-
  8 texts in one (merge.py): ShDeltaHolds DsDeltaHolds Cq ShDeltaMany DsDeltaMany Cr Cs LawDeltaMany.
  Conditions: none. By an AI agent.
-/
import Derived.Test.YtlbieadnfgfhlaaQb2
import Derived.Test.YtlbieadnfgfhlaaChecked
import Derived.KernelRfl
import Derived.Test.YtlbieadnfgfhlaaRows
import Derived.WalkKit
import Derived.ProofKit
import Derived.OpenShut
import Derived.ShutString
import Derived.ChangeOld
import Derived.Below
import Derived.SizedLaws
import Derived.ChangeArms
import Derived.Carry

/-
  The seat's functions as terms over the engine's combinators (a program of ours printed it).
  Conditions: none. By an AI agent.
-/
set_option linter.unusedVariables false
namespace Go.Proofs.Ytlbieadnfgfhlaa
open Go Eng

/-! ticketline.ticketlinelaw49.DeltaHolds -/

noncomputable def s_law_DeltaHolds (mg : GT) (mc : CT) (ms : ST) (P : Program) (C : CallF) (a0 : Value) (a1 : Value) (a2 : Value) (H : AHeap) (K0 : K) : Res :=
enterK C F.law_pairs [a0, (.int .i64 16)] H fun t22 h1 =>
bareK (xun P .not t22) h1 fun t23 h2 =>
mg t23 false (fun o1 => o1 a1 h2) h2 fun t25 h3 =>
mg t23 false (fun o2 => enterK C F.law_pairs [t25, (.int .i64 16)] h3 o2) h3 fun t26 h4 =>
mg t23 false (fun o3 => bareK (xun P .not t26) h4 o3) h4 fun t27 h5 =>
pickK t23 (.bool true) t27 fun t28 =>
mg t28 false (fun o4 => o4 a2 h5) h5 fun t30 h6 =>
mg t28 false (fun o5 => enterK C F.law_pairs [t30, (.int .i64 16)] h6 o5) h6 fun t31 h7 =>
mg t28 false (fun o6 => bareK (xun P .not t31) h7 o6) h7 fun t32 h8 =>
pickK t28 (.bool true) t32 fun t33 =>
mc t33 (fun k7 => enterK C F.law_known [] h8 fun t34 h9 =>
k7 .ret [(6, t34)] h9) (fun k7 =>
k7 .normal [(0, a0), (1, a1), (2, a2)] h8) (seqK (fun tT h10 =>
enterK C F.law_filled [(get tT 0)] h10 fun t36 h11 =>
enterK C F.law_filled [(get tT 1)] h11 fun t38 h12 =>
enterK C F.law_filled [(get tT 2)] h12 fun t40 h13 =>
enterK C F.delta_Of [t36, t38] h13 fun t44 h14 =>
bareK (xextract t44 0) h14 fun t45 h15 =>
bareK (xextract t44 1) h15 fun t46 h16 =>
enterK C F.delta_Of [t38, t40] h16 fun t50 h17 =>
bareK (xextract t50 0) h17 fun t51 h18 =>
bareK (xextract t50 1) h18 fun t52 h19 =>
enterK C F.delta_Of [t36, t40] h19 fun t56 h20 =>
bareK (xextract t56 0) h20 fun t57 h21 =>
bareK (xextract t56 1) h21 fun t58 h22 =>
enterK C F.delta_Reverse [t45] h22 fun t61 h23 =>
bareK (xextract t61 0) h23 fun t62 h24 =>
bareK (xextract t61 1) h24 fun t63 h25 =>
bareK (xbin P .neq T.api_Errno (.tmp 64) (.const (.int .i64 0)) t46 (.int .i64 0)) h25 fun t65 h26 =>
mg t65 false (fun o8 => o8 t52 h26) h26 fun t67 h27 =>
mg t65 false (fun o9 => bareK (xbin P .neq T.api_Errno (.tmp 67) (.const (.int .i64 0)) t67 (.int .i64 0)) h27 o9) h27 fun t68 h28 =>
pickK t65 (.bool true) t68 fun t69 =>
mg t69 false (fun o10 => o10 t58 h28) h28 fun t71 h29 =>
mg t69 false (fun o11 => bareK (xbin P .neq T.api_Errno (.tmp 71) (.const (.int .i64 0)) t71 (.int .i64 0)) h29 o11) h29 fun t72 h30 =>
pickK t69 (.bool true) t72 fun t73 =>
mg t73 false (fun o12 => o12 t63 h30) h30 fun t75 h31 =>
mg t73 false (fun o13 => bareK (xbin P .neq T.api_Errno (.tmp 75) (.const (.int .i64 0)) t75 (.int .i64 0)) h31 o13) h31 fun t76 h32 =>
pickK t73 (.bool true) t76 fun t77 =>
mg t77 false (fun o14 => o14 t45 h32) h32 fun t79 h33 =>
mg t77 false (fun o15 => o15 t51 h33) h33 fun t80 h34 =>
mg t77 false (fun o16 => o16 t57 h34) h34 fun t81 h35 =>
mg t77 false (fun o17 => enterK C F.law_togethers [t79, t80, t81, (.int .i64 0)] h35 o17) h35 fun t82 h36 =>
mg t77 false (fun o18 => bareK (xun P .not t82) h36 o18) h36 fun t83 h37 =>
pickK t77 (.bool true) t83 fun t84 =>
mg t84 false (fun o19 => o19 t36 h37) h37 fun t86 h38 =>
mg t84 false (fun o20 => o20 t45 h38) h38 fun t87 h39 =>
mg t84 false (fun o21 => enterK C F.delta_Fits [t86, t87] h39 o21) h39 fun t88 h40 =>
mg t84 false (fun o22 => bareK (xun P .not t88) h40 o22) h40 fun t89 h41 =>
pickK t84 (.bool true) t89 fun t90 =>
mg t90 false (fun o23 => o23 t38 h41) h41 fun t92 h42 =>
mg t90 false (fun o24 => o24 t36 h42) h42 fun t93 h43 =>
mg t90 false (fun o25 => o25 t62 h43) h43 fun t94 h44 =>
mg t90 false (fun o26 => enterK C F.law_ofs [t92, t93, t94, (.int .i64 0)] h44 o26) h44 fun t95 h45 =>
mg t90 false (fun o27 => bareK (xun P .not t95) h45 o27) h45 fun t96 h46 =>
pickK t90 (.bool true) t96 fun t97 =>
mg t97 false (fun o28 => o28 t45 h46) h46 fun t99 h47 =>
mg t97 false (fun o29 => o29 t62 h47) h47 fun t100 h48 =>
mg t97 false (fun o30 => enterK C F.law_togethers [t99, t100, (.slice none 0 0), (.int .i64 0)] h48 o30) h48 fun t101 h49 =>
mg t97 false (fun o31 => bareK (xun P .not t101) h49 o31) h49 fun t102 h50 =>
pickK t97 (.bool true) t102 fun t103 =>
mc t103 (fun k32 => k32 .ret [(6, (.bool false))] h50) (fun k32 =>
k32 .normal [(7, t36), (8, t38), (10, t45), (14, t57), (16, t62)] h50) (seqK (fun tT_1 h51 =>
enterK C F.model_Model_Copy [(get tT_1 7)] h51 fun t105 h52 =>
enterK C F.delta_Apply [t105, (get tT_1 10)] h52 fun t108 h53 =>
bareK (xbin P .neq T.api_Errno (.tmp 108) (.const (.int .i64 0)) t108 (.int .i64 0)) h53 fun t109 h54 =>
mg t109 false (fun o33 => o33 t105 h54) h54 fun t111 h55 =>
mg t109 false (fun o34 => o34 (get tT_1 8) h55) h55 fun t112 h56 =>
mg t109 false (fun o35 => enterK C F.model_Equal [t111, t112] h56 o35) h56 fun t113 h57 =>
mg t109 false (fun o36 => bareK (xun P .not t113) h57 o36) h57 fun t114 h58 =>
pickK t109 (.bool true) t114 fun t115 =>
mg t115 false (fun o37 => o37 t105 h58) h58 fun t117 h59 =>
mg t115 false (fun o38 => o38 (get tT_1 16) h59) h59 fun t118 h60 =>
mg t115 false (fun o39 => enterK C F.delta_Apply [t117, t118] h60 o39) h60 fun t119 h61 =>
mg t115 false (fun o40 => bareK (xbin P .neq T.api_Errno (.tmp 119) (.const (.int .i64 0)) t119 (.int .i64 0)) h61 o40) h61 fun t120 h62 =>
pickK t115 (.bool true) t120 fun t121 =>
mg t121 false (fun o41 => o41 t105 h62) h62 fun t123 h63 =>
mg t121 false (fun o42 => o42 (get tT_1 7) h63) h63 fun t124 h64 =>
mg t121 false (fun o43 => enterK C F.model_Equal [t123, t124] h64 o43) h64 fun t125 h65 =>
mg t121 false (fun o44 => bareK (xun P .not t125) h65 o44) h65 fun t126 h66 =>
pickK t121 (.bool true) t126 fun t127 =>
mc t127 (fun k45 => k45 .ret [(6, (.bool false))] h66) (fun k45 =>
k45 .normal [(7, (get tT_1 7)), (10, (get tT_1 10)), (14, (get tT_1 14)), (18, t105)] h66) (seqK (fun tT_2 h67 =>
enterK C F.delta_Merge [(get tT_2 10), (get tT_2 14)] h67 fun t131 h68 =>
bareK (xextract t131 0) h68 fun t132 h69 =>
bareK (xextract t131 1) h69 fun t133 h70 =>
enterK C F.delta_Merge [(get tT_2 14), (get tT_2 10)] h70 fun t137 h71 =>
bareK (xextract t137 0) h71 fun t138 h72 =>
bareK (xextract t137 1) h72 fun t139 h73 =>
enterK C F.law_same [t132, t138] h73 fun t142 h74 =>
bareK (xun P .not t142) h74 fun t143 h75 =>
mg t143 false (fun o46 => o46 t133 h75) h75 fun t145 h76 =>
mg t143 false (fun o47 => o47 t139 h76) h76 fun t146 h77 =>
mg t143 false (fun o48 => bareK (xbin P .neq T.api_Errno (.tmp 145) (.tmp 146) t145 t146) h77 o48) h77 fun t147 h78 =>
pickK t143 (.bool true) t147 fun t148 =>
mg t148 false (fun o49 => o49 t133 h78) h78 fun t150 h79 =>
mg t148 false (fun o50 => bareK (xbin P .neq T.api_Errno (.tmp 150) (.const (.int .i64 0)) t150 (.int .i64 0)) h79 o50) h79 fun t151 h80 =>
mg t148 false (fun o51 => o51 t151 h80) h80 fun t152 h81 =>
mg t152 true (fun o52 => o52 t133 h81) h81 fun t153 h82 =>
mg t152 true (fun o53 => bareK (xbin P .neq T.api_Errno (.tmp 153) (.const (.int .i64 11)) t153 (.int .i64 11)) h82 o53) h82 fun t154 h83 =>
mg t148 false (fun o54 => pickK t152 t154 (.bool false) fun v => o54 v h83) h83 fun t155 h84 =>
pickK t148 (.bool true) t155 fun t156 =>
mg t156 false (fun o55 => o55 (get tT_2 10) h84) h84 fun t158 h85 =>
mg t156 false (fun o56 => o56 (get tT_2 10) h85) h85 fun t159 h86 =>
mg t156 false (fun o57 => o57 (get tT_2 10) h86) h86 fun t160 h87 =>
mg t156 false (fun o58 => enterK C F.law_merges [t158, t159, t160, (.int .i64 0)] h87 o58) h87 fun t161 h88 =>
mg t156 false (fun o59 => bareK (xun P .not t161) h88 o59) h88 fun t162 h89 =>
pickK t156 (.bool true) t162 fun t163 =>
mc t163 (fun k60 => k60 .ret [(6, (.bool false))] h89) (fun k60 =>
k60 .normal [(7, (get tT_2 7)), (11, t133), (18, (get tT_2 18)), (19, t132)] h89) (seqK (fun tT_3 h90 =>
bareK (xbin P .eql T.api_Errno (.tmp 164) (.const (.int .i64 0)) (get tT_3 11) (.int .i64 0)) h90 fun t165 h91 =>
mg t165 true (fun o61 => o61 (get tT_3 7) h91) h91 fun t167 h92 =>
mg t165 true (fun o62 => o62 (get tT_3 19) h92) h92 fun t168 h93 =>
mg t165 true (fun o63 => enterK C F.delta_Fits [t167, t168] h93 o63) h93 fun t169 h94 =>
mg t165 true (fun o64 => bareK (xun P .not t169) h94 o64) h94 fun t170 h95 =>
mg t165 true (fun o65 => o65 t170 h95) h95 fun t171 h96 =>
mg t171 false (fun o66 => o66 (get tT_3 18) h96) h96 fun t172 h97 =>
mg t171 false (fun o67 => o67 (get tT_3 19) h97) h97 fun t173 h98 =>
mg t171 false (fun o68 => enterK C F.delta_Apply [t172, t173] h98 o68) h98 fun t174 h99 =>
mg t171 false (fun o69 => bareK (xbin P .neq T.api_Errno (.tmp 174) (.const (.int .i64 0)) t174 (.int .i64 0)) h99 o69) h99 fun t175 h100 =>
mg t165 true (fun o70 => pickK t171 (.bool true) t175 fun v => o70 v h100) h100 fun t176 h101 =>
pickK t165 t176 (.bool false) fun t177 =>
mc t177 (fun k71 => k71 .ret [(6, (.bool false))] h101) (fun k71 =>
k71 .normal [] h101) (seqK (fun tT_4 h102 =>
enterK C F.law_known [] h102 fun t178 h103 =>
K0 .ret [(6, t178)] h103) K0)) K0)) K0)) K0)) K0)

theorem s_law_DeltaHolds_eq (M : CombL) (C : CallF) (LP : LoopH) (a0 : Value) (a1 : Value) (a2 : Value) (H : AHeap) : dBodyL M Try.prog hints C LP F.law_DeltaHolds [a0, a1, a2] H = s_law_DeltaHolds M.b.g M.c M.s Try.prog C a0 a1 a2 H (endK Try.prog [.tmp 6]) := by kernel_rfl

end Go.Proofs.Ytlbieadnfgfhlaa

/-
  The equations of the seat's functions over calls in the limit (a program of ours printed it).
  Conditions: none. By an AI agent.
-/
set_option linter.unusedVariables false
namespace Go.Proofs.Ytlbieadnfgfhlaa
open Go Eng



theorem d_law_DeltaHolds (a0 : Value) (a1 : Value) (a2 : Value) (H : AHeap) {r : Value × AHeap} (h : s_law_DeltaHolds guardK condL shareL Try.prog CC a0 a1 a2 H (endK Try.prog [.tmp 6]) = some r) : CC F.law_DeltaHolds [a0, a1, a2] H = some (tidy H r) := D_body (by kernel_rfl) ((s_law_DeltaHolds_eq stdL CC limLP a0 a1 a2 H).trans (Eq.trans (show s_law_DeltaHolds stdL.b.g stdL.c stdL.s Try.prog CC a0 a1 a2 H (endK Try.prog [.tmp 6]) = s_law_DeltaHolds guardK condL shareL Try.prog CC a0 a1 a2 H (endK Try.prog [.tmp 6]) by kernel_rfl) h))

end Go.Proofs.Ytlbieadnfgfhlaa

/-
  Chapter 49: the law DeltaHolds runs to true.
  Conditions: none. By an AI agent.
-/
set_option maxRecDepth 10000
set_option linter.unusedSimpArgs false
set_option linter.unusedVariables false
namespace Go.Proofs.Ytlbieadnfgfhlaa
open Go Eng

theorem delta_len (a b : List Pr) : (deltaOf a b).length ≤ a.length + b.length := by
  have h1 := len_flat ofL_len (mrg (a.map ofC) (b.map ofC))
  have h2 := mrg_len _ (a.map ofC) (b.map ofC) rfl
  simp only [List.length_map] at h2
  show ((mrg (a.map ofC) (b.map ofC)).flatMap ofL).length ≤ _
  omega
theorem merg_len (a b : List Cg) : (merg a b).length ≤ a.length + b.length := by
  have h1 := len_flat mergL_len (mrg a b)
  have h2 := mrg_len _ a b rfl
  show ((mrg a b).flatMap mergL).length ≤ _
  omega
theorem delta_valid {x y : List Pr} (hx : Fine x) (hy : Fine y) (hl : x.length + y.length ≤ 20000) : validC (deltaOf x y) = true := by
  have := delta_len x y
  unfold validC
  rw [decide_eq_true (by omega), Bool.true_and]
  exact delta_ok hx hy
theorem merg_valid {a b : List Cg} (ha : validC a = true) (hb : validC b = true) (hl : (merg a b).length ≤ 20000) : validC (merg a b) = true := by
  obtain ⟨_, a2, a3⟩ := valid_all ha
  obtain ⟨_, b2, b3⟩ := valid_all hb
  unfold validC
  rw [decide_eq_true hl, Bool.true_and]
  exact okL_of none (fun c hc => (merg_mem a3 b3 hc).elim (a2 c) (b2 c)) (merg_srt a3 b3) fun p hp => by cases hp

/-- All that is called, first part. -/
theorem q_Holds_a (a b c : List Pr) (va vb vc : Value) (H : AHeap) (ok : Ok H) (ha : Rd EPr H va a) (hb : Rd EPr H vb b) (hc : Rd EPr H vc c) (hla : a.length ≤ 16) (hlb : b.length ≤ 16) (hlc : c.length ≤ 16)
    (hpa : CC F.law_pairs [va, .int .i64 16] H = some (.bool true, H)) (hpb : CC F.law_pairs [vb, .int .i64 16] H = some (.bool true, H)) (hpc : CC F.law_pairs [vc, .int .i64 16] H = some (.bool true, H))
    (hcf : confs (deltaOf (fillF [] a) (fillF [] b)) (deltaOf (fillF [] a) (fillF [] c)) = []) :
    ∃ H', CC F.law_DeltaHolds [va, vb, vc] H = some (.bool true, H') := by
  obtain ⟨H1, hf1, t1⟩ := q_filled a va H ok ha (by omega)
  obtain ⟨H2, hf2, t2⟩ := q_filled b vb H1 t1.ok (hb.still t1.base) (by omega)
  have s02 : Still H H2 := t1.base.still.then t2.base fun _ _ h => h
  obtain ⟨H3, hf3, t3⟩ := q_filled c vc H2 t2.ok (hc.still s02) (by omega)
  have l1 := fill_len a []
  have l2 := fill_len b []
  have l3 := fill_len c []
  simp only [List.length_nil, Nat.zero_add] at l1 l2 l3
  generalize fillF [] a = x at *
  generalize fillF [] b = y at *
  generalize fillF [] c = z at *
  have fx := t1.fine
  have fy := t2.fine
  have fz := t3.fine
  have x3 := (t1.m.still t2.base).still t3.base
  have y3 := t2.m.still t3.base
  have z3 := t3.m
  have dl1 := delta_len x y
  have dl2 := delta_len y z
  have dl3 := delta_len x z
  obtain ⟨v1, H4, ho1, o1, s1, _, _⟩ := q_Of H.n H1.n x y H3 t3.ok x3 y3 (by omega) (by omega)
  have ok4 := t3.ok.fr s1
  obtain ⟨v2, H5, ho2, o2, s2, _, _⟩ := q_Of H1.n H2.n y z H4 ok4 (y3.still s1) (z3.still s1) (by omega) (by omega)
  have s35 : Still H3 H5 := s1.still.then s2 fun _ _ h => h
  have ok5 := ok4.fr s2
  obtain ⟨v3, H6, ho3, o3, s3, _, _⟩ := q_Of H.n H2.n x z H5 ok5 (x3.still s35) (z3.still s35) (by omega) (by omega)
  have ok6 := ok5.fr s3
  have s46 : Still H4 H6 := s2.still.then s3 fun _ _ h => h
  have vl := delta_valid fx fy (by omega)
  have vm := delta_valid fy fz (by omega)
  have vn := delta_valid fx fz (by omega)
  have vr := delta_valid fy fx (by omega)
  have o16 := o1.still s46
  obtain ⟨v4, H7, hrev, o4, s4, _⟩ := q_Reverse (deltaOf x y) v1 H6 ok6 o16.rd (by omega) vl
  rw [rev_delta fx.srt fy.srt] at o4
  have ok7 := ok6.fr s4
  have s37 : Still H3 H7 := (s35.still.then s3 fun _ _ h => h).still.then s4 fun _ _ h => h
  have x7 := x3.still s37
  have y7 := y3.still s37
  have o17 := o16.still s4
  have o27 := (o2.still s3).still s4
  have o37 := o3.still s4
  -- together
  obtain ⟨g1, g2⟩ := togs_delta fx.srt fy.srt fz.srt
  obtain ⟨vt, Ht, ht, ot, st, _⟩ := (q_Together _ _ v1 v2 H7 ok7 (Arg.of o17) (Arg.of o27) vl vm).2.2 g2 (by rw [g1]; omega)
  rw [g1] at ot
  have htog := q_togethers v1 v2 v3 vt _ H7 Ht ht ot.rd st o37.rd (by omega)
  have hfits := q_Fits (deltaOf x y) x v1 H.n H7 ok7 o17.rd (by omega) x7 fx
  rw [vl, fits_delta fx.srt fy.srt] at hfits
  have hfits : CC F.delta_Fits [.pointer (some ⟨H.n, 0, none⟩), v1] H7 = some (.bool true, H7) := hfits
  have hofs := q_ofs H1.n H.n y x _ v4 H7 ok7 y7 x7 (by omega) (by omega) o4.rd rfl
  obtain ⟨g3, g4⟩ := togs_delta fx.srt fy.srt fx.srt
  rw [delta_self fx.srt] at g3
  obtain ⟨vu, Hu, hu, ou, su, _⟩ := (q_Together _ _ v1 v4 H7 ok7 (Arg.of o17) (Arg.of o4) vl vr).2.2 g4 (by rw [g3]; simp)
  rw [g3] at ou
  have htog2 := q_togethers v1 v4 (.slice none 0 0) vu [] H7 Hu hu ou.rd su (.inl ⟨rfl, rfl⟩) (by simp)
  -- apply there and back
  obtain ⟨bw, H8, hcp, m8, s8, hbw, hmb⟩ := q_MCopy H.n x H7 x7 (by omega)
  have ok8 := ok7.fr s8
  have t8 : MdlN H7 H8 bw x := ⟨ok8, s8, m8, hmb, fx⟩
  have dl4 := delta_len y x
  have c1 := cnt_le (deltaOf x y) (x.length : Int)
  have c2 := cnt_le (deltaOf y x) (y.length : Int)
  obtain ⟨H9, ha1, m9, f9, u9⟩ := q_Apply bw x (deltaOf x y) v1 H8 ok8 (o17.still s8).rd (fun k hk => ⟨by have := o17.blk hk; have := s8.n; omega, fun h => by have := hmb k h; have := o17.blk hk; omega⟩) m8 fx vl (fits_delta fx.srt fy.srt) (by omega)
  rw [apply_delta fx fy (by omega)] at m9 f9
  have t9 : MdlN H7 H9 bw y := t8.step m9 u9 f9
  have y9 := y7.still t9.base
  have heq1 := q_Equal bw H1.n y y H9 m9 y9 (by omega) (by omega)
  rw [decide_eq_true rfl] at heq1
  obtain ⟨H10, ha2, m10, f10, u10⟩ := q_Apply bw y (deltaOf y x) v4 H9 t9.ok (o4.still t9.base).rd (fun k hk => ⟨by have := o4.blk hk; have := t9.base.n; omega, fun h => by have := t9.lo k h; have := o4.blk hk; omega⟩) m9 fy vr (fits_delta fy.srt fx.srt) (by omega)
  rw [apply_delta fy fx (by omega)] at m10 f10
  have t10 : MdlN H7 H10 bw x := t9.step m10 u10 f10
  have x10 := x7.still t10.base
  have heq2 := q_Equal bw H.n x x H10 m10 x10 (by omega) (by omega)
  rw [decide_eq_true rfl] at heq2
  -- merging
  have al := Arg.of (o17.still t10.base)
  have an := Arg.of (o37.still t10.base)
  have sl := delta_srt fx.srt fy.srt
  have sn := delta_srt fx.srt fz.srt
  have ml1 := merg_len (deltaOf x y) (deltaOf x z)
  have ml2 := merg_len (deltaOf x z) (deltaOf x y)
  have ml3 := merg_len (deltaOf x y) (deltaOf x y)
  obtain ⟨ms1, ms2⟩ := merg_self sl
  have hcf2 : confs (deltaOf x z) (deltaOf x y) = [] := by rw [← conf_swap sl sn]; exact hcf
  obtain ⟨vp, H11, hm1, op, s11, np, bp⟩ := (q_Merge _ _ v1 v3 H10 t10.ok al an vl vn).2.2 (by omega) hcf
  have ok11 := t10.ok.fr s11
  obtain ⟨vq, H12, hm2, oq, s12, _, _⟩ := (q_Merge _ _ v3 v1 H11 ok11 (an.still s11) (al.still s11) vn vl).2.2 (by omega) hcf2
  rw [← merg_comm sl sn hcf] at oq
  have ok12 := ok11.fr s12
  have op12 := op.still s12
  have hsame := q_lsame _ vp vq H12 op12 oq (by omega)
  have s1012 : Still H10 H12 := s11.still.then s12 fun _ _ h => h
  have al12 := al.still s1012
  obtain ⟨vs, Hs, hm3, os, ss, _, _⟩ := (q_Merge _ _ v1 v1 H12 ok12 al12 al12 vl vl).2.2 (by omega) ms1
  rw [ms2] at os
  have hmer := q_merges v1 v1 v1 vs _ H12 Hs hm3 os ss al12.sb.1 (by omega)
  have vp' := merg_valid vl vn (by omega)
  have fp : fitsC x (merg (deltaOf x y) (deltaOf x z)) = true := List.all_eq_true.2 fun d hd => by
    rcases merg_mem sl sn hd with h | h
    · exact fit_mk5 (mem_delta fx.srt fy.srt h).1
    · exact fit_mk5 (mem_delta fx.srt fz.srt h).1
  have hfits2 := q_Fits _ x vp H.n H12 ok12 op12 (by omega) (x10.still s1012) fx
  rw [vp', fp] at hfits2
  have hfits2 : CC F.delta_Fits [.pointer (some ⟨H.n, 0, none⟩), vp] H12 = some (.bool true, H12) := hfits2
  have c3 := cnt_le (merg (deltaOf x y) (deltaOf x z)) (x.length : Int)
  have blkp : ∀ k, blockOf vp = some k → k < H12.n := fun k hk => Nat.lt_of_lt_of_le (bp k hk) s12.n
  obtain ⟨H13, ha3, _, _, _⟩ := q_Apply bw x (merg (deltaOf x y) (deltaOf x z)) vp H12 ok12 op12 (fun k hk => ⟨blkp k hk, fun h => by have h1 := m10.blk (MBT_still m10 s1012 h); have := np k hk; omega⟩) (m10.still s1012) fx vp' fp (by omega)
  refine any_of (H1 := H13) (d_law_DeltaHolds _ _ _ H ?_)
  simp (maxSteps := 2000000) (disch := first | with_reducible rfl | assumption | omega | rfl | (simp only [go_sem]; first | done | omega)) only [go_sem, ↓reduceIte, reduceCtorEq, Nat.reduceEqDiff, Nat.reduceAdd, Nat.reduceSub, Nat.reduceMul, Nat.reduceDiv, Nat.reduceMod, Nat.reduceLeDiff, Nat.reduceLT, Nat.reduceBEq, Int.reduceEq, Int.reduceBEq, Int.reduceBNe, Int.reduceLT, Int.reduceLE, Int.reduceAdd, Int.reduceSub, Int.reduceNeg, Int.reduceToNat, Int.reducePow, Nat.reducePow, Int.reduceMul, Int.reduceDiv, s_law_DeltaHolds, enterK_eq hpa, enterK_eq hpb, enterK_eq hpc, enterK_eq hf1, enterK_eq hf2, enterK_eq hf3, enterK_eq ho1, enterK_eq ho2, enterK_eq ho3, enterK_eq hrev]
  simp (disch := first | with_reducible rfl | assumption | omega | rfl | (simp only [go_sem]; first | done | omega)) only [go_sem, ↓reduceIte, reduceCtorEq, Nat.reduceEqDiff, Nat.reduceAdd, Nat.reduceSub, Nat.reduceMul, Nat.reduceDiv, Nat.reduceMod, Nat.reduceLeDiff, Nat.reduceLT, Nat.reduceBEq, Int.reduceEq, Int.reduceBEq, Int.reduceBNe, Int.reduceLT, Int.reduceLE, Int.reduceAdd, Int.reduceSub, Int.reduceNeg, Int.reduceToNat, Int.reducePow, Nat.reducePow, Int.reduceMul, Int.reduceDiv, enterK_eq htog, enterK_eq hfits, enterK_eq hofs, enterK_eq htog2]
  simp (disch := first | with_reducible rfl | assumption | omega | rfl | (simp only [go_sem]; first | done | omega)) only [go_sem, ↓reduceIte, reduceCtorEq, Nat.reduceEqDiff, Nat.reduceAdd, Nat.reduceSub, Nat.reduceMul, Nat.reduceDiv, Nat.reduceMod, Nat.reduceLeDiff, Nat.reduceLT, Nat.reduceBEq, Int.reduceEq, Int.reduceBEq, Int.reduceBNe, Int.reduceLT, Int.reduceLE, Int.reduceAdd, Int.reduceSub, Int.reduceNeg, Int.reduceToNat, Int.reducePow, Nat.reducePow, Int.reduceMul, Int.reduceDiv, enterK_eq hcp, enterK_eq ha1, enterK_eq heq1, enterK_eq ha2]
  simp (disch := first | with_reducible rfl | assumption | omega | rfl | (simp only [go_sem]; first | done | omega)) only [go_sem, ↓reduceIte, reduceCtorEq, Nat.reduceEqDiff, Nat.reduceAdd, Nat.reduceSub, Nat.reduceMul, Nat.reduceDiv, Nat.reduceMod, Nat.reduceLeDiff, Nat.reduceLT, Nat.reduceBEq, Int.reduceEq, Int.reduceBEq, Int.reduceBNe, Int.reduceLT, Int.reduceLE, Int.reduceAdd, Int.reduceSub, Int.reduceNeg, Int.reduceToNat, Int.reducePow, Nat.reducePow, Int.reduceMul, Int.reduceDiv, enterK_eq heq2, enterK_eq hm1, enterK_eq hm2, enterK_eq hsame]
  simp (disch := first | with_reducible rfl | assumption | omega | rfl | (simp only [go_sem]; first | done | omega)) only [go_sem, ↓reduceIte, reduceCtorEq, Nat.reduceEqDiff, Nat.reduceAdd, Nat.reduceSub, Nat.reduceMul, Nat.reduceDiv, Nat.reduceMod, Nat.reduceLeDiff, Nat.reduceLT, Nat.reduceBEq, Int.reduceEq, Int.reduceBEq, Int.reduceBNe, Int.reduceLT, Int.reduceLE, Int.reduceAdd, Int.reduceSub, Int.reduceNeg, Int.reduceToNat, Int.reducePow, Nat.reducePow, Int.reduceMul, Int.reduceDiv, enterK_eq hmer, enterK_eq hfits2, enterK_eq ha3]

/-- All that is called, first part. -/
theorem q_Holds_b (a b c : List Pr) (va vb vc : Value) (H : AHeap) (ok : Ok H) (ha : Rd EPr H va a) (hb : Rd EPr H vb b) (hc : Rd EPr H vc c) (hla : a.length ≤ 16) (hlb : b.length ≤ 16) (hlc : c.length ≤ 16)
    (hpa : CC F.law_pairs [va, .int .i64 16] H = some (.bool true, H)) (hpb : CC F.law_pairs [vb, .int .i64 16] H = some (.bool true, H)) (hpc : CC F.law_pairs [vc, .int .i64 16] H = some (.bool true, H))
    (hcf : ¬ confs (deltaOf (fillF [] a) (fillF [] b)) (deltaOf (fillF [] a) (fillF [] c)) = []) :
    ∃ H', CC F.law_DeltaHolds [va, vb, vc] H = some (.bool true, H') := by
  obtain ⟨H1, hf1, t1⟩ := q_filled a va H ok ha (by omega)
  obtain ⟨H2, hf2, t2⟩ := q_filled b vb H1 t1.ok (hb.still t1.base) (by omega)
  have s02 : Still H H2 := t1.base.still.then t2.base fun _ _ h => h
  obtain ⟨H3, hf3, t3⟩ := q_filled c vc H2 t2.ok (hc.still s02) (by omega)
  have l1 := fill_len a []
  have l2 := fill_len b []
  have l3 := fill_len c []
  simp only [List.length_nil, Nat.zero_add] at l1 l2 l3
  generalize fillF [] a = x at *
  generalize fillF [] b = y at *
  generalize fillF [] c = z at *
  have fx := t1.fine
  have fy := t2.fine
  have fz := t3.fine
  have x3 := (t1.m.still t2.base).still t3.base
  have y3 := t2.m.still t3.base
  have z3 := t3.m
  have dl1 := delta_len x y
  have dl2 := delta_len y z
  have dl3 := delta_len x z
  obtain ⟨v1, H4, ho1, o1, s1, _, _⟩ := q_Of H.n H1.n x y H3 t3.ok x3 y3 (by omega) (by omega)
  have ok4 := t3.ok.fr s1
  obtain ⟨v2, H5, ho2, o2, s2, _, _⟩ := q_Of H1.n H2.n y z H4 ok4 (y3.still s1) (z3.still s1) (by omega) (by omega)
  have s35 : Still H3 H5 := s1.still.then s2 fun _ _ h => h
  have ok5 := ok4.fr s2
  obtain ⟨v3, H6, ho3, o3, s3, _, _⟩ := q_Of H.n H2.n x z H5 ok5 (x3.still s35) (z3.still s35) (by omega) (by omega)
  have ok6 := ok5.fr s3
  have s46 : Still H4 H6 := s2.still.then s3 fun _ _ h => h
  have vl := delta_valid fx fy (by omega)
  have vm := delta_valid fy fz (by omega)
  have vn := delta_valid fx fz (by omega)
  have vr := delta_valid fy fx (by omega)
  have o16 := o1.still s46
  obtain ⟨v4, H7, hrev, o4, s4, _⟩ := q_Reverse (deltaOf x y) v1 H6 ok6 o16.rd (by omega) vl
  rw [rev_delta fx.srt fy.srt] at o4
  have ok7 := ok6.fr s4
  have s37 : Still H3 H7 := (s35.still.then s3 fun _ _ h => h).still.then s4 fun _ _ h => h
  have x7 := x3.still s37
  have y7 := y3.still s37
  have o17 := o16.still s4
  have o27 := (o2.still s3).still s4
  have o37 := o3.still s4
  -- together
  obtain ⟨g1, g2⟩ := togs_delta fx.srt fy.srt fz.srt
  obtain ⟨vt, Ht, ht, ot, st, _⟩ := (q_Together _ _ v1 v2 H7 ok7 (Arg.of o17) (Arg.of o27) vl vm).2.2 g2 (by rw [g1]; omega)
  rw [g1] at ot
  have htog := q_togethers v1 v2 v3 vt _ H7 Ht ht ot.rd st o37.rd (by omega)
  have hfits := q_Fits (deltaOf x y) x v1 H.n H7 ok7 o17.rd (by omega) x7 fx
  rw [vl, fits_delta fx.srt fy.srt] at hfits
  have hfits : CC F.delta_Fits [.pointer (some ⟨H.n, 0, none⟩), v1] H7 = some (.bool true, H7) := hfits
  have hofs := q_ofs H1.n H.n y x _ v4 H7 ok7 y7 x7 (by omega) (by omega) o4.rd rfl
  obtain ⟨g3, g4⟩ := togs_delta fx.srt fy.srt fx.srt
  rw [delta_self fx.srt] at g3
  obtain ⟨vu, Hu, hu, ou, su, _⟩ := (q_Together _ _ v1 v4 H7 ok7 (Arg.of o17) (Arg.of o4) vl vr).2.2 g4 (by rw [g3]; simp)
  rw [g3] at ou
  have htog2 := q_togethers v1 v4 (.slice none 0 0) vu [] H7 Hu hu ou.rd su (.inl ⟨rfl, rfl⟩) (by simp)
  -- apply there and back
  obtain ⟨bw, H8, hcp, m8, s8, hbw, hmb⟩ := q_MCopy H.n x H7 x7 (by omega)
  have ok8 := ok7.fr s8
  have t8 : MdlN H7 H8 bw x := ⟨ok8, s8, m8, hmb, fx⟩
  have dl4 := delta_len y x
  have c1 := cnt_le (deltaOf x y) (x.length : Int)
  have c2 := cnt_le (deltaOf y x) (y.length : Int)
  obtain ⟨H9, ha1, m9, f9, u9⟩ := q_Apply bw x (deltaOf x y) v1 H8 ok8 (o17.still s8).rd (fun k hk => ⟨by have := o17.blk hk; have := s8.n; omega, fun h => by have := hmb k h; have := o17.blk hk; omega⟩) m8 fx vl (fits_delta fx.srt fy.srt) (by omega)
  rw [apply_delta fx fy (by omega)] at m9 f9
  have t9 : MdlN H7 H9 bw y := t8.step m9 u9 f9
  have y9 := y7.still t9.base
  have heq1 := q_Equal bw H1.n y y H9 m9 y9 (by omega) (by omega)
  rw [decide_eq_true rfl] at heq1
  obtain ⟨H10, ha2, m10, f10, u10⟩ := q_Apply bw y (deltaOf y x) v4 H9 t9.ok (o4.still t9.base).rd (fun k hk => ⟨by have := o4.blk hk; have := t9.base.n; omega, fun h => by have := t9.lo k h; have := o4.blk hk; omega⟩) m9 fy vr (fits_delta fy.srt fx.srt) (by omega)
  rw [apply_delta fy fx (by omega)] at m10 f10
  have t10 : MdlN H7 H10 bw x := t9.step m10 u10 f10
  have x10 := x7.still t10.base
  have heq2 := q_Equal bw H.n x x H10 m10 x10 (by omega) (by omega)
  rw [decide_eq_true rfl] at heq2
  -- merging
  have al := Arg.of (o17.still t10.base)
  have an := Arg.of (o37.still t10.base)
  have sl := delta_srt fx.srt fy.srt
  have sn := delta_srt fx.srt fz.srt
  have ml1 := merg_len (deltaOf x y) (deltaOf x z)
  have ml2 := merg_len (deltaOf x z) (deltaOf x y)
  have ml3 := merg_len (deltaOf x y) (deltaOf x y)
  obtain ⟨ms1, ms2⟩ := merg_self sl
  have hcf2 : ¬ confs (deltaOf x z) (deltaOf x y) = [] := by rw [← conf_swap sl sn]; exact hcf
  have hm1 := (q_Merge _ _ v1 v3 H10 t10.ok al an vl vn).2.1 (by omega) hcf
  have hm2 := (q_Merge _ _ v3 v1 H10 t10.ok an al vn vl).2.1 (by omega) hcf2
  have hsame := q_lsame [] (.slice none 0 0) (.slice none 0 0) H10 (.inl ⟨rfl, rfl⟩) (.inl ⟨rfl, rfl⟩) (by simp)
  obtain ⟨vs, Hs, hm3, os, ss, _, _⟩ := (q_Merge _ _ v1 v1 H10 t10.ok al al vl vl).2.2 (by omega) ms1
  rw [ms2] at os
  have hmer := q_merges v1 v1 v1 vs _ H10 Hs hm3 os ss al.sb.1 (by omega)
  refine any_of (H1 := H10) (d_law_DeltaHolds _ _ _ H ?_)
  simp (maxSteps := 2000000) (disch := first | with_reducible rfl | assumption | omega | rfl | (simp only [go_sem]; first | done | omega)) only [go_sem, ↓reduceIte, reduceCtorEq, Nat.reduceEqDiff, Nat.reduceAdd, Nat.reduceSub, Nat.reduceMul, Nat.reduceDiv, Nat.reduceMod, Nat.reduceLeDiff, Nat.reduceLT, Nat.reduceBEq, Int.reduceEq, Int.reduceBEq, Int.reduceBNe, Int.reduceLT, Int.reduceLE, Int.reduceAdd, Int.reduceSub, Int.reduceNeg, Int.reduceToNat, Int.reducePow, Nat.reducePow, Int.reduceMul, Int.reduceDiv, s_law_DeltaHolds, enterK_eq hpa, enterK_eq hpb, enterK_eq hpc, enterK_eq hf1, enterK_eq hf2, enterK_eq hf3, enterK_eq ho1, enterK_eq ho2, enterK_eq ho3, enterK_eq hrev]
  simp (disch := first | with_reducible rfl | assumption | omega | rfl | (simp only [go_sem]; first | done | omega)) only [go_sem, ↓reduceIte, reduceCtorEq, Nat.reduceEqDiff, Nat.reduceAdd, Nat.reduceSub, Nat.reduceMul, Nat.reduceDiv, Nat.reduceMod, Nat.reduceLeDiff, Nat.reduceLT, Nat.reduceBEq, Int.reduceEq, Int.reduceBEq, Int.reduceBNe, Int.reduceLT, Int.reduceLE, Int.reduceAdd, Int.reduceSub, Int.reduceNeg, Int.reduceToNat, Int.reducePow, Nat.reducePow, Int.reduceMul, Int.reduceDiv, enterK_eq htog, enterK_eq hfits, enterK_eq hofs, enterK_eq htog2]
  simp (disch := first | with_reducible rfl | assumption | omega | rfl | (simp only [go_sem]; first | done | omega)) only [go_sem, ↓reduceIte, reduceCtorEq, Nat.reduceEqDiff, Nat.reduceAdd, Nat.reduceSub, Nat.reduceMul, Nat.reduceDiv, Nat.reduceMod, Nat.reduceLeDiff, Nat.reduceLT, Nat.reduceBEq, Int.reduceEq, Int.reduceBEq, Int.reduceBNe, Int.reduceLT, Int.reduceLE, Int.reduceAdd, Int.reduceSub, Int.reduceNeg, Int.reduceToNat, Int.reducePow, Nat.reducePow, Int.reduceMul, Int.reduceDiv, enterK_eq hcp, enterK_eq ha1, enterK_eq heq1, enterK_eq ha2]
  simp (disch := first | with_reducible rfl | assumption | omega | rfl | (simp only [go_sem]; first | done | omega)) only [go_sem, ↓reduceIte, reduceCtorEq, Nat.reduceEqDiff, Nat.reduceAdd, Nat.reduceSub, Nat.reduceMul, Nat.reduceDiv, Nat.reduceMod, Nat.reduceLeDiff, Nat.reduceLT, Nat.reduceBEq, Int.reduceEq, Int.reduceBEq, Int.reduceBNe, Int.reduceLT, Int.reduceLE, Int.reduceAdd, Int.reduceSub, Int.reduceNeg, Int.reduceToNat, Int.reducePow, Nat.reducePow, Int.reduceMul, Int.reduceDiv, enterK_eq heq2, enterK_eq hm1, enterK_eq hm2, enterK_eq hsame]
  simp (disch := first | with_reducible rfl | assumption | omega | rfl | (simp only [go_sem]; first | done | omega)) only [go_sem, ↓reduceIte, reduceCtorEq, Nat.reduceEqDiff, Nat.reduceAdd, Nat.reduceSub, Nat.reduceMul, Nat.reduceDiv, Nat.reduceMod, Nat.reduceLeDiff, Nat.reduceLT, Nat.reduceBEq, Int.reduceEq, Int.reduceBEq, Int.reduceBNe, Int.reduceLT, Int.reduceLE, Int.reduceAdd, Int.reduceSub, Int.reduceNeg, Int.reduceToNat, Int.reducePow, Nat.reducePow, Int.reduceMul, Int.reduceDiv, enterK_eq hmer]


theorem q_DeltaHolds (a b c : List Pr) (va vb vc : Value) (H : AHeap) (ok : Ok H) (ha : Rd EPr H va a) (hb : Rd EPr H vb b) (hc : Rd EPr H vc c) : ∃ H', CC F.law_DeltaHolds [va, vb, vc] H = some (.bool true, H') := by
  obtain ⟨x, hpa, hxa⟩ := q_pairsn a va 16 H ha (by omega)
  obtain ⟨y, hpb, hyb⟩ := q_pairsn b vb 16 H hb (by omega)
  obtain ⟨z, hpc, hzc⟩ := q_pairsn c vc 16 H hc (by omega)
  have hpa : CC F.law_pairs [va, .int .i64 16] H = some (.bool x, H) := hpa
  have hpb : CC F.law_pairs [vb, .int .i64 16] H = some (.bool y, H) := hpb
  have hpc : CC F.law_pairs [vc, .int .i64 16] H = some (.bool z, H) := hpc
  cases x with
  | false =>
    refine any_of (H1 := ?_) (d_law_DeltaHolds _ _ _ H ?_)
    rotate_left 1
    · simp (maxSteps := 2000000) (disch := first | with_reducible rfl | assumption | omega | rfl | (simp only [go_sem]; first | done | omega)) only [go_sem, ↓reduceIte, reduceCtorEq, Nat.reduceEqDiff, Nat.reduceAdd, Nat.reduceSub, Nat.reduceMul, Nat.reduceDiv, Nat.reduceMod, Nat.reduceLeDiff, Nat.reduceLT, Nat.reduceBEq, Int.reduceEq, Int.reduceBEq, Int.reduceBNe, Int.reduceLT, Int.reduceLE, Int.reduceAdd, Int.reduceSub, Int.reduceNeg, Int.reduceToNat, Int.reducePow, Nat.reducePow, Int.reduceMul, Int.reduceDiv, s_law_DeltaHolds, enterK_eq hpa]
      rfl
  | true =>
    cases y with
    | false =>
      refine any_of (H1 := ?_) (d_law_DeltaHolds _ _ _ H ?_)
      rotate_left 1
      · simp (maxSteps := 2000000) (disch := first | with_reducible rfl | assumption | omega | rfl | (simp only [go_sem]; first | done | omega)) only [go_sem, ↓reduceIte, reduceCtorEq, Nat.reduceEqDiff, Nat.reduceAdd, Nat.reduceSub, Nat.reduceMul, Nat.reduceDiv, Nat.reduceMod, Nat.reduceLeDiff, Nat.reduceLT, Nat.reduceBEq, Int.reduceEq, Int.reduceBEq, Int.reduceBNe, Int.reduceLT, Int.reduceLE, Int.reduceAdd, Int.reduceSub, Int.reduceNeg, Int.reduceToNat, Int.reducePow, Nat.reducePow, Int.reduceMul, Int.reduceDiv, s_law_DeltaHolds, enterK_eq hpa, enterK_eq hpb]
        rfl
    | true =>
      cases z with
      | false =>
        refine any_of (H1 := ?_) (d_law_DeltaHolds _ _ _ H ?_)
        rotate_left 1
        · simp (maxSteps := 2000000) (disch := first | with_reducible rfl | assumption | omega | rfl | (simp only [go_sem]; first | done | omega)) only [go_sem, ↓reduceIte, reduceCtorEq, Nat.reduceEqDiff, Nat.reduceAdd, Nat.reduceSub, Nat.reduceMul, Nat.reduceDiv, Nat.reduceMod, Nat.reduceLeDiff, Nat.reduceLT, Nat.reduceBEq, Int.reduceEq, Int.reduceBEq, Int.reduceBNe, Int.reduceLT, Int.reduceLE, Int.reduceAdd, Int.reduceSub, Int.reduceNeg, Int.reduceToNat, Int.reducePow, Nat.reducePow, Int.reduceMul, Int.reduceDiv, s_law_DeltaHolds, enterK_eq hpa, enterK_eq hpb, enterK_eq hpc]
          rfl
      | true =>
        by_cases hcf : confs (deltaOf (fillF [] a) (fillF [] b)) (deltaOf (fillF [] a) (fillF [] c)) = []
        · exact q_Holds_a a b c va vb vc H ok ha hb hc (hxa rfl) (hyb rfl) (hzc rfl) hpa hpb hpc hcf
        · exact q_Holds_b a b c va vb vc H ok ha hb hc (hxa rfl) (hyb rfl) (hzc rfl) hpa hpb hpc hcf

theorem run_DeltaHolds (W : World) (va : Value) (a : List Pr) (ha : Rd EPr (absHeap W) va a) (_ : ∀ x, x ∈ a → True) (_ : a.length ≤ maxLen) (vb : Value) (b : List Pr) (hb : Rd EPr (absHeap W) vb b) (_ : ∀ x, x ∈ b → True) (_ : b.length ≤ maxLen) (vc : Value) (c : List Pr) (hc : Rd EPr (absHeap W) vc c) (_ : ∀ x, x ∈ c → True) (_ : c.length ≤ maxLen) :
    ∃ k H', dCall Try.prog prims1 hints k F.law_DeltaHolds [va, vb, vc] (absHeap W) = some (.bool true, H') := by
  obtain ⟨H', h⟩ := q_DeltaHolds a b c va vb vc (absHeap W) (absHeap_ok W) ha hb hc
  obtain ⟨k, h⟩ := D_run h
  exact ⟨k, _, h⟩

end Go.Proofs.Ytlbieadnfgfhlaa

/-
  The seat's functions as terms over the engine's combinators (a program of ours printed it).
  Conditions: none. By an AI agent.
-/
set_option linter.unusedVariables false
namespace Go.Proofs.Ytlbieadnfgfhlaa
open Go Eng

/-! ticketline.ticketlinelaw49.DeltaMany -/

noncomputable def s_law_DeltaMany (mg : GT) (mc : CT) (ms : ST) (P : Program) (C : CallF) (L0 : Value → Value → Value → AHeap → K → Res) (a0 : Value) (H : AHeap) (K0 : K) : Res :=
bareK (xbin P .lss T.int (.tmp 8) (.const (.int .i64 19998)) a0 (.int .i64 19998)) H fun t9 h1 =>
mg t9 false (fun o1 => o1 a0 h1) h1 fun t11 h2 =>
mg t9 false (fun o2 => bareK (xbin P .gtr T.int (.tmp 11) (.const (.int .i64 20002)) t11 (.int .i64 20002)) h2 o2) h2 fun t12 h3 =>
pickK t9 (.bool true) t12 fun t13 =>
mc t13 (fun k3 => enterK C F.law_known [] h3 fun t14 h4 =>
k3 .ret [(2, t14)] h4) (fun k3 =>
k3 .normal [(0, a0)] h3) (seqK (fun tT h5 =>
ms (fun k4 =>
L0 (get tT 0) (.slice none 0 0) (.int .i64 0) h5 (blkK [0, 3] 0 k4)) (seqK (fun tT_1 h6 =>
enterK C F.delta_Valid [(get tT_1 3)] h6 fun t32 h7 =>
bareK (xbin P .leq T.int (.tmp 33) (.const (.int .i64 20000)) (get tT_1 0) (.int .i64 20000)) h7 fun t34 h8 =>
bareK (xbin P .neq T.bool (.tmp 32) (.tmp 34) t32 t34) h8 fun t35 h9 =>
mc t35 (fun k5 => k5 .ret [(2, (.bool false))] h9) (fun k5 =>
k5 .normal [(0, (get tT_1 0)), (3, (get tT_1 3))] h9) (seqK (fun tT_2 h10 =>
bareK (xbin P .gtr T.int (.tmp 36) (.const (.int .i64 20000)) (get tT_2 0) (.int .i64 20000)) h10 fun t37 h11 =>
mc t37 (fun k6 => enterK C F.law_reverses [(get tT_2 3), (.slice none 0 0), (.int .i64 2)] h11 fun t39 h12 =>
mg t39 true (fun o7 => o7 (get tT_2 3) h12) h12 fun t41 h13 =>
mg t39 true (fun o8 => enterK C F.law_merges [t41, (.slice none 0 0), (.slice none 0 0), (.int .i64 2)] h13 o8) h13 fun t42 h14 =>
pickK t39 t42 (.bool false) fun t43 =>
mg t43 true (fun o9 => enterK C F.law_known [] h14 o9) h14 fun t45 h15 =>
pickK t43 t45 (.bool false) fun t46 =>
k6 .ret [(2, t46)] h15) (fun k6 =>
k6 .normal [(0, (get tT_2 0)), (3, (get tT_2 3))] h11) (seqK (fun tT_3 h16 =>
bareK (bldS #[(.string (mk [])), (.string (mk []))] [(0, 1), (1, 1)] [(0, (.string (mk [122])))]) h16 fun t47 h17 =>
bareK (bldS #[(.string (mk [])), (.string (mk []))] [(0, 1), (1, 1)] [(0, (.string (mk [122, 122])))]) h17 fun t48 h18 =>
bothK (bldL T.api_Pair [(.string (mk [])), (.string (mk []))] 2 [(0, t47), (1, t48)] h18) fun t49 h19 =>
enterK C F.law_filled [t49] h19 fun t50 h20 =>
bareK (xbin P .add T.int (.tmp 51) (.const (.int .i64 2)) (get tT_3 0) (.int .i64 2)) h20 fun t52 h21 =>
bareK (xbin P .gtr T.int (.tmp 52) (.const (.int .i64 20000)) t52 (.int .i64 20000)) h21 fun t53 h22 =>
mc t53 (fun k10 => k10 .normal [(0, (get tT_3 0)), (3, (get tT_3 3)), (5, t50), (6, (.int .i64 7))] h22) (fun k10 =>
k10 .normal [(0, (get tT_3 0)), (3, (get tT_3 3)), (5, t50), (6, (.int .i64 0))] h22) (seqK (fun tT_4 h23 =>
enterK C F.law_comes [(.string (mk [97])), (.string (mk []))] h23 fun t54 h24 =>
enterK C F.law_comes [(.string (mk [98])), (.string (mk []))] h24 fun t55 h25 =>
enterK C F.law_comes [(.string (mk [99])), (.string (mk []))] h25 fun t56 h26 =>
bothK (bldL T.api_Change [(.string (mk [])), (.bool false), (.bool false), (.string (mk [])), (.string (mk []))] 3 [(0, t54), (1, t55), (2, t56)] h26) fun t57 h27 =>
bareK (xbin P .add T.int (.tmp 58) (.const (.int .i64 3)) (get tT_4 0) (.int .i64 3)) h27 fun t59 h28 =>
bareK (xbin P .gtr T.int (.tmp 59) (.const (.int .i64 20000)) t59 (.int .i64 20000)) h28 fun t60 h29 =>
mc t60 (fun k11 => enterK C F.law_merges [(get tT_4 3), t57, (.slice none 0 0), (.int .i64 5)] h29 fun t63 h30 =>
bareK (xun P .not t63) h30 fun t64 h31 =>
mg t64 false (fun o12 => o12 (get tT_4 3) h31) h31 fun t66 h32 =>
mg t64 false (fun o13 => o13 t57 h32) h32 fun t67 h33 =>
mg t64 false (fun o14 => enterK C F.law_togethers [t66, t67, (.slice none 0 0), (.int .i64 5)] h33 o14) h33 fun t68 h34 =>
mg t64 false (fun o15 => bareK (xun P .not t68) h34 o15) h34 fun t69 h35 =>
pickK t64 (.bool true) t69 fun t70 =>
mc t70 (fun k16 => k16 .ret [(2, (.bool false))] h35) (fun k16 =>
k16 .normal [(3, (get tT_4 3)), (5, (get tT_4 5)), (6, (get tT_4 6))] h35) (afterK [3, 5, 6] k11)) (fun k11 =>
k11 .normal [(3, (get tT_4 3)), (5, (get tT_4 5)), (6, (get tT_4 6))] h29) (seqK (fun tT_5 h36 =>
enterK C F.delta_Apply [(get tT_5 5), (get tT_5 3)] h36 fun t73 h37 =>
bareK (xbin P .eql T.int (.tmp 73) (.tmp 74) t73 (get tT_5 6)) h37 fun t75 h38 =>
mg t75 true (fun o17 => o17 (get tT_5 6) h38) h38 fun t77 h39 =>
mg t75 true (fun o18 => bareK (xbin P .eql T.int (.tmp 77) (.const (.int .i64 0)) t77 (.int .i64 0)) h39 o18) h39 fun t78 h40 =>
mg t75 true (fun o19 => o19 (get tT_5 5) h40) h40 fun t79 h41 =>
mg t75 true (fun o20 => enterK C F.model_Model_Len [t79] h41 o20) h41 fun t80 h42 =>
mg t75 true (fun o21 => bareK (xbin P .gtr T.int (.tmp 80) (.const (.int .i64 2)) t80 (.int .i64 2)) h42 o21) h42 fun t81 h43 =>
mg t75 true (fun o22 => bareK (xbin P .eql T.bool (.tmp 78) (.tmp 81) t78 t81) h43 o22) h43 fun t82 h44 =>
pickK t75 t82 (.bool false) fun t83 =>
mg t83 true (fun o23 => enterK C F.law_known [] h44 o23) h44 fun t85 h45 =>
pickK t83 t85 (.bool false) fun t86 =>
K0 .ret [(2, t86)] h45) K0)) K0)) K0)) K0)) K0)) K0)

noncomputable def s_law_DeltaMany_b0 (mg : GT) (mc : CT) (ms : ST) (P : Program) (C : CallF) (L0 : Value → Value → Value → AHeap → K → Res) (v0 : Value) (v3 : Value) (v4 : Value) (H : AHeap) (k : K) : Res :=
bareK (xbin P .lss T.int (.tmp 15) (.tmp 16) v4 v0) H fun t17 h6 =>
mc t17 (fun k5 => k5 .normal [(0, v0), (3, v3), (4, v4)] h6) (fun k5 =>
k5 (.exit 0) [(17, t17), (16, v0), (15, v4), (0, v0), (3, v3), (4, v4)] h6) (seqK (fun tT h7 =>
ms (fun k6 =>
bareK (xbin P .quo T.int (.tmp 21) (.const (.int .i64 256)) (get tT 4) (.int .i64 256)) h7 fun t22 h8 =>
bothK (xconv P T.int T.uint8 t22 h8) fun t23 h9 =>
bothK (xconv P T.int T.uint8 (get tT 4) h9) fun t25 h10 =>
bothK (bldL T.uint8 [(.int .u8 0)] 3 [(0, (.int .u8 1)), (1, t23), (2, t25)] h10) fun t26 h11 =>
bothK (xconv P T.sl_uint8 T.string t26 h11) fun t27 h12 =>
enterK C F.law_comes [t27, (.string (mk []))] h12 fun t28 h13 =>
bothK (bldL T.api_Change [(.string (mk [])), (.bool false), (.bool false), (.string (mk [])), (.string (mk []))] 1 [(0, t28)] h13) fun t29 h14 =>
bothK (app T.api_Change 5 56 (get tT 3) (srcS 5 t29 h14) h14) fun t30 h15 =>
k6 .normal [(0, (get tT 0)), (3, t30), (4, (get tT 4))] h15) (seqK (fun tT_1 h16 =>
bareK (xbin P .add T.int (.tmp 18) (.const (.int .i64 1)) (get tT_1 4) (.int .i64 1)) h16 fun t19 h17 =>
k .normal [(0, (get tT_1 0)), (3, (get tT_1 3)), (4, t19)] h17) (afterK [0, 3, 4] k))) (afterK [0, 3, 4] k))

theorem s_law_DeltaMany_eq (M : CombL) (C : CallF) (LP : LoopH) (a0 : Value) (H : AHeap) : dBodyL M Try.prog hints C LP F.law_DeltaMany [a0] H = s_law_DeltaMany M.b.g M.c M.s Try.prog C (fun v0 v3 v4 H k => loopL M Try.prog hints C LP F.law_DeltaMany 0 [(0, v0), (3, v3), (4, v4)] H k) a0 H (endK Try.prog [.tmp 2]) := by kernel_rfl

theorem s_law_DeltaMany_b0_eq (M : CombL) (C : CallF) (LP : LoopH) (v0 : Value) (v3 : Value) (v4 : Value) (H : AHeap) (k : K) : bodyL M Try.prog hints C LP F.law_DeltaMany 0 [(0, v0), (3, v3), (4, v4)] H (afterK [0, 3, 4] k) = s_law_DeltaMany_b0 M.b.g M.c M.s Try.prog C (fun v0 v3 v4 H k => loopL M Try.prog hints C LP F.law_DeltaMany 0 [(0, v0), (3, v3), (4, v4)] H k) v0 v3 v4 H k := by kernel_rfl

end Go.Proofs.Ytlbieadnfgfhlaa

/-
  The equations of the seat's functions over calls in the limit (a program of ours printed it).
  Conditions: none. By an AI agent.
-/
set_option linter.unusedVariables false
namespace Go.Proofs.Ytlbieadnfgfhlaa
open Go Eng

theorem u_uint8 : Try.prog.underlying T.uint8 = Try.prog.underlying 5 := rfl
theorem u_sl_uint8 : Try.prog.underlying T.sl_uint8 = Try.prog.underlying 36 := rfl
@[go_sem] theorem x_int_uint8 {n : Int} {H : AHeap} : xconv Try.prog T.int T.uint8 (.int .i64 n) H = some (.int .u8 (IntKind.wrap .u8 n), H) := xconv_int (P := Try.prog) (s := 3) (t := 5) Try.underlying3 Try.underlying5

noncomputable def l_law_DeltaMany_0 (v0 : Value) (v3 : Value) (v4 : Value) (H : AHeap) (k : K) : Res := loopL stdL Try.prog hints CC limLP F.law_DeltaMany 0 [(0, v0), (3, v3), (4, v4)] H k
theorem r_law_DeltaMany_0 (v0 : Value) (v3 : Value) (v4 : Value) (H : AHeap) (k : K) : l_law_DeltaMany_0 v0 v3 v4 H k = s_law_DeltaMany_b0 guardK condL shareL Try.prog CC l_law_DeltaMany_0 v0 v3 v4 H (seqK (fun T H => l_law_DeltaMany_0 (get T 0) (get T 3) (get T 4) H k) k) := ((loopL_next (by kernel_rfl) rfl H k).trans (s_law_DeltaMany_b0_eq stdL CC limLP v0 v3 v4 H _)).trans (by kernel_rfl)
theorem d_law_DeltaMany (a0 : Value) (H : AHeap) {r : Value × AHeap} (h : s_law_DeltaMany guardK condL shareL Try.prog CC l_law_DeltaMany_0 a0 H (endK Try.prog [.tmp 2]) = some r) : CC F.law_DeltaMany [a0] H = some (tidy H r) := D_body (by kernel_rfl) ((s_law_DeltaMany_eq stdL CC limLP a0 H).trans (Eq.trans (show s_law_DeltaMany stdL.b.g stdL.c stdL.s Try.prog CC (fun v0 v3 v4 H k => loopL stdL Try.prog hints CC limLP F.law_DeltaMany 0 [(0, v0), (3, v3), (4, v4)] H k) a0 H (endK Try.prog [.tmp 2]) = s_law_DeltaMany guardK condL shareL Try.prog CC l_law_DeltaMany_0 a0 H (endK Try.prog [.tmp 2]) by kernel_rfl) h))

end Go.Proofs.Ytlbieadnfgfhlaa

/-
  Chapter 49: the law DeltaMany runs to true.
  Conditions: none. By an AI agent.
-/
set_option maxRecDepth 10000
set_option linter.unusedSimpArgs false
set_option linter.unusedVariables false
namespace Go.Proofs.Ytlbieadnfgfhlaa
open Go Eng

@[go_sem] theorem int_quoN {t : TypeId} {ox oy : Operand} {q : IntKind} {a : Nat} {b : Int} (h : 0 < b) : xbin Try.prog .quo t ox oy (.int q (a : Int)) (.int q b) = some (.int q (q.wrap ((a / b.toNat : Nat) : Int))) := by
  have hb : b ≠ 0 := by omega
  have e : ((a : Int).tdiv b) = ((a / b.toNat : Nat) : Int) := by
    obtain ⟨m, rfl⟩ : ∃ m : Nat, b = (m : Int) := ⟨b.toNat, by omega⟩
    rw [← Int.ofNat_tdiv]; rfl
  refine xbin_gr ?_ rfl
  simp [eqGuard, binOp, Op.intDiv, Bind.bind, Sem.bind, Pure.pure, pv, hb, e]

/-! ### The keys -/
def key3 (i : Nat) : ByteArray := mk [1, UInt8.ofNat (i / 256), UInt8.ofNat (i % 256)]
def cg3 (i : Nat) : Cg := ⟨key3 i, false, true, mk [], mk []⟩
theorem key3_len (i : Nat) : (bl (key3 i)).length = 3 := by
  show (bl (mk _)).length = 3
  rw [bl_mk]; rfl
theorem ofNat_lt {a b : Nat} (ha : a < 256) (hb : b < 256) : UInt8.ofNat a < UInt8.ofNat b ↔ a < b := by
  rw [u8_lt, UInt8.toNat_ofNat', UInt8.toNat_ofNat', Nat.mod_eq_of_lt (by omega), Nat.mod_eq_of_lt (by omega)]
theorem key3_lt {i j : Nat} (h : i < j) (hj : j < 65536) : cmpS (key3 i) (key3 j) < 0 := by
  show Lib.compareBytes (bl (mk _)) (bl (mk _)) < 0
  rw [bl_mk, bl_mk]
  have h1 : ¬ (1 : UInt8) < 1 := by decide
  simp only [Lib.compareBytes, h1, if_false]
  have e1 := ofNat_lt (a := i / 256) (b := j / 256) (by omega) (by omega)
  have e2 := ofNat_lt (a := j / 256) (b := i / 256) (by omega) (by omega)
  have e3 := ofNat_lt (a := i % 256) (b := j % 256) (by omega) (by omega)
  have e4 := ofNat_lt (a := j % 256) (b := i % 256) (by omega) (by omega)
  simp only [e1, e2, e3, e4]
  repeat' split
  all_goals omega
theorem chk3 (i : Nat) (v : List ByteArray) (hv : ∀ a ∈ v, (bl a).length ≤ 40) : chk (key3 i) v = 0 := chk_ok (by rw [key3_len]; omega) (by rw [key3_len]; omega) hv
def many (n : Nat) : List Cg := (List.range n).map cg3
theorem many_len (n : Nat) : (many n).length = n := by simp [many]
theorem many_srt {n : Nat} (h : n ≤ 65536) : SrtC (many n) := by
  refine List.pairwise_map.2 ?_
  refine List.Pairwise.imp_of_mem ?_ List.pairwise_lt_range
  intro a b _ hb hab
  exact key3_lt hab (by have := List.mem_range.1 hb; omega)
theorem base3 (i : Nat) : baseC (cg3 i) = true := by
  have h : chk (key3 i) [mk []] = 0 := chk3 i _ (by intro a ha; rw [List.mem_singleton.1 ha, bl_mk]; simp)
  unfold baseC
  show (decide (chk (key3 i) [mk []] = 0) && (decide (chk (key3 i) [mk []] = 0) && ((false || decide (bl (mk []) = [])) && ((true || decide (bl (mk []) = [])) && !noneC (cg3 i))))) = true
  rw [decide_eq_true h, bl_mk]
  rfl
theorem many_base (n : Nat) : ∀ c ∈ many n, baseC c = true := fun c hc => by
  obtain ⟨i, _, rfl⟩ := List.mem_map.1 hc
  exact base3 i
theorem many_ok {n : Nat} (h : n ≤ 65536) : okL none (many n) = true := okL_of none (many_base n) (many_srt h) fun p hp => by cases hp
theorem many_valid {n : Nat} (h : n ≤ 65536) : validC (many n) = decide (n ≤ 20000) := by
  unfold validC
  rw [many_ok h, many_len, Bool.and_true]

/-! ### The list -/
theorem q_comes (k v : ByteArray) (H : AHeap) : CC F.law_comes [.string k, .string v] H = some (cgV ⟨k, false, true, mk [], v⟩, H) := by
  apply pure_of _ (d_law_comes _ _ H) rfl
  rotate_left 2
  · simp (disch := first | with_reducible rfl | assumption | omega | rfl | (simp only [go_sem]; first | done | omega)) only [go_sem, ↓reduceIte, reduceCtorEq, Nat.reduceEqDiff, Nat.reduceAdd, Nat.reduceSub, Nat.reduceMul, Nat.reduceDiv, Nat.reduceMod, Nat.reduceLeDiff, Nat.reduceLT, Nat.reduceBEq, Int.reduceEq, Int.reduceBEq, Int.reduceBNe, Int.reduceLT, Int.reduceLE, Int.reduceAdd, Int.reduceSub, Int.reduceNeg, Int.reduceToNat, Int.reducePow, Nat.reducePow, Int.reduceMul, Int.reduceDiv, ↓s_law_comes]
    rfl
  · (repeat (first | exact Fr.refl _ | refine Fr.push ?_ _ | refine Fr.set ?_ _ _ (by intro h; first | omega | (simp only [go_sem] at h; omega))))
theorem conv3 {b c : Nat} {H : AHeap} : xconv Try.prog T.sl_uint8 T.string (.slice (some ⟨b, 0, none⟩) 3 c) H = (cutB (H.f b) 0 3).bind fun l => (bytesOf l).map fun s => (.string (mk s), H) := by kernel_rfl
theorem wrap8 (i : Nat) : IntKind.wrap .u8 (i : Int) = ((i % 256 : Nat) : Int) := by
  simp [IntKind.wrap, IntKind.signed, IntKind.bits]
theorem l_many (n : Nat) (hn : n ≤ 20002) (Hz : AHeap) : ∀ (d i : Nat) (H : AHeap) (o : Value), n - i = d → i ≤ n → Still Hz H → Own ECg H T.api_Change o (many i) → (∀ c, blockOf o = some c → Hz.n ≤ c) → ∃ o' H', Still Hz H' ∧ Own ECg H' T.api_Change o' (many n) ∧ (∀ c, blockOf o' = some c → Hz.n ≤ c) ∧
    ∀ K : K, l_law_DeltaMany_0 (.int .i64 (n : Int)) o (.int .i64 (i : Int)) H (blkK [0, 3] 0 K) = K .normal [(0, .int .i64 (n : Int)), (3, o')] H'
  | 0, i, H, o, hd, hi, hs, ho, hob => by
    have e : i = n := by omega
    subst e
    have hlt : ¬ (i : Int) < (i : Int) := by omega
    refine ⟨o, H, hs, ho, hob, fun K => ?_⟩
    rw [r_law_DeltaMany_0]
    simp (disch := first | with_reducible rfl | assumption | omega | rfl | (simp only [go_sem]; first | done | omega)) only [go_sem, ↓reduceIte, reduceCtorEq, Nat.reduceEqDiff, Nat.reduceAdd, Nat.reduceSub, Nat.reduceMul, Nat.reduceDiv, Nat.reduceMod, Nat.reduceLeDiff, Nat.reduceLT, Nat.reduceBEq, Int.reduceEq, Int.reduceBEq, Int.reduceBNe, Int.reduceLT, Int.reduceLE, Int.reduceAdd, Int.reduceSub, Int.reduceNeg, Int.reduceToNat, Int.reducePow, Nat.reducePow, Int.reduceMul, Int.reduceDiv, ↓s_law_DeltaMany_b0, hlt]
  | d + 1, i, H, o, hd, hi, hs, ho, hob => by
    have hlt : (i : Int) < (n : Int) := by omega
    generalize hH1 : H.push (.cells [.int .u8 1, .int .u8 ((i / 256 : Nat) : Int), .int .u8 ((i % 256 : Nat) : Int)] T.uint8 true) = H1
    have s1 : Still H H1 := by rw [← hH1]; exact (Fr.refl H).push _
    have n1 : H1.n = H.n + 1 := by rw [← hH1]; rfl
    have f1 : H1.f H.n = .cells [.int .u8 1, .int .u8 ((i / 256 : Nat) : Int), .int .u8 ((i % 256 : Nat) : Int)] T.uint8 true := by rw [← hH1]; exact push_f_eq rfl
    have hcut : cutB (H1.f H.n) 0 3 = some [.int .u8 1, .int .u8 ((i / 256 : Nat) : Int), .int .u8 ((i % 256 : Nat) : Int)] := by rw [f1]; rfl
    have hby : bytesOf [.int .u8 1, .int .u8 ((i / 256 : Nat) : Int), .int .u8 ((i % 256 : Nat) : Int)] = some [1, UInt8.ofNat (i / 256), UInt8.ofNat (i % 256)] := rfl
    have hcomes := q_comes (key3 i) (mk []) H1
    have hcomes : CC F.law_comes [.string (mk [1, UInt8.ofNat (i / 256), UInt8.ofNat (i % 256)]), .string (mk [])] H1 = some (.agg #[.string (key3 i), .bool false, .bool true, .string (mk []), .string (mk [])], H1) := hcomes
    generalize hH2 : H1.push (.cells [.string (key3 i), .bool false, .bool true, .string (mk []), .string (mk [])] T.api_Change true) = H2
    have s2 : Still H1 H2 := by rw [← hH2]; exact (Fr.refl H1).push _
    have n2 : H2.n = H1.n + 1 := by rw [← hH2]; rfl
    have hlit := litC (cg3 i) H1
    rw [show H1.push (.cells [.string (cg3 i).key, .bool (cg3 i).was, .bool (cg3 i).is, .string (cg3 i).before, .string (cg3 i).after] T.api_Change true) = H2 from hH2] at hlit
    have n0 : Hz.n ≤ H.n := hs.n
    obtain ⟨o', H3, happ, ho2, fr2, hb2⟩ := ((ho.still s1).still s2).appE (m := [cg3 i]) (sz := 5) (bytes := 56) rfl (by rw [many_len]; simp; omega) (by rw [many_len]; simp; omega) (hlit.src (sz := 5) rfl)
    rw [show many i ++ [cg3 i] = many (i + 1) by simp [many, List.range_succ]] at ho2
    have hob' : ∀ d, blockOf o' = some d → Hz.n ≤ d := fun d hd => by
      rcases hb2 with hb | hb
      · rw [hb] at hd; exact hob d hd
      · rw [hb] at hd; cases hd; omega
    have s3 : Still Hz H3 := ((hs.then s1 fun _ _ h => h).still.then s2 fun _ _ h => h).still.then fr2 fun d hd h => by have := hob d h; omega
    obtain ⟨o'', H', q1, q2, q3, ih⟩ := l_many n hn Hz d (i + 1) H3 o' (by omega) (by omega) s3 ho2 hob'
    refine ⟨o'', H', q1, q2, q3, fun K => ?_⟩
    have ih := ih K
    rw [Int.natCast_add] at ih
    have h256 : (0 : Int) < 256 := by decide
    have ht : (256 : Int).toNat = 256 := rfl
    have hw1 : IntKind.wrap .i64 ((i / 256 : Nat) : Int) = ((i / 256 : Nat) : Int) := wrap_i64 (by omega)
    have hw2 : IntKind.wrap .u8 ((i / 256 : Nat) : Int) = ((i / 256 : Nat) : Int) := wrap_u8 (by omega)
    have hw3 := wrap8 i
    rw [r_law_DeltaMany_0]
    simp (disch := first | with_reducible rfl | assumption | omega | rfl | (simp only [go_sem]; first | done | omega)) only [go_sem, ↓reduceIte, reduceCtorEq, Nat.reduceEqDiff, Nat.reduceAdd, Nat.reduceSub, Nat.reduceMul, Nat.reduceDiv, Nat.reduceMod, Nat.reduceLeDiff, Nat.reduceLT, Nat.reduceBEq, Int.reduceEq, Int.reduceBEq, Int.reduceBNe, Int.reduceLT, Int.reduceLE, Int.reduceAdd, Int.reduceSub, Int.reduceNeg, Int.reduceToNat, Int.reducePow, Nat.reducePow, Int.reduceMul, Int.reduceDiv, ↓s_law_DeltaMany_b0, hlt, int_quoN h256, ht, hw1, hw2, hw3, hH1, conv3, hcut, hby, enterK_eq hcomes, hH2, happ]
    exact ih

/-! ### In plain words -/
theorem len_put_new {m : List Pr} (f : Fine m) {p : Pr} (hk : chk p.key [p.value] = 0) (hl : m.length < 20000) (hn : val m p.key = none) : (putE m p).2.length = m.length + 1 := by
  have hi := notP_val f.srt hn
  unfold putE putP
  rw [if_pos hk]
  simp only [hi, Bool.false_eq_true, if_false]
  rw [if_neg (by omega)]
  have := posP_le m p.key
  simp
  omega
theorem len_putAll : ∀ {l : List Cg} {m : List Pr}, Fine m → SrtC l → (∀ c ∈ l, baseC c = true) → (∀ c ∈ l, c.is = true) → m.length + l.length ≤ 20000 → (∀ c ∈ l, val m c.key = none) → (putAll m l).length = m.length + l.length
  | [], m, f, hs, hb, hi, hl, hn => rfl
  | c :: l, m, f, hs, hb, hi, hl, hn => by
    obtain ⟨h1, h2⟩ := List.pairwise_cons.1 hs
    simp only [List.length_cons] at hl ⊢
    have hkc : chk c.key [c.after] = 0 := (base_two (hb c (by simp))).2
    show (putAll (if c.is = true then (putE m ⟨c.key, c.after⟩).2 else m) l).length = _
    rw [if_pos (hi c (by simp))]
    have e := len_put_new f (p := ⟨c.key, c.after⟩) hkc (by omega) (hn c (by simp))
    rw [len_putAll (f.put _) h2 (fun d hd => hb d (List.mem_cons_of_mem _ hd)) (fun d hd => hi d (List.mem_cons_of_mem _ hd)) (by omega) fun d hd => ?_, e]
    · omega
    · rw [val_putE f hkc (by omega), if_neg fun h => by have := h1 d hd; rw [← h] at this; simp only at this; rw [cmpS_self] at this; omega]
      exact hn d (List.mem_cons_of_mem _ hd)
theorem delAll_is : ∀ {l : List Cg} {m : List Pr}, (∀ c ∈ l, c.is = true) → delAll m l = m
  | [], m, _ => rfl
  | c :: l, m, h => by
    show delAll (if c.is = true then m else delE m c.key) l = m
    rw [if_pos (h c (by simp)), delAll_is fun d hd => h d (List.mem_cons_of_mem _ hd)]
theorem cnt_new : ∀ {l : List Cg} {n : Int}, (∀ c ∈ l, c.is = true ∧ c.was = false) → cntC l n = n + l.length
  | [], n, _ => by simp [cntC]
  | c :: l, n, h => by
    show cntC l (if c.is = true then (if c.was = true then n else n + 1) else n - 1) = _
    obtain ⟨h1, h2⟩ := h c (by simp)
    rw [if_pos h1, if_neg (by simp [h2]), cnt_new fun d hd => h d (List.mem_cons_of_mem _ hd), List.length_cons]
    omega
/-- Merging lists that have no key in common. -/
theorem mrg_apart {a b : List Cg} (ha : SrtC a) (hb : SrtC b) (h : ∀ x ∈ a, ∀ y ∈ b, ¬ x.key = y.key) : (merg a b).length = a.length + b.length ∧ (togs a b).length = a.length + b.length ∧ folS a b = true := by
  have len : ∀ (n : Nat) (a b : List Cg), a.length + b.length = n → SrtC a → SrtC b → (∀ x ∈ a, ∀ y ∈ b, ¬ x.key = y.key) → (mrg a b).length = n ∧ ∀ e ∈ mrg a b, ¬ (e.2.2.1 = true ∧ e.2.2.2 = true) := by
    intro n
    induction n using Nat.strongRecOn with
    | ind n ih =>
      intro a b hn ha hb h
      cases a with
      | nil =>
        cases b with
        | nil => simp [mrg] at hn ⊢; omega
        | cons y b =>
          obtain ⟨i1, i2⟩ := ih (b.length) (by simp at hn; omega) [] b (by simp) ha (List.pairwise_cons.1 hb).2 (fun x hx => by cases hx)
          rw [mrg]
          refine ⟨by rw [List.length_cons, i1]; simp at hn; omega, fun e he => ?_⟩
          rcases List.mem_cons.1 he with rfl | he
          · simp
          · exact i2 e he
      | cons x a =>
        obtain ⟨hx, ha'⟩ := List.pairwise_cons.1 ha
        cases b with
        | nil =>
          obtain ⟨i1, i2⟩ := ih (a.length) (by simp at hn; omega) a [] (by simp) ha' hb (fun x _ y hy => by cases hy)
          rw [mrg]
          refine ⟨by rw [List.length_cons, i1]; simp at hn; omega, fun e he => ?_⟩
          rcases List.mem_cons.1 he with rfl | he
          · simp
          · exact i2 e he
        | cons y b =>
          obtain ⟨hy, hb'⟩ := List.pairwise_cons.1 hb
          have hxy := h x (by simp) y (by simp)
          rw [mrg]
          by_cases h1 : cmpS x.key y.key < 0
          · rw [if_pos h1]
            obtain ⟨i1, i2⟩ := ih (a.length + (y :: b).length) (by simp at hn ⊢; omega) a (y :: b) rfl ha' hb (fun u hu v hv => h u (List.mem_cons_of_mem _ hu) v hv)
            refine ⟨by rw [List.length_cons, i1]; simp at hn ⊢; omega, fun e he => ?_⟩
            rcases List.mem_cons.1 he with rfl | he
            · simp
            · exact i2 e he
          · rw [if_neg h1, if_neg fun h2 => hxy (cmpS_eq.1 h2)]
            obtain ⟨i1, i2⟩ := ih ((x :: a).length + b.length) (by simp at hn ⊢; omega) (x :: a) b rfl ha hb' (fun u hu v hv => h u hu v (List.mem_cons_of_mem _ hv))
            refine ⟨by rw [List.length_cons, i1]; simp at hn ⊢; omega, fun e he => ?_⟩
            rcases List.mem_cons.1 he with rfl | he
            · simp
            · exact i2 e he
  obtain ⟨h1, h2⟩ := len _ a b rfl ha hb h
  have one : ∀ (g : Both → List Cg) (d : List Both), (∀ e ∈ d, (g e).length = 1) → (d.flatMap g).length = d.length := by
    intro g d hd
    induction d with
    | nil => rfl
    | cons e d ih => rw [List.flatMap_cons, List.length_append, hd e (by simp), ih fun e he => hd e (List.mem_cons_of_mem _ he), List.length_cons]; omega
  refine ⟨?_, ?_, ?_⟩
  · unfold merg
    rw [one, h1]
    intro e _
    unfold mergL
    split <;> rfl
  · unfold togs
    rw [one, h1]
    intro e he
    have := h2 e he
    unfold togL
    cases hb1 : e.2.2.2 with
    | false => simp
    | true =>
      cases hb2 : e.2.2.1 with
      | false => simp
      | true => exact absurd ⟨hb2, hb1⟩ this
  · unfold folS
    rw [List.all_eq_true]
    intro e he
    have := h2 e he
    unfold togF
    cases hb1 : e.2.2.2 with
    | false => simp
    | true =>
      cases hb2 : e.2.2.1 with
      | false => simp
      | true => exact absurd ⟨hb2, hb1⟩ this

end Go.Proofs.Ytlbieadnfgfhlaa

/-
  Chapter 49: the law DeltaMany runs to true, the last part.
  Conditions: none. By an AI agent.
-/
set_option maxRecDepth 10000
set_option linter.unusedSimpArgs false
set_option linter.unusedVariables false
namespace Go.Proofs.Ytlbieadnfgfhlaa
open Go Eng

@[go_sem] theorem tt_bne : (true != true) = false := by rfl
@[go_sem] theorem ff_bne : (false != false) = false := by rfl
@[go_sem] theorem tt_beq : (true == true) = true := by rfl
@[go_sem] theorem ff_beq : (false == false) = true := by rfl

def zz2 : List Pr := [⟨mk [122], mk []⟩, ⟨mk [122, 122], mk []⟩]
def moreC : List Cg := [⟨mk [97], false, true, mk [], mk []⟩, ⟨mk [98], false, true, mk [], mk []⟩, ⟨mk [99], false, true, mk [], mk []⟩]
theorem zz2_len : (fillF [] zz2).length = 2 := by kernel_rfl
theorem moreC_valid : validC moreC = true := by kernel_rfl
theorem moreC_keys : ∀ y ∈ moreC, (bl y.key).length = 1 := by
  intro y hy
  simp only [moreC, List.mem_cons, List.not_mem_nil, or_false] at hy
  rcases hy with rfl | rfl | rfl <;> (show (bl (mk _)).length = 1; rw [bl_mk]; rfl)
theorem zz2_keys (i : Nat) : val (fillF [] zz2) (key3 i) = none := by
  have h := has_fill zz2 [] Fine.nil (by
    intro p hp
    simp only [zz2, List.mem_cons, List.not_mem_nil, or_false] at hp
    rcases hp with rfl | rfl
    · exact chk_ok (by rw [bl_mk]; decide) (by rw [bl_mk]; decide) (by intro a ha; rw [List.mem_singleton.1 ha, bl_mk]; simp)
    · exact chk_ok (by rw [bl_mk]; decide) (by rw [bl_mk]; decide) (by intro a ha; rw [List.mem_singleton.1 ha, bl_mk]; simp)) (by decide) (key3 i)
  have hne : ¬ ∃ p ∈ zz2, p.key = key3 i := by
    rintro ⟨p, hp, he⟩
    have hl := key3_len i
    rw [← he] at hl
    simp only [zz2, List.mem_cons, List.not_mem_nil, or_false] at hp
    rcases hp with rfl | rfl
    · rw [show (⟨mk [122], mk []⟩ : Pr).key = mk [122] from rfl, bl_mk] at hl; simp at hl
    · rw [show (⟨mk [122, 122], mk []⟩ : Pr).key = mk [122, 122] from rfl, bl_mk] at hl; simp at hl
  cases hv : val (fillF [] zz2) (key3 i) with
  | none => rfl
  | some v =>
    rw [hv] at h
    rcases h.1 rfl with h | h
    · cases h
    · exact absurd h hne
theorem zz2_fits (n : Nat) : fitsC (fillF [] zz2) (many n) = true := List.all_eq_true.2 fun c hc => by
  obtain ⟨i, _, rfl⟩ := List.mem_map.1 hc
  unfold fit1
  show (!((val (fillF [] zz2) (key3 i)).isSome != false) && decide (bl ((val (fillF [] zz2) (key3 i)).getD (mk [])) = bl (mk []))) = true
  rw [zz2_keys]
  simp
theorem many_is (n : Nat) : ∀ c ∈ many n, c.is = true ∧ c.was = false := fun c hc => by
  obtain ⟨i, _, rfl⟩ := List.mem_map.1 hc
  exact ⟨rfl, rfl⟩
theorem many_apart (n : Nat) : ∀ x ∈ many n, ∀ y ∈ moreC, ¬ x.key = y.key := fun x hx y hy he => by
  obtain ⟨i, _, rfl⟩ := List.mem_map.1 hx
  have h1 := key3_len i
  have h2 := moreC_keys y hy
  rw [← he] at h2
  rw [show (cg3 i).key = key3 i from rfl, h1] at h2
  omega

/-- A row of changes as written. -/
theorem litM (l : List Cg) (H : AHeap) (h0 : l ≠ []) : Arg (H.push (.cells (ECg.cells l) T.api_Change true)) (.slice (some ⟨H.n, 0, none⟩) l.length (2 * l.length)) l := by
  refine ⟨⟨.inr (.inr ⟨H.n, 0, 2 * l.length, rfl, h0, by simp, ?_⟩), .inr ⟨H.n, 0, 2 * l.length, rfl, by omega, .inl (by omega)⟩⟩, fun c hc => by cases hc; simp⟩
  rw [push_f_eq rfl, cutB_c (by simp), List.drop_zero, List.take_of_length_le (by simp)]
theorem litZ (H : AHeap) : Rd EPr (H.push (.cells [.string (mk [122]), .string (mk []), .string (mk [122, 122]), .string (mk [])] T.api_Pair true)) (.slice (some ⟨H.n, 0, none⟩) 2 4) zz2 := by
  refine .inr (.inr ⟨H.n, 0, 4, rfl, by simp [zz2], by simp, ?_⟩)
  rw [push_f_eq rfl]
  rfl

set_option maxHeartbeats 1600000 in
theorem q_DeltaMany (a : Int) : ∃ H', CC F.law_DeltaMany [.int .i64 a] H0 = some (.bool true, H') := by
  by_cases h1 : a < 19998
  · refine any_of (H1 := ?_) (d_law_DeltaMany _ H0 ?_)
    rotate_left 1
    · simp (maxSteps := 2000000) (disch := first | with_reducible rfl | assumption | omega | rfl | (simp only [go_sem]; first | done | omega)) only [go_sem, ↓reduceIte, reduceCtorEq, Nat.reduceEqDiff, Nat.reduceAdd, Nat.reduceSub, Nat.reduceMul, Nat.reduceDiv, Nat.reduceMod, Nat.reduceLeDiff, Nat.reduceLT, Nat.reduceBEq, Int.reduceEq, Int.reduceBEq, Int.reduceBNe, Int.reduceLT, Int.reduceLE, Int.reduceAdd, Int.reduceSub, Int.reduceNeg, Int.reduceToNat, Int.reducePow, Nat.reducePow, Int.reduceMul, Int.reduceDiv, s_law_DeltaMany, decide_eq_true h1]
      rfl
  by_cases h2 : 20002 < a
  · refine any_of (H1 := ?_) (d_law_DeltaMany _ H0 ?_)
    rotate_left 1
    · simp (maxSteps := 2000000) (disch := first | with_reducible rfl | assumption | omega | rfl | (simp only [go_sem]; first | done | omega)) only [go_sem, ↓reduceIte, reduceCtorEq, Nat.reduceEqDiff, Nat.reduceAdd, Nat.reduceSub, Nat.reduceMul, Nat.reduceDiv, Nat.reduceMod, Nat.reduceLeDiff, Nat.reduceLT, Nat.reduceBEq, Int.reduceEq, Int.reduceBEq, Int.reduceBNe, Int.reduceLT, Int.reduceLE, Int.reduceAdd, Int.reduceSub, Int.reduceNeg, Int.reduceToNat, Int.reducePow, Nat.reducePow, Int.reduceMul, Int.reduceDiv, s_law_DeltaMany, decide_eq_false h1, decide_eq_true h2]
      rfl
  obtain ⟨n, rfl⟩ : ∃ n : Nat, a = (n : Int) := ⟨a.toNat, by omega⟩
  have hn : n ≤ 20002 := by omega
  obtain ⟨o, H1, s1, o1, _, hloop⟩ := l_many n hn H0 n 0 H0 (.slice none 0 0) rfl (by omega) (Fr.refl H0) (.inl ⟨rfl, rfl⟩) (fun c hc => by cases hc)
  have ok1 : Ok H1 := H0_ok.fr s1
  have hml := many_len n
  have hval := q_Valid (many n) o H1 ok1 o1.rd (by omega)
  have hvm := many_valid (n := n) (by omega)
  by_cases h3 : 20000 < (n : Int)
  · have h3' : ¬ (n : Int) ≤ 20000 := by omega
    rw [decide_eq_false (by omega)] at hvm
    rw [hvm] at hval
    have hrev := q_reverses_no o 2 H1 (q_Reverse_bad (many n) o H1 ok1 o1.rd (by omega) hvm)
    have hmer := q_merges_no o (.slice none 0 0) 2 H1 (q_Merge_bad (many n) [] o (.slice none 0 0) H1 ok1 o1.rd (.inl ⟨rfl, rfl⟩) (by omega) (by simp) fun h => by rw [hvm] at h; cases h.1)
    refine any_of (H1 := H1) (d_law_DeltaMany _ H0 ?_)
    simp (maxSteps := 2000000) (disch := first | with_reducible rfl | assumption | omega | rfl | (simp only [go_sem]; first | done | omega)) only [go_sem, ↓reduceIte, reduceCtorEq, Nat.reduceEqDiff, Nat.reduceAdd, Nat.reduceSub, Nat.reduceMul, Nat.reduceDiv, Nat.reduceMod, Nat.reduceLeDiff, Nat.reduceLT, Nat.reduceBEq, Int.reduceEq, Int.reduceBEq, Int.reduceBNe, Int.reduceLT, Int.reduceLE, Int.reduceAdd, Int.reduceSub, Int.reduceNeg, Int.reduceToNat, Int.reducePow, Nat.reducePow, Int.reduceMul, Int.reduceDiv, s_law_DeltaMany, decide_eq_false h1, decide_eq_false h2]
    refine (hloop _).trans ?_
    simp (disch := first | with_reducible rfl | assumption | omega | rfl | (simp only [go_sem]; first | done | omega)) only [go_sem, ↓reduceIte, reduceCtorEq, Nat.reduceEqDiff, Nat.reduceAdd, Nat.reduceSub, Nat.reduceMul, Nat.reduceDiv, Nat.reduceMod, Nat.reduceLeDiff, Nat.reduceLT, Nat.reduceBEq, Int.reduceEq, Int.reduceBEq, Int.reduceBNe, Int.reduceLT, Int.reduceLE, Int.reduceAdd, Int.reduceSub, Int.reduceNeg, Int.reduceToNat, Int.reducePow, Nat.reducePow, Int.reduceMul, Int.reduceDiv, enterK_eq hval, decide_eq_false h3', decide_eq_true h3, enterK_eq hrev, enterK_eq hmer]
  have h3' : (n : Int) ≤ 20000 := by omega
  rw [decide_eq_true (by omega)] at hvm
  rw [hvm] at hval
  generalize hH2 : H1.push (.cells [.string (mk [122]), .string (mk []), .string (mk [122, 122]), .string (mk [])] T.api_Pair true) = H2
  have s2 : Still H1 H2 := by rw [← hH2]; exact (Fr.refl H1).push _
  have hz := litZ H1
  rw [hH2] at hz
  have ok2 := ok1.fr s2
  obtain ⟨H3, hfill, t3⟩ := q_filled zz2 _ H2 ok2 hz (by decide)
  have hm0 := zz2_len
  have hk0 := zz2_keys
  have hf0 := zz2_fits n
  generalize fillF [] zz2 = m0 at *
  have hca := q_comes (mk [97]) (mk []) H3
  have hcb := q_comes (mk [98]) (mk []) H3
  have hcc := q_comes (mk [99]) (mk []) H3
  have hca : CC F.law_comes [.string (mk [97]), .string (mk [])] H3 = some (.agg #[.string (mk [97]), .bool false, .bool true, .string (mk []), .string (mk [])], H3) := hca
  have hcb : CC F.law_comes [.string (mk [98]), .string (mk [])] H3 = some (.agg #[.string (mk [98]), .bool false, .bool true, .string (mk []), .string (mk [])], H3) := hcb
  have hcc : CC F.law_comes [.string (mk [99]), .string (mk [])] H3 = some (.agg #[.string (mk [99]), .bool false, .bool true, .string (mk []), .string (mk [])], H3) := hcc
  have am := litM moreC H3 (by simp [moreC])
  generalize hH4 : H3.push (.cells [.string (mk [97]), .bool false, .bool true, .string (mk []), .string (mk []), .string (mk [98]), .bool false, .bool true, .string (mk []), .string (mk []), .string (mk [99]), .bool false, .bool true, .string (mk []), .string (mk [])] T.api_Change true) = H4
  rw [show H3.push (.cells (ECg.cells moreC) T.api_Change true) = H4 from hH4] at am
  have am : Arg H4 (.slice (some ⟨H3.n, 0, none⟩) 3 6) moreC := am
  have s4 : Still H3 H4 := by rw [← hH4]; exact (Fr.refl H3).push _
  have s14 : Still H1 H4 := (s2.still.then t3.base fun _ _ h => h).still.then s4 fun _ _ h => h
  have ok4 := t3.ok.fr s4
  have o4 := o1.still s14
  have al := Arg.of o4
  obtain ⟨e1, e2, e3⟩ := mrg_apart (many_srt (n := n) (by omega)) (valid_all moreC_valid).2.2 (many_apart n)
  have hmc : moreC.length = 3 := rfl
  have hmer := q_merges_no o _ 5 H4 ((q_Merge (many n) moreC o _ H4 ok4 al am hvm moreC_valid).1 (by omega))
  have htog := q_togethers_no o _ 5 H4 ((q_Together (many n) moreC o _ H4 ok4 al am hvm moreC_valid).2.1 e3 (by omega))
  have t4 := t3.still s4
  have hcnt := cnt_new (l := many n) (n := (m0.length : Int)) (many_is n)
  rw [hml] at hcnt
  have p3 : 20000 < (n : Int) + 3 := by omega
  have hfill : CC F.law_filled [.slice (some ⟨H1.n, 0, none⟩) 2 4] H2 = some (.pointer (some ⟨H2.n, 0, none⟩), H3) := hfill
  by_cases h4 : 20000 < (n : Int) + 2
  · have hap := q_Apply_full H2.n m0 (many n) o H4 ok4 o4.rd t4.m t4.fine hvm hf0 (by omega)
    have hlen := q_Len H2.n m0 H4 t4.m
    have hl2 : (m0.length : Int) = 2 := by omega
    rw [hl2] at hlen
    refine any_of (H1 := H4) (d_law_DeltaMany _ H0 ?_)
    simp (maxSteps := 2000000) (disch := first | with_reducible rfl | assumption | omega | rfl | (simp only [go_sem]; first | done | omega)) only [go_sem, ↓reduceIte, reduceCtorEq, Nat.reduceEqDiff, Nat.reduceAdd, Nat.reduceSub, Nat.reduceMul, Nat.reduceDiv, Nat.reduceMod, Nat.reduceLeDiff, Nat.reduceLT, Nat.reduceBEq, Int.reduceEq, Int.reduceBEq, Int.reduceBNe, Int.reduceLT, Int.reduceLE, Int.reduceAdd, Int.reduceSub, Int.reduceNeg, Int.reduceToNat, Int.reducePow, Nat.reducePow, Int.reduceMul, Int.reduceDiv, s_law_DeltaMany, decide_eq_false h1, decide_eq_false h2]
    refine (hloop _).trans ?_
    simp (maxSteps := 2000000) (disch := first | with_reducible rfl | assumption | omega | rfl | (simp only [go_sem]; first | done | omega)) only [go_sem, ↓reduceIte, reduceCtorEq, Nat.reduceEqDiff, Nat.reduceAdd, Nat.reduceSub, Nat.reduceMul, Nat.reduceDiv, Nat.reduceMod, Nat.reduceLeDiff, Nat.reduceLT, Nat.reduceBEq, Int.reduceEq, Int.reduceBEq, Int.reduceBNe, Int.reduceLT, Int.reduceLE, Int.reduceAdd, Int.reduceSub, Int.reduceNeg, Int.reduceToNat, Int.reducePow, Nat.reducePow, Int.reduceMul, Int.reduceDiv, enterK_eq hval, decide_eq_true h3', decide_eq_false h3, hH2, enterK_eq hfill, decide_eq_true h4, enterK_eq hca, enterK_eq hcb, enterK_eq hcc, hH4, decide_eq_true p3, enterK_eq hmer, enterK_eq htog]
    simp (disch := first | with_reducible rfl | assumption | omega | rfl | (simp only [go_sem]; first | done | omega)) only [go_sem, ↓reduceIte, reduceCtorEq, Nat.reduceEqDiff, Nat.reduceAdd, Nat.reduceSub, Nat.reduceMul, Nat.reduceDiv, Nat.reduceMod, Nat.reduceLeDiff, Nat.reduceLT, Nat.reduceBEq, Int.reduceEq, Int.reduceBEq, Int.reduceBNe, Int.reduceLT, Int.reduceLE, Int.reduceAdd, Int.reduceSub, Int.reduceNeg, Int.reduceToNat, Int.reducePow, Nat.reducePow, Int.reduceMul, Int.reduceDiv, enterK_eq hap, enterK_eq hlen]
  · obtain ⟨H5, hap, m5, f5, u5⟩ := q_Apply H2.n m0 (many n) o H4 ok4 o4.rd (fun c hc => ⟨o4.blk hc, fun h => by have h1 := t4.lo c h; have h2 := o1.blk hc; have := s2.n; omega⟩) t4.m t4.fine hvm hf0 (by omega)
    have hal : (applyF m0 (many n)).length = 2 + n := by
      unfold applyF
      rw [delAll_is fun c hc => (many_is n c hc).1, len_putAll t4.fine (many_srt (by omega)) (many_base n) (fun c hc => (many_is n c hc).1) (by omega) fun c hc => ?_]
      · omega
      · obtain ⟨i, _, rfl⟩ := List.mem_map.1 hc
        exact hk0 i
    have hlen := q_Len H2.n _ H5 m5
    rw [hal] at hlen
    have hl2 : (2 : Int) < ((2 + n : Nat) : Int) := by omega
    generalize ((2 + n : Nat) : Int) = z at hlen hl2
    refine any_of (H1 := H5) (d_law_DeltaMany _ H0 ?_)
    simp (maxSteps := 2000000) (disch := first | with_reducible rfl | assumption | omega | rfl | (simp only [go_sem]; first | done | omega)) only [go_sem, ↓reduceIte, reduceCtorEq, Nat.reduceEqDiff, Nat.reduceAdd, Nat.reduceSub, Nat.reduceMul, Nat.reduceDiv, Nat.reduceMod, Nat.reduceLeDiff, Nat.reduceLT, Nat.reduceBEq, Int.reduceEq, Int.reduceBEq, Int.reduceBNe, Int.reduceLT, Int.reduceLE, Int.reduceAdd, Int.reduceSub, Int.reduceNeg, Int.reduceToNat, Int.reducePow, Nat.reducePow, Int.reduceMul, Int.reduceDiv, s_law_DeltaMany, decide_eq_false h1, decide_eq_false h2]
    refine (hloop _).trans ?_
    simp (maxSteps := 2000000) (disch := first | with_reducible rfl | assumption | omega | rfl | (simp only [go_sem]; first | done | omega)) only [go_sem, ↓reduceIte, reduceCtorEq, Nat.reduceEqDiff, Nat.reduceAdd, Nat.reduceSub, Nat.reduceMul, Nat.reduceDiv, Nat.reduceMod, Nat.reduceLeDiff, Nat.reduceLT, Nat.reduceBEq, Int.reduceEq, Int.reduceBEq, Int.reduceBNe, Int.reduceLT, Int.reduceLE, Int.reduceAdd, Int.reduceSub, Int.reduceNeg, Int.reduceToNat, Int.reducePow, Nat.reducePow, Int.reduceMul, Int.reduceDiv, enterK_eq hval, decide_eq_true h3', decide_eq_false h3, hH2, enterK_eq hfill, decide_eq_false h4, enterK_eq hca, enterK_eq hcb, enterK_eq hcc, hH4, decide_eq_true p3, enterK_eq hmer, enterK_eq htog]
    simp (disch := first | with_reducible rfl | assumption | omega | rfl | (simp only [go_sem]; first | done | omega)) only [go_sem, ↓reduceIte, reduceCtorEq, Nat.reduceEqDiff, Nat.reduceAdd, Nat.reduceSub, Nat.reduceMul, Nat.reduceDiv, Nat.reduceMod, Nat.reduceLeDiff, Nat.reduceLT, Nat.reduceBEq, Int.reduceEq, Int.reduceBEq, Int.reduceBNe, Int.reduceLT, Int.reduceLE, Int.reduceAdd, Int.reduceSub, Int.reduceNeg, Int.reduceToNat, Int.reducePow, Nat.reducePow, Int.reduceMul, Int.reduceDiv, enterK_eq hap, enterK_eq hlen, decide_eq_true hl2]

theorem run_DeltaMany (a : Int) (_ : (Lit.int .i64 a).wf = true) : ∃ k H', dCall Try.prog prims1 hints k F.law_DeltaMany [.int .i64 a] H0 = some (.bool true, H') := by
  obtain ⟨H', h⟩ := q_DeltaMany a
  obtain ⟨k, h⟩ := D_run h
  exact ⟨k, _, h⟩

end Go.Proofs.Ytlbieadnfgfhlaa

/-
  The law DeltaMany: for every input it returns true, and its input reads as it did.
  Conditions: none. By an AI agent.
-/
namespace Go.Proofs.Ytlbieadnfgfhlaa.deltaMany
open Go.ChangeShapes Go.WideShapes Go.ChangeAt Go.RowKit
open Go.ChangeMaps (open_string shut_string)
set_option linter.unusedVariables false
theorem own : ownKnob Try.prog.godebug = none := by kernel_rfl
set_option maxRecDepth 100000 in
theorem lifted (os : Os) (started : os.Started) (H : Type) (enc : TypeId × Value → H) :
    ReturnsInHanded {} Try.checked os 4 .any (Rows.deltaManySpec.pre6 enc Try.prog Try.f4 Rows.deltaManyRow.domain false) (Rows.deltaManySpec.post enc Try.prog Try.f4 false true false false) := by
  refine returnsInHanded_of_change_sized (C := Try.checked) own started (by kernel_rfl) Try.func4
    (ChangeSpec.witness6 (enc := enc) (C := Try.checked) false ⟨#[], #[.int .i64 0], []⟩ 8 (by kernel_rfl) (by kernel_rfl) (by kernel_rfl) (by kernel_rfl)) ?_
  intro W base args ds gs before hval0 hW hcnd hsz0 _
  have hsz : (DataW.weightsEach Try.prog (Try.f4.params.toList ++ Rows.deltaManySpec.plain.varTypes Try.prog) (ds ++ gs)).all (· ≤ reachBytes) = true := hsz0
  have hval : ∀ (j : Nat) t v, Try.f4.params[j]? = some t → args[j]? = some v → Value.okWide Try.prog W .any base t v := hval0
  have hW' := hW
  obtain ⟨p, q, hA0, hV, rfl, hfz, hnd⟩ := hW
  have hA : DataW.TrodAll enc Try.prog W 0 (fun _ => true) true Try.f4.params.toList args.toList ds p := hA0
  rw [Try.params4] at hA hval hsz
  obtain ⟨v0, vs0, d0, ds0, p0, q0, hargs, rfl, rfl, h0, r0⟩ := trodAll_cons hA
  obtain ⟨rfl, rfl, rfl⟩ := trodAll_nil r0
  obtain rfl : args = #[v0] := by cases args; simp_all
  obtain ⟨rfl, rfl⟩ := trodVars_none hV
  obtain ⟨a0, rfl, rfl, rfl, w0⟩ := open_int Try.underlying3 (hval 0 3 v0 rfl rfl) h0
  clear hA0 hval0 hsz0 hsz
  refine (Eng.law_calls0 (args := #[.int .i64 a0]) prims1_ok mixed rfl (run_DeltaMany a0 w0)).mono fun e W' ⟨he, bel⟩ => ?_
  subst he
  exact ⟨_, rfl, _, _, _, [], _, [], hW', trodAll_mk1 (shut_bool Try.underlying4 _), (trodAll_cons_mk (shut_int Try.underlying3 w0) trodAll_mk0), rfl, bel.frame _, fun h => by cases h⟩

theorem over : Rows.deltaManyRow.holds Try.pinned (OpenSpec.ofChange Rows.deltaManySpec) :=
  OpenClaim.holds_of_wide 4 Try.f4 rfl rfl rfl rfl rfl rfl rfl ⟨rfl, rfl, rfl, rfl, rfl⟩ rfl rfl rfl rfl rfl (by kernel_rfl) Try.func4 (by kernel_rfl)
    (of_decide_eq_true (by kernel_rfl)) (by unfold Func.isWrapper; first | (rw [if_pos (by decide +kernel)]; kernel_rfl) | (rw [if_neg (by decide +kernel)]; exact ⟨rfl, rfl⟩))
    (fun os started H enc _ => lifted os started H enc)
theorem proved : Rows.DeltaManySaid := over
#print axioms proved
end Go.Proofs.Ytlbieadnfgfhlaa.deltaMany
namespace Go.Proofs.Ytlbieadnfgfhlaa
/-- The row, under a short name, for the claim. -/
theorem deltaMany_holds : Rows.DeltaManySaid := deltaMany.proved
end Go.Proofs.Ytlbieadnfgfhlaa
