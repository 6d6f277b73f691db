/-
  4 texts in one (merge.py): ShDeltaHolds DsDeltaHolds Cq LawDeltaHolds.
  Conditions: none. By an AI agent.
-/
import Derived.Test.YtlbieadnfgfhlaaQb2
import Derived.Test.YtlbieadnfgfhlaaChecked
import Derived.KernelRfl
import Derived.Test.YtlbieadnfgfhlaaRows
import Derived.WalkKit
import Derived.ProofKit
import Derived.OpenShut
import Derived.ShutString
import Derived.ChangeOld
import Derived.Below
import Derived.SizedLaws
import Derived.ChangeArms
import Derived.Carry

/-
  The seat's functions as terms over the engine's combinators (a program of ours printed it).
  Conditions: none. By an AI agent.
-/
set_option linter.unusedVariables false
namespace Go.Proofs.Ytlbieadnfgfhlaa
open Go Eng

/-! ticketline.ticketlinelaw49.DeltaHolds -/

noncomputable def s_law_DeltaHolds (mg : GT) (mc : CT) (ms : ST) (P : Program) (C : CallF) (a0 : Value) (a1 : Value) (a2 : Value) (H : AHeap) (K0 : K) : Res :=
enterK C F.law_pairs [a0, (.int .i64 16)] H fun t22 h1 =>
bareK (xun P .not t22) h1 fun t23 h2 =>
mg t23 false (fun o1 => o1 a1 h2) h2 fun t25 h3 =>
mg t23 false (fun o2 => enterK C F.law_pairs [t25, (.int .i64 16)] h3 o2) h3 fun t26 h4 =>
mg t23 false (fun o3 => bareK (xun P .not t26) h4 o3) h4 fun t27 h5 =>
pickK t23 (.bool true) t27 fun t28 =>
mg t28 false (fun o4 => o4 a2 h5) h5 fun t30 h6 =>
mg t28 false (fun o5 => enterK C F.law_pairs [t30, (.int .i64 16)] h6 o5) h6 fun t31 h7 =>
mg t28 false (fun o6 => bareK (xun P .not t31) h7 o6) h7 fun t32 h8 =>
pickK t28 (.bool true) t32 fun t33 =>
mc t33 (fun k7 => enterK C F.law_known [] h8 fun t34 h9 =>
k7 .ret [(6, t34)] h9) (fun k7 =>
k7 .normal [(0, a0), (1, a1), (2, a2)] h8) (seqK (fun tT h10 =>
enterK C F.law_filled [(get tT 0)] h10 fun t36 h11 =>
enterK C F.law_filled [(get tT 1)] h11 fun t38 h12 =>
enterK C F.law_filled [(get tT 2)] h12 fun t40 h13 =>
enterK C F.delta_Of [t36, t38] h13 fun t44 h14 =>
bareK (xextract t44 0) h14 fun t45 h15 =>
bareK (xextract t44 1) h15 fun t46 h16 =>
enterK C F.delta_Of [t38, t40] h16 fun t50 h17 =>
bareK (xextract t50 0) h17 fun t51 h18 =>
bareK (xextract t50 1) h18 fun t52 h19 =>
enterK C F.delta_Of [t36, t40] h19 fun t56 h20 =>
bareK (xextract t56 0) h20 fun t57 h21 =>
bareK (xextract t56 1) h21 fun t58 h22 =>
enterK C F.delta_Reverse [t45] h22 fun t61 h23 =>
bareK (xextract t61 0) h23 fun t62 h24 =>
bareK (xextract t61 1) h24 fun t63 h25 =>
bareK (xbin P .neq T.api_Errno (.tmp 64) (.const (.int .i64 0)) t46 (.int .i64 0)) h25 fun t65 h26 =>
mg t65 false (fun o8 => o8 t52 h26) h26 fun t67 h27 =>
mg t65 false (fun o9 => bareK (xbin P .neq T.api_Errno (.tmp 67) (.const (.int .i64 0)) t67 (.int .i64 0)) h27 o9) h27 fun t68 h28 =>
pickK t65 (.bool true) t68 fun t69 =>
mg t69 false (fun o10 => o10 t58 h28) h28 fun t71 h29 =>
mg t69 false (fun o11 => bareK (xbin P .neq T.api_Errno (.tmp 71) (.const (.int .i64 0)) t71 (.int .i64 0)) h29 o11) h29 fun t72 h30 =>
pickK t69 (.bool true) t72 fun t73 =>
mg t73 false (fun o12 => o12 t63 h30) h30 fun t75 h31 =>
mg t73 false (fun o13 => bareK (xbin P .neq T.api_Errno (.tmp 75) (.const (.int .i64 0)) t75 (.int .i64 0)) h31 o13) h31 fun t76 h32 =>
pickK t73 (.bool true) t76 fun t77 =>
mg t77 false (fun o14 => o14 t45 h32) h32 fun t79 h33 =>
mg t77 false (fun o15 => o15 t51 h33) h33 fun t80 h34 =>
mg t77 false (fun o16 => o16 t57 h34) h34 fun t81 h35 =>
mg t77 false (fun o17 => enterK C F.law_togethers [t79, t80, t81, (.int .i64 0)] h35 o17) h35 fun t82 h36 =>
mg t77 false (fun o18 => bareK (xun P .not t82) h36 o18) h36 fun t83 h37 =>
pickK t77 (.bool true) t83 fun t84 =>
mg t84 false (fun o19 => o19 t36 h37) h37 fun t86 h38 =>
mg t84 false (fun o20 => o20 t45 h38) h38 fun t87 h39 =>
mg t84 false (fun o21 => enterK C F.delta_Fits [t86, t87] h39 o21) h39 fun t88 h40 =>
mg t84 false (fun o22 => bareK (xun P .not t88) h40 o22) h40 fun t89 h41 =>
pickK t84 (.bool true) t89 fun t90 =>
mg t90 false (fun o23 => o23 t38 h41) h41 fun t92 h42 =>
mg t90 false (fun o24 => o24 t36 h42) h42 fun t93 h43 =>
mg t90 false (fun o25 => o25 t62 h43) h43 fun t94 h44 =>
mg t90 false (fun o26 => enterK C F.law_ofs [t92, t93, t94, (.int .i64 0)] h44 o26) h44 fun t95 h45 =>
mg t90 false (fun o27 => bareK (xun P .not t95) h45 o27) h45 fun t96 h46 =>
pickK t90 (.bool true) t96 fun t97 =>
mg t97 false (fun o28 => o28 t45 h46) h46 fun t99 h47 =>
mg t97 false (fun o29 => o29 t62 h47) h47 fun t100 h48 =>
mg t97 false (fun o30 => enterK C F.law_togethers [t99, t100, (.slice none 0 0), (.int .i64 0)] h48 o30) h48 fun t101 h49 =>
mg t97 false (fun o31 => bareK (xun P .not t101) h49 o31) h49 fun t102 h50 =>
pickK t97 (.bool true) t102 fun t103 =>
mc t103 (fun k32 => k32 .ret [(6, (.bool false))] h50) (fun k32 =>
k32 .normal [(7, t36), (8, t38), (10, t45), (14, t57), (16, t62)] h50) (seqK (fun tT_1 h51 =>
enterK C F.model_Model_Copy [(get tT_1 7)] h51 fun t105 h52 =>
enterK C F.delta_Apply [t105, (get tT_1 10)] h52 fun t108 h53 =>
bareK (xbin P .neq T.api_Errno (.tmp 108) (.const (.int .i64 0)) t108 (.int .i64 0)) h53 fun t109 h54 =>
mg t109 false (fun o33 => o33 t105 h54) h54 fun t111 h55 =>
mg t109 false (fun o34 => o34 (get tT_1 8) h55) h55 fun t112 h56 =>
mg t109 false (fun o35 => enterK C F.model_Equal [t111, t112] h56 o35) h56 fun t113 h57 =>
mg t109 false (fun o36 => bareK (xun P .not t113) h57 o36) h57 fun t114 h58 =>
pickK t109 (.bool true) t114 fun t115 =>
mg t115 false (fun o37 => o37 t105 h58) h58 fun t117 h59 =>
mg t115 false (fun o38 => o38 (get tT_1 16) h59) h59 fun t118 h60 =>
mg t115 false (fun o39 => enterK C F.delta_Apply [t117, t118] h60 o39) h60 fun t119 h61 =>
mg t115 false (fun o40 => bareK (xbin P .neq T.api_Errno (.tmp 119) (.const (.int .i64 0)) t119 (.int .i64 0)) h61 o40) h61 fun t120 h62 =>
pickK t115 (.bool true) t120 fun t121 =>
mg t121 false (fun o41 => o41 t105 h62) h62 fun t123 h63 =>
mg t121 false (fun o42 => o42 (get tT_1 7) h63) h63 fun t124 h64 =>
mg t121 false (fun o43 => enterK C F.model_Equal [t123, t124] h64 o43) h64 fun t125 h65 =>
mg t121 false (fun o44 => bareK (xun P .not t125) h65 o44) h65 fun t126 h66 =>
pickK t121 (.bool true) t126 fun t127 =>
mc t127 (fun k45 => k45 .ret [(6, (.bool false))] h66) (fun k45 =>
k45 .normal [(7, (get tT_1 7)), (10, (get tT_1 10)), (14, (get tT_1 14)), (18, t105)] h66) (seqK (fun tT_2 h67 =>
enterK C F.delta_Merge [(get tT_2 10), (get tT_2 14)] h67 fun t131 h68 =>
bareK (xextract t131 0) h68 fun t132 h69 =>
bareK (xextract t131 1) h69 fun t133 h70 =>
enterK C F.delta_Merge [(get tT_2 14), (get tT_2 10)] h70 fun t137 h71 =>
bareK (xextract t137 0) h71 fun t138 h72 =>
bareK (xextract t137 1) h72 fun t139 h73 =>
enterK C F.law_same [t132, t138] h73 fun t142 h74 =>
bareK (xun P .not t142) h74 fun t143 h75 =>
mg t143 false (fun o46 => o46 t133 h75) h75 fun t145 h76 =>
mg t143 false (fun o47 => o47 t139 h76) h76 fun t146 h77 =>
mg t143 false (fun o48 => bareK (xbin P .neq T.api_Errno (.tmp 145) (.tmp 146) t145 t146) h77 o48) h77 fun t147 h78 =>
pickK t143 (.bool true) t147 fun t148 =>
mg t148 false (fun o49 => o49 t133 h78) h78 fun t150 h79 =>
mg t148 false (fun o50 => bareK (xbin P .neq T.api_Errno (.tmp 150) (.const (.int .i64 0)) t150 (.int .i64 0)) h79 o50) h79 fun t151 h80 =>
mg t148 false (fun o51 => o51 t151 h80) h80 fun t152 h81 =>
mg t152 true (fun o52 => o52 t133 h81) h81 fun t153 h82 =>
mg t152 true (fun o53 => bareK (xbin P .neq T.api_Errno (.tmp 153) (.const (.int .i64 11)) t153 (.int .i64 11)) h82 o53) h82 fun t154 h83 =>
mg t148 false (fun o54 => pickK t152 t154 (.bool false) fun v => o54 v h83) h83 fun t155 h84 =>
pickK t148 (.bool true) t155 fun t156 =>
mg t156 false (fun o55 => o55 (get tT_2 10) h84) h84 fun t158 h85 =>
mg t156 false (fun o56 => o56 (get tT_2 10) h85) h85 fun t159 h86 =>
mg t156 false (fun o57 => o57 (get tT_2 10) h86) h86 fun t160 h87 =>
mg t156 false (fun o58 => enterK C F.law_merges [t158, t159, t160, (.int .i64 0)] h87 o58) h87 fun t161 h88 =>
mg t156 false (fun o59 => bareK (xun P .not t161) h88 o59) h88 fun t162 h89 =>
pickK t156 (.bool true) t162 fun t163 =>
mc t163 (fun k60 => k60 .ret [(6, (.bool false))] h89) (fun k60 =>
k60 .normal [(7, (get tT_2 7)), (11, t133), (18, (get tT_2 18)), (19, t132)] h89) (seqK (fun tT_3 h90 =>
bareK (xbin P .eql T.api_Errno (.tmp 164) (.const (.int .i64 0)) (get tT_3 11) (.int .i64 0)) h90 fun t165 h91 =>
mg t165 true (fun o61 => o61 (get tT_3 7) h91) h91 fun t167 h92 =>
mg t165 true (fun o62 => o62 (get tT_3 19) h92) h92 fun t168 h93 =>
mg t165 true (fun o63 => enterK C F.delta_Fits [t167, t168] h93 o63) h93 fun t169 h94 =>
mg t165 true (fun o64 => bareK (xun P .not t169) h94 o64) h94 fun t170 h95 =>
mg t165 true (fun o65 => o65 t170 h95) h95 fun t171 h96 =>
mg t171 false (fun o66 => o66 (get tT_3 18) h96) h96 fun t172 h97 =>
mg t171 false (fun o67 => o67 (get tT_3 19) h97) h97 fun t173 h98 =>
mg t171 false (fun o68 => enterK C F.delta_Apply [t172, t173] h98 o68) h98 fun t174 h99 =>
mg t171 false (fun o69 => bareK (xbin P .neq T.api_Errno (.tmp 174) (.const (.int .i64 0)) t174 (.int .i64 0)) h99 o69) h99 fun t175 h100 =>
mg t165 true (fun o70 => pickK t171 (.bool true) t175 fun v => o70 v h100) h100 fun t176 h101 =>
pickK t165 t176 (.bool false) fun t177 =>
mc t177 (fun k71 => k71 .ret [(6, (.bool false))] h101) (fun k71 =>
k71 .normal [] h101) (seqK (fun tT_4 h102 =>
enterK C F.law_known [] h102 fun t178 h103 =>
K0 .ret [(6, t178)] h103) K0)) K0)) K0)) K0)) K0)

theorem s_law_DeltaHolds_eq (M : CombL) (C : CallF) (LP : LoopH) (a0 : Value) (a1 : Value) (a2 : Value) (H : AHeap) : dBodyL M Try.prog hints C LP F.law_DeltaHolds [a0, a1, a2] H = s_law_DeltaHolds M.b.g M.c M.s Try.prog C a0 a1 a2 H (endK Try.prog [.tmp 6]) := by kernel_rfl

end Go.Proofs.Ytlbieadnfgfhlaa

/-
  The equations of the seat's functions over calls in the limit (a program of ours printed it).
  Conditions: none. By an AI agent.
-/
set_option linter.unusedVariables false
namespace Go.Proofs.Ytlbieadnfgfhlaa
open Go Eng



theorem d_law_DeltaHolds (a0 : Value) (a1 : Value) (a2 : Value) (H : AHeap) {r : Value × AHeap} (h : s_law_DeltaHolds guardK condL shareL Try.prog CC a0 a1 a2 H (endK Try.prog [.tmp 6]) = some r) : CC F.law_DeltaHolds [a0, a1, a2] H = some (tidy H r) := D_body (by kernel_rfl) ((s_law_DeltaHolds_eq stdL CC limLP a0 a1 a2 H).trans (Eq.trans (show s_law_DeltaHolds stdL.b.g stdL.c stdL.s Try.prog CC a0 a1 a2 H (endK Try.prog [.tmp 6]) = s_law_DeltaHolds guardK condL shareL Try.prog CC a0 a1 a2 H (endK Try.prog [.tmp 6]) by kernel_rfl) h))

end Go.Proofs.Ytlbieadnfgfhlaa

/-
  Chapter 49: the law DeltaHolds runs to true.
  Conditions: none. By an AI agent.
-/
set_option maxRecDepth 10000
set_option linter.unusedSimpArgs false
set_option linter.unusedVariables false
namespace Go.Proofs.Ytlbieadnfgfhlaa
open Go Eng

theorem delta_len (a b : List Pr) : (deltaOf a b).length ≤ a.length + b.length := by
  have h1 := len_flat ofL_len (mrg (a.map ofC) (b.map ofC))
  have h2 := mrg_len _ (a.map ofC) (b.map ofC) rfl
  simp only [List.length_map] at h2
  show ((mrg (a.map ofC) (b.map ofC)).flatMap ofL).length ≤ _
  omega
theorem merg_len (a b : List Cg) : (merg a b).length ≤ a.length + b.length := by
  have h1 := len_flat mergL_len (mrg a b)
  have h2 := mrg_len _ a b rfl
  show ((mrg a b).flatMap mergL).length ≤ _
  omega
theorem delta_valid {x y : List Pr} (hx : Fine x) (hy : Fine y) (hl : x.length + y.length ≤ 20000) : validC (deltaOf x y) = true := by
  have := delta_len x y
  unfold validC
  rw [decide_eq_true (by omega), Bool.true_and]
  exact delta_ok hx hy
theorem merg_valid {a b : List Cg} (ha : validC a = true) (hb : validC b = true) (hl : (merg a b).length ≤ 20000) : validC (merg a b) = true := by
  obtain ⟨_, a2, a3⟩ := valid_all ha
  obtain ⟨_, b2, b3⟩ := valid_all hb
  unfold validC
  rw [decide_eq_true hl, Bool.true_and]
  exact okL_of none (fun c hc => (merg_mem a3 b3 hc).elim (a2 c) (b2 c)) (merg_srt a3 b3) fun p hp => by cases hp

/-- All that is called, first part. -/
theorem q_Holds_a (a b c : List Pr) (va vb vc : Value) (H : AHeap) (ok : Ok H) (ha : Rd EPr H va a) (hb : Rd EPr H vb b) (hc : Rd EPr H vc c) (hla : a.length ≤ 16) (hlb : b.length ≤ 16) (hlc : c.length ≤ 16)
    (hpa : CC F.law_pairs [va, .int .i64 16] H = some (.bool true, H)) (hpb : CC F.law_pairs [vb, .int .i64 16] H = some (.bool true, H)) (hpc : CC F.law_pairs [vc, .int .i64 16] H = some (.bool true, H))
    (hcf : confs (deltaOf (fillF [] a) (fillF [] b)) (deltaOf (fillF [] a) (fillF [] c)) = []) :
    ∃ H', CC F.law_DeltaHolds [va, vb, vc] H = some (.bool true, H') := by
  obtain ⟨H1, hf1, t1⟩ := q_filled a va H ok ha (by omega)
  obtain ⟨H2, hf2, t2⟩ := q_filled b vb H1 t1.ok (hb.still t1.base) (by omega)
  have s02 : Still H H2 := t1.base.still.then t2.base fun _ _ h => h
  obtain ⟨H3, hf3, t3⟩ := q_filled c vc H2 t2.ok (hc.still s02) (by omega)
  have l1 := fill_len a []
  have l2 := fill_len b []
  have l3 := fill_len c []
  simp only [List.length_nil, Nat.zero_add] at l1 l2 l3
  generalize fillF [] a = x at *
  generalize fillF [] b = y at *
  generalize fillF [] c = z at *
  have fx := t1.fine
  have fy := t2.fine
  have fz := t3.fine
  have x3 := (t1.m.still t2.base).still t3.base
  have y3 := t2.m.still t3.base
  have z3 := t3.m
  have dl1 := delta_len x y
  have dl2 := delta_len y z
  have dl3 := delta_len x z
  obtain ⟨v1, H4, ho1, o1, s1, _, _⟩ := q_Of H.n H1.n x y H3 t3.ok x3 y3 (by omega) (by omega)
  have ok4 := t3.ok.fr s1
  obtain ⟨v2, H5, ho2, o2, s2, _, _⟩ := q_Of H1.n H2.n y z H4 ok4 (y3.still s1) (z3.still s1) (by omega) (by omega)
  have s35 : Still H3 H5 := s1.still.then s2 fun _ _ h => h
  have ok5 := ok4.fr s2
  obtain ⟨v3, H6, ho3, o3, s3, _, _⟩ := q_Of H.n H2.n x z H5 ok5 (x3.still s35) (z3.still s35) (by omega) (by omega)
  have ok6 := ok5.fr s3
  have s46 : Still H4 H6 := s2.still.then s3 fun _ _ h => h
  have vl := delta_valid fx fy (by omega)
  have vm := delta_valid fy fz (by omega)
  have vn := delta_valid fx fz (by omega)
  have vr := delta_valid fy fx (by omega)
  have o16 := o1.still s46
  obtain ⟨v4, H7, hrev, o4, s4, _⟩ := q_Reverse (deltaOf x y) v1 H6 ok6 o16.rd (by omega) vl
  rw [rev_delta fx.srt fy.srt] at o4
  have ok7 := ok6.fr s4
  have s37 : Still H3 H7 := (s35.still.then s3 fun _ _ h => h).still.then s4 fun _ _ h => h
  have x7 := x3.still s37
  have y7 := y3.still s37
  have o17 := o16.still s4
  have o27 := (o2.still s3).still s4
  have o37 := o3.still s4
  -- together
  obtain ⟨g1, g2⟩ := togs_delta fx.srt fy.srt fz.srt
  obtain ⟨vt, Ht, ht, ot, st, _⟩ := (q_Together _ _ v1 v2 H7 ok7 (Arg.of o17) (Arg.of o27) vl vm).2.2 g2 (by rw [g1]; omega)
  rw [g1] at ot
  have htog := q_togethers v1 v2 v3 vt _ H7 Ht ht ot.rd st o37.rd (by omega)
  have hfits := q_Fits (deltaOf x y) x v1 H.n H7 ok7 o17.rd (by omega) x7 fx
  rw [vl, fits_delta fx.srt fy.srt] at hfits
  have hfits : CC F.delta_Fits [.pointer (some ⟨H.n, 0, none⟩), v1] H7 = some (.bool true, H7) := hfits
  have hofs := q_ofs H1.n H.n y x _ v4 H7 ok7 y7 x7 (by omega) (by omega) o4.rd rfl
  obtain ⟨g3, g4⟩ := togs_delta fx.srt fy.srt fx.srt
  rw [delta_self fx.srt] at g3
  obtain ⟨vu, Hu, hu, ou, su, _⟩ := (q_Together _ _ v1 v4 H7 ok7 (Arg.of o17) (Arg.of o4) vl vr).2.2 g4 (by rw [g3]; simp)
  rw [g3] at ou
  have htog2 := q_togethers v1 v4 (.slice none 0 0) vu [] H7 Hu hu ou.rd su (.inl ⟨rfl, rfl⟩) (by simp)
  -- apply there and back
  obtain ⟨bw, H8, hcp, m8, s8, hbw, hmb⟩ := q_MCopy H.n x H7 x7 (by omega)
  have ok8 := ok7.fr s8
  have t8 : MdlN H7 H8 bw x := ⟨ok8, s8, m8, hmb, fx⟩
  have dl4 := delta_len y x
  have c1 := cnt_le (deltaOf x y) (x.length : Int)
  have c2 := cnt_le (deltaOf y x) (y.length : Int)
  obtain ⟨H9, ha1, m9, f9, u9⟩ := q_Apply bw x (deltaOf x y) v1 H8 ok8 (o17.still s8).rd (fun k hk => ⟨by have := o17.blk hk; have := s8.n; omega, fun h => by have := hmb k h; have := o17.blk hk; omega⟩) m8 fx vl (fits_delta fx.srt fy.srt) (by omega)
  rw [apply_delta fx fy (by omega)] at m9 f9
  have t9 : MdlN H7 H9 bw y := t8.step m9 u9 f9
  have y9 := y7.still t9.base
  have heq1 := q_Equal bw H1.n y y H9 m9 y9 (by omega) (by omega)
  rw [decide_eq_true rfl] at heq1
  obtain ⟨H10, ha2, m10, f10, u10⟩ := q_Apply bw y (deltaOf y x) v4 H9 t9.ok (o4.still t9.base).rd (fun k hk => ⟨by have := o4.blk hk; have := t9.base.n; omega, fun h => by have := t9.lo k h; have := o4.blk hk; omega⟩) m9 fy vr (fits_delta fy.srt fx.srt) (by omega)
  rw [apply_delta fy fx (by omega)] at m10 f10
  have t10 : MdlN H7 H10 bw x := t9.step m10 u10 f10
  have x10 := x7.still t10.base
  have heq2 := q_Equal bw H.n x x H10 m10 x10 (by omega) (by omega)
  rw [decide_eq_true rfl] at heq2
  -- merging
  have al := Arg.of (o17.still t10.base)
  have an := Arg.of (o37.still t10.base)
  have sl := delta_srt fx.srt fy.srt
  have sn := delta_srt fx.srt fz.srt
  have ml1 := merg_len (deltaOf x y) (deltaOf x z)
  have ml2 := merg_len (deltaOf x z) (deltaOf x y)
  have ml3 := merg_len (deltaOf x y) (deltaOf x y)
  obtain ⟨ms1, ms2⟩ := merg_self sl
  have hcf2 : confs (deltaOf x z) (deltaOf x y) = [] := by rw [← conf_swap sl sn]; exact hcf
  obtain ⟨vp, H11, hm1, op, s11, np, bp⟩ := (q_Merge _ _ v1 v3 H10 t10.ok al an vl vn).2.2 (by omega) hcf
  have ok11 := t10.ok.fr s11
  obtain ⟨vq, H12, hm2, oq, s12, _, _⟩ := (q_Merge _ _ v3 v1 H11 ok11 (an.still s11) (al.still s11) vn vl).2.2 (by omega) hcf2
  rw [← merg_comm sl sn hcf] at oq
  have ok12 := ok11.fr s12
  have op12 := op.still s12
  have hsame := q_lsame _ vp vq H12 op12 oq (by omega)
  have s1012 : Still H10 H12 := s11.still.then s12 fun _ _ h => h
  have al12 := al.still s1012
  obtain ⟨vs, Hs, hm3, os, ss, _, _⟩ := (q_Merge _ _ v1 v1 H12 ok12 al12 al12 vl vl).2.2 (by omega) ms1
  rw [ms2] at os
  have hmer := q_merges v1 v1 v1 vs _ H12 Hs hm3 os ss al12.sb.1 (by omega)
  have vp' := merg_valid vl vn (by omega)
  have fp : fitsC x (merg (deltaOf x y) (deltaOf x z)) = true := List.all_eq_true.2 fun d hd => by
    rcases merg_mem sl sn hd with h | h
    · exact fit_mk5 (mem_delta fx.srt fy.srt h).1
    · exact fit_mk5 (mem_delta fx.srt fz.srt h).1
  have hfits2 := q_Fits _ x vp H.n H12 ok12 op12 (by omega) (x10.still s1012) fx
  rw [vp', fp] at hfits2
  have hfits2 : CC F.delta_Fits [.pointer (some ⟨H.n, 0, none⟩), vp] H12 = some (.bool true, H12) := hfits2
  have c3 := cnt_le (merg (deltaOf x y) (deltaOf x z)) (x.length : Int)
  have blkp : ∀ k, blockOf vp = some k → k < H12.n := fun k hk => Nat.lt_of_lt_of_le (bp k hk) s12.n
  obtain ⟨H13, ha3, _, _, _⟩ := q_Apply bw x (merg (deltaOf x y) (deltaOf x z)) vp H12 ok12 op12 (fun k hk => ⟨blkp k hk, fun h => by have h1 := m10.blk (MBT_still m10 s1012 h); have := np k hk; omega⟩) (m10.still s1012) fx vp' fp (by omega)
  refine any_of (H1 := H13) (d_law_DeltaHolds _ _ _ H ?_)
  simp (maxSteps := 2000000) (disch := first | with_reducible rfl | assumption | omega | rfl | (simp only [go_sem]; first | done | omega)) only [go_sem, ↓reduceIte, reduceCtorEq, Nat.reduceEqDiff, Nat.reduceAdd, Nat.reduceSub, Nat.reduceMul, Nat.reduceDiv, Nat.reduceMod, Nat.reduceLeDiff, Nat.reduceLT, Nat.reduceBEq, Int.reduceEq, Int.reduceBEq, Int.reduceBNe, Int.reduceLT, Int.reduceLE, Int.reduceAdd, Int.reduceSub, Int.reduceNeg, Int.reduceToNat, Int.reducePow, Nat.reducePow, Int.reduceMul, Int.reduceDiv, s_law_DeltaHolds, enterK_eq hpa, enterK_eq hpb, enterK_eq hpc, enterK_eq hf1, enterK_eq hf2, enterK_eq hf3, enterK_eq ho1, enterK_eq ho2, enterK_eq ho3, enterK_eq hrev]
  simp (disch := first | with_reducible rfl | assumption | omega | rfl | (simp only [go_sem]; first | done | omega)) only [go_sem, ↓reduceIte, reduceCtorEq, Nat.reduceEqDiff, Nat.reduceAdd, Nat.reduceSub, Nat.reduceMul, Nat.reduceDiv, Nat.reduceMod, Nat.reduceLeDiff, Nat.reduceLT, Nat.reduceBEq, Int.reduceEq, Int.reduceBEq, Int.reduceBNe, Int.reduceLT, Int.reduceLE, Int.reduceAdd, Int.reduceSub, Int.reduceNeg, Int.reduceToNat, Int.reducePow, Nat.reducePow, Int.reduceMul, Int.reduceDiv, enterK_eq htog, enterK_eq hfits, enterK_eq hofs, enterK_eq htog2]
  simp (disch := first | with_reducible rfl | assumption | omega | rfl | (simp only [go_sem]; first | done | omega)) only [go_sem, ↓reduceIte, reduceCtorEq, Nat.reduceEqDiff, Nat.reduceAdd, Nat.reduceSub, Nat.reduceMul, Nat.reduceDiv, Nat.reduceMod, Nat.reduceLeDiff, Nat.reduceLT, Nat.reduceBEq, Int.reduceEq, Int.reduceBEq, Int.reduceBNe, Int.reduceLT, Int.reduceLE, Int.reduceAdd, Int.reduceSub, Int.reduceNeg, Int.reduceToNat, Int.reducePow, Nat.reducePow, Int.reduceMul, Int.reduceDiv, enterK_eq hcp, enterK_eq ha1, enterK_eq heq1, enterK_eq ha2]
  simp (disch := first | with_reducible rfl | assumption | omega | rfl | (simp only [go_sem]; first | done | omega)) only [go_sem, ↓reduceIte, reduceCtorEq, Nat.reduceEqDiff, Nat.reduceAdd, Nat.reduceSub, Nat.reduceMul, Nat.reduceDiv, Nat.reduceMod, Nat.reduceLeDiff, Nat.reduceLT, Nat.reduceBEq, Int.reduceEq, Int.reduceBEq, Int.reduceBNe, Int.reduceLT, Int.reduceLE, Int.reduceAdd, Int.reduceSub, Int.reduceNeg, Int.reduceToNat, Int.reducePow, Nat.reducePow, Int.reduceMul, Int.reduceDiv, enterK_eq heq2, enterK_eq hm1, enterK_eq hm2, enterK_eq hsame]
  simp (disch := first | with_reducible rfl | assumption | omega | rfl | (simp only [go_sem]; first | done | omega)) only [go_sem, ↓reduceIte, reduceCtorEq, Nat.reduceEqDiff, Nat.reduceAdd, Nat.reduceSub, Nat.reduceMul, Nat.reduceDiv, Nat.reduceMod, Nat.reduceLeDiff, Nat.reduceLT, Nat.reduceBEq, Int.reduceEq, Int.reduceBEq, Int.reduceBNe, Int.reduceLT, Int.reduceLE, Int.reduceAdd, Int.reduceSub, Int.reduceNeg, Int.reduceToNat, Int.reducePow, Nat.reducePow, Int.reduceMul, Int.reduceDiv, enterK_eq hmer, enterK_eq hfits2, enterK_eq ha3]

/-- All that is called, first part. -/
theorem q_Holds_b (a b c : List Pr) (va vb vc : Value) (H : AHeap) (ok : Ok H) (ha : Rd EPr H va a) (hb : Rd EPr H vb b) (hc : Rd EPr H vc c) (hla : a.length ≤ 16) (hlb : b.length ≤ 16) (hlc : c.length ≤ 16)
    (hpa : CC F.law_pairs [va, .int .i64 16] H = some (.bool true, H)) (hpb : CC F.law_pairs [vb, .int .i64 16] H = some (.bool true, H)) (hpc : CC F.law_pairs [vc, .int .i64 16] H = some (.bool true, H))
    (hcf : ¬ confs (deltaOf (fillF [] a) (fillF [] b)) (deltaOf (fillF [] a) (fillF [] c)) = []) :
    ∃ H', CC F.law_DeltaHolds [va, vb, vc] H = some (.bool true, H') := by
  obtain ⟨H1, hf1, t1⟩ := q_filled a va H ok ha (by omega)
  obtain ⟨H2, hf2, t2⟩ := q_filled b vb H1 t1.ok (hb.still t1.base) (by omega)
  have s02 : Still H H2 := t1.base.still.then t2.base fun _ _ h => h
  obtain ⟨H3, hf3, t3⟩ := q_filled c vc H2 t2.ok (hc.still s02) (by omega)
  have l1 := fill_len a []
  have l2 := fill_len b []
  have l3 := fill_len c []
  simp only [List.length_nil, Nat.zero_add] at l1 l2 l3
  generalize fillF [] a = x at *
  generalize fillF [] b = y at *
  generalize fillF [] c = z at *
  have fx := t1.fine
  have fy := t2.fine
  have fz := t3.fine
  have x3 := (t1.m.still t2.base).still t3.base
  have y3 := t2.m.still t3.base
  have z3 := t3.m
  have dl1 := delta_len x y
  have dl2 := delta_len y z
  have dl3 := delta_len x z
  obtain ⟨v1, H4, ho1, o1, s1, _, _⟩ := q_Of H.n H1.n x y H3 t3.ok x3 y3 (by omega) (by omega)
  have ok4 := t3.ok.fr s1
  obtain ⟨v2, H5, ho2, o2, s2, _, _⟩ := q_Of H1.n H2.n y z H4 ok4 (y3.still s1) (z3.still s1) (by omega) (by omega)
  have s35 : Still H3 H5 := s1.still.then s2 fun _ _ h => h
  have ok5 := ok4.fr s2
  obtain ⟨v3, H6, ho3, o3, s3, _, _⟩ := q_Of H.n H2.n x z H5 ok5 (x3.still s35) (z3.still s35) (by omega) (by omega)
  have ok6 := ok5.fr s3
  have s46 : Still H4 H6 := s2.still.then s3 fun _ _ h => h
  have vl := delta_valid fx fy (by omega)
  have vm := delta_valid fy fz (by omega)
  have vn := delta_valid fx fz (by omega)
  have vr := delta_valid fy fx (by omega)
  have o16 := o1.still s46
  obtain ⟨v4, H7, hrev, o4, s4, _⟩ := q_Reverse (deltaOf x y) v1 H6 ok6 o16.rd (by omega) vl
  rw [rev_delta fx.srt fy.srt] at o4
  have ok7 := ok6.fr s4
  have s37 : Still H3 H7 := (s35.still.then s3 fun _ _ h => h).still.then s4 fun _ _ h => h
  have x7 := x3.still s37
  have y7 := y3.still s37
  have o17 := o16.still s4
  have o27 := (o2.still s3).still s4
  have o37 := o3.still s4
  -- together
  obtain ⟨g1, g2⟩ := togs_delta fx.srt fy.srt fz.srt
  obtain ⟨vt, Ht, ht, ot, st, _⟩ := (q_Together _ _ v1 v2 H7 ok7 (Arg.of o17) (Arg.of o27) vl vm).2.2 g2 (by rw [g1]; omega)
  rw [g1] at ot
  have htog := q_togethers v1 v2 v3 vt _ H7 Ht ht ot.rd st o37.rd (by omega)
  have hfits := q_Fits (deltaOf x y) x v1 H.n H7 ok7 o17.rd (by omega) x7 fx
  rw [vl, fits_delta fx.srt fy.srt] at hfits
  have hfits : CC F.delta_Fits [.pointer (some ⟨H.n, 0, none⟩), v1] H7 = some (.bool true, H7) := hfits
  have hofs := q_ofs H1.n H.n y x _ v4 H7 ok7 y7 x7 (by omega) (by omega) o4.rd rfl
  obtain ⟨g3, g4⟩ := togs_delta fx.srt fy.srt fx.srt
  rw [delta_self fx.srt] at g3
  obtain ⟨vu, Hu, hu, ou, su, _⟩ := (q_Together _ _ v1 v4 H7 ok7 (Arg.of o17) (Arg.of o4) vl vr).2.2 g4 (by rw [g3]; simp)
  rw [g3] at ou
  have htog2 := q_togethers v1 v4 (.slice none 0 0) vu [] H7 Hu hu ou.rd su (.inl ⟨rfl, rfl⟩) (by simp)
  -- apply there and back
  obtain ⟨bw, H8, hcp, m8, s8, hbw, hmb⟩ := q_MCopy H.n x H7 x7 (by omega)
  have ok8 := ok7.fr s8
  have t8 : MdlN H7 H8 bw x := ⟨ok8, s8, m8, hmb, fx⟩
  have dl4 := delta_len y x
  have c1 := cnt_le (deltaOf x y) (x.length : Int)
  have c2 := cnt_le (deltaOf y x) (y.length : Int)
  obtain ⟨H9, ha1, m9, f9, u9⟩ := q_Apply bw x (deltaOf x y) v1 H8 ok8 (o17.still s8).rd (fun k hk => ⟨by have := o17.blk hk; have := s8.n; omega, fun h => by have := hmb k h; have := o17.blk hk; omega⟩) m8 fx vl (fits_delta fx.srt fy.srt) (by omega)
  rw [apply_delta fx fy (by omega)] at m9 f9
  have t9 : MdlN H7 H9 bw y := t8.step m9 u9 f9
  have y9 := y7.still t9.base
  have heq1 := q_Equal bw H1.n y y H9 m9 y9 (by omega) (by omega)
  rw [decide_eq_true rfl] at heq1
  obtain ⟨H10, ha2, m10, f10, u10⟩ := q_Apply bw y (deltaOf y x) v4 H9 t9.ok (o4.still t9.base).rd (fun k hk => ⟨by have := o4.blk hk; have := t9.base.n; omega, fun h => by have := t9.lo k h; have := o4.blk hk; omega⟩) m9 fy vr (fits_delta fy.srt fx.srt) (by omega)
  rw [apply_delta fy fx (by omega)] at m10 f10
  have t10 : MdlN H7 H10 bw x := t9.step m10 u10 f10
  have x10 := x7.still t10.base
  have heq2 := q_Equal bw H.n x x H10 m10 x10 (by omega) (by omega)
  rw [decide_eq_true rfl] at heq2
  -- merging
  have al := Arg.of (o17.still t10.base)
  have an := Arg.of (o37.still t10.base)
  have sl := delta_srt fx.srt fy.srt
  have sn := delta_srt fx.srt fz.srt
  have ml1 := merg_len (deltaOf x y) (deltaOf x z)
  have ml2 := merg_len (deltaOf x z) (deltaOf x y)
  have ml3 := merg_len (deltaOf x y) (deltaOf x y)
  obtain ⟨ms1, ms2⟩ := merg_self sl
  have hcf2 : ¬ confs (deltaOf x z) (deltaOf x y) = [] := by rw [← conf_swap sl sn]; exact hcf
  have hm1 := (q_Merge _ _ v1 v3 H10 t10.ok al an vl vn).2.1 (by omega) hcf
  have hm2 := (q_Merge _ _ v3 v1 H10 t10.ok an al vn vl).2.1 (by omega) hcf2
  have hsame := q_lsame [] (.slice none 0 0) (.slice none 0 0) H10 (.inl ⟨rfl, rfl⟩) (.inl ⟨rfl, rfl⟩) (by simp)
  obtain ⟨vs, Hs, hm3, os, ss, _, _⟩ := (q_Merge _ _ v1 v1 H10 t10.ok al al vl vl).2.2 (by omega) ms1
  rw [ms2] at os
  have hmer := q_merges v1 v1 v1 vs _ H10 Hs hm3 os ss al.sb.1 (by omega)
  refine any_of (H1 := H10) (d_law_DeltaHolds _ _ _ H ?_)
  simp (maxSteps := 2000000) (disch := first | with_reducible rfl | assumption | omega | rfl | (simp only [go_sem]; first | done | omega)) only [go_sem, ↓reduceIte, reduceCtorEq, Nat.reduceEqDiff, Nat.reduceAdd, Nat.reduceSub, Nat.reduceMul, Nat.reduceDiv, Nat.reduceMod, Nat.reduceLeDiff, Nat.reduceLT, Nat.reduceBEq, Int.reduceEq, Int.reduceBEq, Int.reduceBNe, Int.reduceLT, Int.reduceLE, Int.reduceAdd, Int.reduceSub, Int.reduceNeg, Int.reduceToNat, Int.reducePow, Nat.reducePow, Int.reduceMul, Int.reduceDiv, s_law_DeltaHolds, enterK_eq hpa, enterK_eq hpb, enterK_eq hpc, enterK_eq hf1, enterK_eq hf2, enterK_eq hf3, enterK_eq ho1, enterK_eq ho2, enterK_eq ho3, enterK_eq hrev]
  simp (disch := first | with_reducible rfl | assumption | omega | rfl | (simp only [go_sem]; first | done | omega)) only [go_sem, ↓reduceIte, reduceCtorEq, Nat.reduceEqDiff, Nat.reduceAdd, Nat.reduceSub, Nat.reduceMul, Nat.reduceDiv, Nat.reduceMod, Nat.reduceLeDiff, Nat.reduceLT, Nat.reduceBEq, Int.reduceEq, Int.reduceBEq, Int.reduceBNe, Int.reduceLT, Int.reduceLE, Int.reduceAdd, Int.reduceSub, Int.reduceNeg, Int.reduceToNat, Int.reducePow, Nat.reducePow, Int.reduceMul, Int.reduceDiv, enterK_eq htog, enterK_eq hfits, enterK_eq hofs, enterK_eq htog2]
  simp (disch := first | with_reducible rfl | assumption | omega | rfl | (simp only [go_sem]; first | done | omega)) only [go_sem, ↓reduceIte, reduceCtorEq, Nat.reduceEqDiff, Nat.reduceAdd, Nat.reduceSub, Nat.reduceMul, Nat.reduceDiv, Nat.reduceMod, Nat.reduceLeDiff, Nat.reduceLT, Nat.reduceBEq, Int.reduceEq, Int.reduceBEq, Int.reduceBNe, Int.reduceLT, Int.reduceLE, Int.reduceAdd, Int.reduceSub, Int.reduceNeg, Int.reduceToNat, Int.reducePow, Nat.reducePow, Int.reduceMul, Int.reduceDiv, enterK_eq hcp, enterK_eq ha1, enterK_eq heq1, enterK_eq ha2]
  simp (disch := first | with_reducible rfl | assumption | omega | rfl | (simp only [go_sem]; first | done | omega)) only [go_sem, ↓reduceIte, reduceCtorEq, Nat.reduceEqDiff, Nat.reduceAdd, Nat.reduceSub, Nat.reduceMul, Nat.reduceDiv, Nat.reduceMod, Nat.reduceLeDiff, Nat.reduceLT, Nat.reduceBEq, Int.reduceEq, Int.reduceBEq, Int.reduceBNe, Int.reduceLT, Int.reduceLE, Int.reduceAdd, Int.reduceSub, Int.reduceNeg, Int.reduceToNat, Int.reducePow, Nat.reducePow, Int.reduceMul, Int.reduceDiv, enterK_eq heq2, enterK_eq hm1, enterK_eq hm2, enterK_eq hsame]
  simp (disch := first | with_reducible rfl | assumption | omega | rfl | (simp only [go_sem]; first | done | omega)) only [go_sem, ↓reduceIte, reduceCtorEq, Nat.reduceEqDiff, Nat.reduceAdd, Nat.reduceSub, Nat.reduceMul, Nat.reduceDiv, Nat.reduceMod, Nat.reduceLeDiff, Nat.reduceLT, Nat.reduceBEq, Int.reduceEq, Int.reduceBEq, Int.reduceBNe, Int.reduceLT, Int.reduceLE, Int.reduceAdd, Int.reduceSub, Int.reduceNeg, Int.reduceToNat, Int.reducePow, Nat.reducePow, Int.reduceMul, Int.reduceDiv, enterK_eq hmer]


theorem q_DeltaHolds (a b c : List Pr) (va vb vc : Value) (H : AHeap) (ok : Ok H) (ha : Rd EPr H va a) (hb : Rd EPr H vb b) (hc : Rd EPr H vc c) : ∃ H', CC F.law_DeltaHolds [va, vb, vc] H = some (.bool true, H') := by
  obtain ⟨x, hpa, hxa⟩ := q_pairsn a va 16 H ha (by omega)
  obtain ⟨y, hpb, hyb⟩ := q_pairsn b vb 16 H hb (by omega)
  obtain ⟨z, hpc, hzc⟩ := q_pairsn c vc 16 H hc (by omega)
  have hpa : CC F.law_pairs [va, .int .i64 16] H = some (.bool x, H) := hpa
  have hpb : CC F.law_pairs [vb, .int .i64 16] H = some (.bool y, H) := hpb
  have hpc : CC F.law_pairs [vc, .int .i64 16] H = some (.bool z, H) := hpc
  cases x with
  | false =>
    refine any_of (H1 := ?_) (d_law_DeltaHolds _ _ _ H ?_)
    rotate_left 1
    · simp (maxSteps := 2000000) (disch := first | with_reducible rfl | assumption | omega | rfl | (simp only [go_sem]; first | done | omega)) only [go_sem, ↓reduceIte, reduceCtorEq, Nat.reduceEqDiff, Nat.reduceAdd, Nat.reduceSub, Nat.reduceMul, Nat.reduceDiv, Nat.reduceMod, Nat.reduceLeDiff, Nat.reduceLT, Nat.reduceBEq, Int.reduceEq, Int.reduceBEq, Int.reduceBNe, Int.reduceLT, Int.reduceLE, Int.reduceAdd, Int.reduceSub, Int.reduceNeg, Int.reduceToNat, Int.reducePow, Nat.reducePow, Int.reduceMul, Int.reduceDiv, s_law_DeltaHolds, enterK_eq hpa]
      rfl
  | true =>
    cases y with
    | false =>
      refine any_of (H1 := ?_) (d_law_DeltaHolds _ _ _ H ?_)
      rotate_left 1
      · simp (maxSteps := 2000000) (disch := first | with_reducible rfl | assumption | omega | rfl | (simp only [go_sem]; first | done | omega)) only [go_sem, ↓reduceIte, reduceCtorEq, Nat.reduceEqDiff, Nat.reduceAdd, Nat.reduceSub, Nat.reduceMul, Nat.reduceDiv, Nat.reduceMod, Nat.reduceLeDiff, Nat.reduceLT, Nat.reduceBEq, Int.reduceEq, Int.reduceBEq, Int.reduceBNe, Int.reduceLT, Int.reduceLE, Int.reduceAdd, Int.reduceSub, Int.reduceNeg, Int.reduceToNat, Int.reducePow, Nat.reducePow, Int.reduceMul, Int.reduceDiv, s_law_DeltaHolds, enterK_eq hpa, enterK_eq hpb]
        rfl
    | true =>
      cases z with
      | false =>
        refine any_of (H1 := ?_) (d_law_DeltaHolds _ _ _ H ?_)
        rotate_left 1
        · simp (maxSteps := 2000000) (disch := first | with_reducible rfl | assumption | omega | rfl | (simp only [go_sem]; first | done | omega)) only [go_sem, ↓reduceIte, reduceCtorEq, Nat.reduceEqDiff, Nat.reduceAdd, Nat.reduceSub, Nat.reduceMul, Nat.reduceDiv, Nat.reduceMod, Nat.reduceLeDiff, Nat.reduceLT, Nat.reduceBEq, Int.reduceEq, Int.reduceBEq, Int.reduceBNe, Int.reduceLT, Int.reduceLE, Int.reduceAdd, Int.reduceSub, Int.reduceNeg, Int.reduceToNat, Int.reducePow, Nat.reducePow, Int.reduceMul, Int.reduceDiv, s_law_DeltaHolds, enterK_eq hpa, enterK_eq hpb, enterK_eq hpc]
          rfl
      | true =>
        by_cases hcf : confs (deltaOf (fillF [] a) (fillF [] b)) (deltaOf (fillF [] a) (fillF [] c)) = []
        · exact q_Holds_a a b c va vb vc H ok ha hb hc (hxa rfl) (hyb rfl) (hzc rfl) hpa hpb hpc hcf
        · exact q_Holds_b a b c va vb vc H ok ha hb hc (hxa rfl) (hyb rfl) (hzc rfl) hpa hpb hpc hcf

theorem run_DeltaHolds (W : World) (va : Value) (a : List Pr) (ha : Rd EPr (absHeap W) va a) (_ : ∀ x, x ∈ a → True) (_ : a.length ≤ maxLen) (vb : Value) (b : List Pr) (hb : Rd EPr (absHeap W) vb b) (_ : ∀ x, x ∈ b → True) (_ : b.length ≤ maxLen) (vc : Value) (c : List Pr) (hc : Rd EPr (absHeap W) vc c) (_ : ∀ x, x ∈ c → True) (_ : c.length ≤ maxLen) :
    ∃ k H', dCall Try.prog prims1 hints k F.law_DeltaHolds [va, vb, vc] (absHeap W) = some (.bool true, H') := by
  obtain ⟨H', h⟩ := q_DeltaHolds a b c va vb vc (absHeap W) (absHeap_ok W) ha hb hc
  obtain ⟨k, h⟩ := D_run h
  exact ⟨k, _, h⟩

end Go.Proofs.Ytlbieadnfgfhlaa

/-
  The law DeltaHolds: for every input it returns true, and its input reads as it did.
  Conditions: none. By an AI agent.
-/
namespace Go.Proofs.Ytlbieadnfgfhlaa.deltaHolds
open Go.ChangeShapes Go.WideShapes Go.ChangeAt Go.RowKit
open Go.ChangeMaps (open_string shut_string)
set_option linter.unusedVariables false
theorem own : ownKnob Try.prog.godebug = none := by kernel_rfl
theorem laidOut : laidOutB Try.prog = true := by kernel_rfl
set_option maxRecDepth 100000 in
theorem lifted (os : Os) (started : os.Started) (H : Type) (enc : TypeId × Value → H) :
    ReturnsInHanded {} Try.checked os 7 .any (Rows.deltaHoldsSpec.pre6 enc Try.prog Try.f7 Rows.deltaHoldsRow.domain false) (Rows.deltaHoldsSpec.post enc Try.prog Try.f7 false true false false) := by
  refine returnsInHanded_of_change_sized (C := Try.checked) own started (by kernel_rfl) Try.func7
    (ChangeSpec.witness6 (enc := enc) (C := Try.checked) false ⟨#[], #[.slice none 0 0, .slice none 0 0, .slice none 0 0], []⟩ 8 (by kernel_rfl) (by kernel_rfl) (by kernel_rfl) (by kernel_rfl)) ?_
  intro W base args ds gs before hval0 hW hcnd hsz0 _
  have hsz : (DataW.weightsEach Try.prog (Try.f7.params.toList ++ Rows.deltaHoldsSpec.plain.varTypes Try.prog) (ds ++ gs)).all (· ≤ reachBytes) = true := hsz0
  have hval : ∀ (j : Nat) t v, Try.f7.params[j]? = some t → args[j]? = some v → Value.okWide Try.prog W .any base t v := hval0
  have hW' := hW
  obtain ⟨p, q, hA0, hV, rfl, hfz, hnd⟩ := hW
  have hA : DataW.TrodAll enc Try.prog W 0 (fun _ => true) true Try.f7.params.toList args.toList ds p := hA0
  rw [Try.params7] at hA hval hsz
  obtain ⟨v0, vs0, d0, ds0, p0, q0, hargs, rfl, rfl, h0, r0⟩ := trodAll_cons hA
  obtain ⟨v1, vs1, d1, ds1, p1, q1, rfl, rfl, rfl, h1, r1⟩ := trodAll_cons r0
  obtain ⟨v2, vs2, d2, ds2, p2, q2, rfl, rfl, rfl, h2, r2⟩ := trodAll_cons r1
  obtain ⟨rfl, rfl, rfl⟩ := trodAll_nil r2
  obtain rfl : args = #[v0, v1, v2] := by cases args; simp_all
  obtain ⟨rfl, rfl⟩ := trodVars_none hV
  have k0 := h0
  have lt0 : ∀ x ∈ p0, x.block < W.heap.size := by obtain ⟨m, hm⟩ := k0; exact DataW.trod_lt m _ _ _ hm
  obtain ⟨l0, rd0, all0, len0⟩ := Eng.open_rd (t := 42) Try.underlying42 (by kernel_rfl) (fun cs n y h hl => decPr h hl) (hval 0 42 v0 rfl rfl) k0
  have k1 := h1
  have lt1 : ∀ x ∈ p1, x.block < W.heap.size := by obtain ⟨m, hm⟩ := k1; exact DataW.trod_lt m _ _ _ hm
  obtain ⟨l1, rd1, all1, len1⟩ := Eng.open_rd (t := 42) Try.underlying42 (by kernel_rfl) (fun cs n y h hl => decPr h hl) (hval 1 42 v1 rfl rfl) k1
  have k2 := h2
  have lt2 : ∀ x ∈ p2, x.block < W.heap.size := by obtain ⟨m, hm⟩ := k2; exact DataW.trod_lt m _ _ _ hm
  obtain ⟨l2, rd2, all2, len2⟩ := Eng.open_rd (t := 42) Try.underlying42 (by kernel_rfl) (fun cs n y h hl => decPr h hl) (hval 2 42 v2 rfl rfl) k2
  refine (Eng.law_calls (args := #[v0, v1, v2]) prims1_ok mixed (run_DeltaHolds W (Eng.convA W.heap.size v0) l0 rd0 all0 len0 (Eng.convA W.heap.size v1) l1 rd1 all1 len1 (Eng.convA W.heap.size v2) l2 rd2 all2 len2)).mono fun e W' ⟨he, bel⟩ => ?_
  subst he
  exact ⟨_, rfl, _, _, _, [], _, [], hW', trodAll_mk1 (shut_bool Try.underlying4 _), (trodAll_cons_mk (Below.trod laidOut (by kernel_rfl) (of_decide_eq_true (by kernel_rfl)) k0 bel lt0) (trodAll_cons_mk (Below.trod laidOut (by kernel_rfl) (of_decide_eq_true (by kernel_rfl)) k1 bel lt1) (trodAll_cons_mk (Below.trod laidOut (by kernel_rfl) (of_decide_eq_true (by kernel_rfl)) k2 bel lt2) trodAll_mk0))), rfl, bel.frame _, fun h => by cases h⟩

theorem over : Rows.deltaHoldsRow.holds Try.pinned (OpenSpec.ofChange Rows.deltaHoldsSpec) :=
  OpenClaim.holds_of_wide 7 Try.f7 rfl rfl rfl rfl rfl rfl rfl ⟨rfl, rfl, rfl, rfl, rfl⟩ rfl rfl rfl rfl rfl (by kernel_rfl) Try.func7 (by kernel_rfl)
    (of_decide_eq_true (by kernel_rfl)) (by unfold Func.isWrapper; first | (rw [if_pos (by decide +kernel)]; kernel_rfl) | (rw [if_neg (by decide +kernel)]; exact ⟨rfl, rfl⟩))
    (fun os started H enc _ => lifted os started H enc)
theorem proved : Rows.DeltaHoldsSaid := over
#print axioms proved
end Go.Proofs.Ytlbieadnfgfhlaa.deltaHolds
namespace Go.Proofs.Ytlbieadnfgfhlaa
/-- The row, under a short name, for the claim. -/
theorem deltaHolds_holds : Rows.DeltaHoldsSaid := deltaHolds.proved
end Go.Proofs.Ytlbieadnfgfhlaa
