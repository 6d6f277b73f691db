/-
  4 texts in one (merge.py): ShBackupHolds DsBackupHolds Yb LawBackupHolds.
  Conditions: none. By an AI agent.
-/
import Derived.Test.YtehnchfnhbmkdaaQc1
import Derived.Test.YtehnchfnhbmkdaaChecked
import Derived.KernelRfl
import Derived.Test.YtehnchfnhbmkdaaRows
import Derived.WalkKit
import Derived.ProofKit
import Derived.OpenShut
import Derived.ShutString
import Derived.ChangeOld
import Derived.Below
import Derived.SizedLaws
import Derived.ChangeArms
import Derived.Carry

/-
  The seat's functions as terms over the engine's combinators (a program of ours printed it).
  Conditions: none. By an AI agent.
-/
set_option linter.unusedVariables false
namespace Go.Proofs.Ytehnchfnhbmkdaa
open Go Eng

/-! ticketline.ticketlinelaw48.BackupHolds -/

noncomputable def s_law_BackupHolds (mg : GT) (mc : CT) (ms : ST) (P : Program) (C : CallF) (a0 : Value) (a1 : Value) (a2 : Value) (a3 : Value) (a4 : Value) (H : AHeap) (K0 : K) : Res :=
enterK C F.law_small [a0] H fun t22 h1 =>
bareK (xun P .not t22) h1 fun t23 h2 =>
mg t23 false (fun o1 => o1 a1 h2) h2 fun t25 h3 =>
mg t23 false (fun o2 => enterK C F.law_small [t25] h3 o2) h3 fun t26 h4 =>
mg t23 false (fun o3 => bareK (xun P .not t26) h4 o3) h4 fun t27 h5 =>
pickK t23 (.bool true) t27 fun t28 =>
mg t28 false (fun o4 => o4 a0 h5) h5 fun t30 h6 =>
mg t28 false (fun o5 => bareK (lenS t30) h6 o5) h6 fun t31 h7 =>
mg t28 false (fun o6 => bareK (xbin P .gtr T.int (.tmp 31) (.const (.int .i64 20)) t31 (.int .i64 20)) h7 o6) h7 fun t32 h8 =>
pickK t28 (.bool true) t32 fun t33 =>
mg t33 false (fun o7 => o7 a1 h8) h8 fun t35 h9 =>
mg t33 false (fun o8 => bareK (lenS t35) h9 o8) h9 fun t36 h10 =>
mg t33 false (fun o9 => bareK (xbin P .gtr T.int (.tmp 36) (.const (.int .i64 20)) t36 (.int .i64 20)) h10 o9) h10 fun t37 h11 =>
pickK t33 (.bool true) t37 fun t38 =>
mg t38 false (fun o10 => o10 a4 h11) h11 fun t40 h12 =>
mg t38 false (fun o11 => bareK (lenS t40) h12 o11) h12 fun t41 h13 =>
mg t38 false (fun o12 => bareK (xbin P .gtr T.int (.tmp 41) (.const (.int .i64 200)) t41 (.int .i64 200)) h13 o12) h13 fun t42 h14 =>
pickK t38 (.bool true) t42 fun t43 =>
mc t43 (fun k13 => enterK C F.law_known [] h14 fun t44 h15 =>
k13 .ret [(10, t44)] h15) (fun k13 =>
k13 .normal [(0, a0), (1, a1), (2, a2), (3, a3), (4, a4)] h14) (seqK (fun tT h16 =>
enterK C F.law_filled [(get tT 0)] h16 fun t46 h17 =>
enterK C F.law_filled [(get tT 1)] h17 fun t48 h18 =>
enterK C F.backup_Encode [t46] h18 fun t51 h19 =>
bareK (xextract t51 0) h19 fun t52 h20 =>
bareK (xextract t51 1) h20 fun t53 h21 =>
enterK C F.backup_Encode [t48] h21 fun t56 h22 =>
bareK (xextract t56 0) h22 fun t57 h23 =>
bareK (xextract t56 1) h23 fun t58 h24 =>
bareK (xbin P .neq T.api_Errno (.tmp 59) (.const (.int .i64 0)) t53 (.int .i64 0)) h24 fun t60 h25 =>
mg t60 false (fun o14 => o14 t58 h25) h25 fun t62 h26 =>
mg t60 false (fun o15 => bareK (xbin P .neq T.api_Errno (.tmp 62) (.const (.int .i64 0)) t62 (.int .i64 0)) h26 o15) h26 fun t63 h27 =>
pickK t60 (.bool true) t63 fun t64 =>
mg t64 false (fun o16 => o16 t52 h27) h27 fun t66 h28 =>
mg t64 false (fun o17 => bareK (lenS t66) h28 o17) h28 fun t67 h29 =>
mg t64 false (fun o18 => bareK (xbin P .eql T.int (.tmp 67) (.const (.int .i64 0)) t67 (.int .i64 0)) h29 o18) h29 fun t68 h30 =>
pickK t64 (.bool true) t68 fun t69 =>
mg t69 false (fun o19 => o19 t52 h30) h30 fun t71 h31 =>
mg t69 false (fun o20 => o20 t46 h31) h31 fun t72 h32 =>
mg t69 false (fun o21 => enterK C F.law_decodes [t71, t72, (.int .i64 0)] h32 o21) h32 fun t73 h33 =>
mg t69 false (fun o22 => bareK (xun P .not t73) h33 o22) h33 fun t74 h34 =>
pickK t69 (.bool true) t74 fun t75 =>
mg t75 false (fun o23 => o23 t52 h34) h34 fun t77 h35 =>
mg t75 false (fun o24 => bothK (xconv P T.sl_uint8 T.string t77 h35) o24) h35 fun t78 h36 =>
mg t75 false (fun o25 => o25 t57 h36) h36 fun t79 h37 =>
mg t75 false (fun o26 => bothK (xconv P T.sl_uint8 T.string t79 h37) o26) h37 fun t80 h38 =>
mg t75 false (fun o27 => bareK (xbin P .eql T.string (.tmp 78) (.tmp 80) t78 t80) h38 o27) h38 fun t81 h39 =>
mg t75 false (fun o28 => o28 t46 h39) h39 fun t82 h40 =>
mg t75 false (fun o29 => o29 t48 h40) h40 fun t83 h41 =>
mg t75 false (fun o30 => enterK C F.model_Equal [t82, t83] h41 o30) h41 fun t84 h42 =>
mg t75 false (fun o31 => bareK (xbin P .neq T.bool (.tmp 81) (.tmp 84) t81 t84) h42 o31) h42 fun t85 h43 =>
pickK t75 (.bool true) t85 fun t86 =>
checkK (okV (goesV t75 false) none h41 h42 h34 h35 && (okV (goesV t75 false) (blockOf t77) h41 h42 h35 h36 && (okV (goesV t75 false) none h41 h42 h36 h37 && (okV (goesV t75 false) (blockOf t79) h41 h42 h37 h38 && (okV (goesV t75 false) none h41 h42 h38 h39 && true))))) <|
mc t86 (fun k32 => k32 .ret [(10, (.bool false))] h43) (fun k32 =>
k32 .normal [(2, (get tT 2)), (3, (get tT 3)), (4, (get tT 4)), (13, t52)] h43) (seqK (fun tT_1 h44 =>
bothK (app T.uint8 1 1 (.slice none 0 0) (srcS 1 (get tT_1 13) h44) h44) fun t88 h45 =>
bothK (xconv P T.uint16 T.int (get tT_1 2) h45) fun t90 h46 =>
bareK (lenS t88) h46 fun t92 h47 =>
bareK (xbin P .rem T.int (.tmp 90) (.tmp 92) t90 t92) h47 fun t93 h48 =>
bareK (ixS 1 t88 t93) h48 fun t98 h49 =>
bareK (ld1 h49 t98) h49 fun t99 h50 =>
bothK (xconv P T.uint8 T.int (get tT_1 3) h50) fun t101 h51 =>
nextK C h51 (xbuiltin P .max [T.int, T.int] [(.int .i64 1), t101] h51) fun t102 h52 =>
bothK (xconv P T.int T.uint8 t102 h52) fun t103 h53 =>
bareK (xbin P .add T.uint8 (.tmp 99) (.tmp 103) t99 t103) h53 fun t104 h54 =>
bareK (ixS 1 t88 t93) h54 fun t105 h55 =>
quietK (st1 h55 t105 t104) fun _ h56 =>
enterK C F.law_decodes [t88, (.pointer none), (.int .i64 12)] h56 fun t107 h57 =>
bareK (xun P .not t107) h57 fun t108 h58 =>
mc t108 (fun k33 => k33 .ret [(10, (.bool false))] h58) (fun k33 =>
k33 .normal [(4, (get tT_1 4))] h58) (seqK (fun tT_2 h59 =>
enterK C F.backup_Decode [(get tT_2 4)] h59 fun t111 h60 =>
bareK (xextract t111 0) h60 fun t112 h61 =>
bareK (xextract t111 1) h61 fun t113 h62 =>
bareK (xbin P .eql T.api_Errno (.tmp 114) (.const (.int .i64 0)) t113 (.int .i64 0)) h62 fun t115 h63 =>
mg t115 true (fun o34 => o34 t112 h63) h63 fun t117 h64 =>
mg t115 true (fun o35 => o35 (get tT_2 4) h64) h64 fun t118 h65 =>
mg t115 true (fun o36 => enterK C F.law_encodes [t117, t118, (.int .i64 0)] h65 o36) h65 fun t119 h66 =>
mg t115 true (fun o37 => bareK (xun P .not t119) h66 o37) h66 fun t120 h67 =>
pickK t115 t120 (.bool false) fun t121 =>
mc t121 (fun k38 => k38 .ret [(10, (.bool false))] h67) (fun k38 =>
k38 .normal [] h67) (seqK (fun tT_3 h68 =>
enterK C F.law_known [] h68 fun t122 h69 =>
K0 .ret [(10, t122)] h69) K0)) K0)) K0)) K0)

theorem s_law_BackupHolds_eq (M : CombL) (C : CallF) (LP : LoopH) (a0 : Value) (a1 : Value) (a2 : Value) (a3 : Value) (a4 : Value) (H : AHeap) : dBodyL M Try.prog hints C LP F.law_BackupHolds [a0, a1, a2, a3, a4] H = s_law_BackupHolds M.b.g M.c M.s Try.prog C a0 a1 a2 a3 a4 H (endK Try.prog [.tmp 10]) := by kernel_rfl

end Go.Proofs.Ytehnchfnhbmkdaa

/-
  The equations of the seat's functions over calls in the limit (a program of ours printed it).
  Conditions: none. By an AI agent.
-/
set_option linter.unusedVariables false
namespace Go.Proofs.Ytehnchfnhbmkdaa
open Go Eng

theorem u_uint16 : Try.prog.underlying T.uint16 = Try.prog.underlying 48 := rfl
@[go_sem] theorem x_uint16_int {n : Int} {H : AHeap} : xconv Try.prog T.uint16 T.int (.int .u16 n) H = some (.int .i64 (IntKind.wrap .i64 n), H) := xconv_int (P := Try.prog) (s := 48) (t := 3) Try.underlying48 Try.underlying3

theorem d_law_BackupHolds (a0 : Value) (a1 : Value) (a2 : Value) (a3 : Value) (a4 : Value) (H : AHeap) {r : Value × AHeap} (h : s_law_BackupHolds guardK condL shareL Try.prog CC a0 a1 a2 a3 a4 H (endK Try.prog [.tmp 10]) = some r) : CC F.law_BackupHolds [a0, a1, a2, a3, a4] H = some (tidy H r) := D_body (by kernel_rfl) ((s_law_BackupHolds_eq stdL CC limLP a0 a1 a2 a3 a4 H).trans (Eq.trans (show s_law_BackupHolds stdL.b.g stdL.c stdL.s Try.prog CC a0 a1 a2 a3 a4 H (endK Try.prog [.tmp 10]) = s_law_BackupHolds guardK condL shareL Try.prog CC a0 a1 a2 a3 a4 H (endK Try.prog [.tmp 10]) by kernel_rfl) h))

end Go.Proofs.Ytehnchfnhbmkdaa

/-
  Chapter 48: BackupHolds.
  Conditions: none. By an AI agent.
-/
set_option maxRecDepth 10000
set_option linter.unusedSimpArgs false
set_option linter.unusedVariables false
namespace Go.Proofs.Ytehnchfnhbmkdaa
open Go Eng

theorem fill20 {l : List Pr} (h : l.length ≤ 30) : (fillP l).length ≤ 30 := by have := fill_len l []; unfold fillP; simp at this; omega

set_option maxHeartbeats 4000000 in
theorem q_BackupHolds (l1 l2 : List Pr) (b : List UInt8) (v1 v2 w : Value) (at_ : Nat) (hat : at_ < 65536) (by_ : UInt8) (H : AHeap) (ok : MOk H) (hr1 : Rd EPr H v1 l1) (hr2 : Rd EPr H v2 l2) (hb : BR H w b) :
    ∃ H', CC F.law_BackupHolds [v1, v2, .int .u16 (at_ : Int), .int .u8 (by_.toNat : Int), w] H = some (.bool true, H') := by
  have hs1 := q_small l1 v1 H hr1
  have hs2 := q_small l2 v2 H hr2
  have hv1 := hr1.lenS
  have hv2 := hr2.lenS
  have hlw := hb.1.lenS
  cases h1 : smallP l1 with
  | false =>
    rw [h1] at hs1
    refine any_of (H1 := H) (d_law_BackupHolds _ _ _ _ _ H ?_)
    simp (disch := first | with_reducible rfl | assumption | omega | rfl | (simp only [go_sem]; first | done | omega)) only [go_sem, ↓reduceIte, reduceCtorEq, Nat.reduceEqDiff, Nat.reduceAdd, Nat.reduceSub, Nat.reduceMul, Nat.reduceDiv, Nat.reduceMod, Nat.reduceLeDiff, Nat.reduceLT, Nat.reduceBEq, Int.reduceEq, Int.reduceBEq, Int.reduceBNe, Int.reduceLT, Int.reduceLE, Int.reduceAdd, Int.reduceSub, Int.reduceNeg, Int.reduceToNat, Int.reducePow, Nat.reducePow, Int.reduceMul, Int.reduceDiv, ↓s_law_BackupHolds, enterK_eq hs1]
  | true =>
  rw [h1] at hs1
  cases h2 : smallP l2 with
  | false =>
    rw [h2] at hs2
    refine any_of (H1 := H) (d_law_BackupHolds _ _ _ _ _ H ?_)
    simp (disch := first | with_reducible rfl | assumption | omega | rfl | (simp only [go_sem]; first | done | omega)) only [go_sem, ↓reduceIte, reduceCtorEq, Nat.reduceEqDiff, Nat.reduceAdd, Nat.reduceSub, Nat.reduceMul, Nat.reduceDiv, Nat.reduceMod, Nat.reduceLeDiff, Nat.reduceLT, Nat.reduceBEq, Int.reduceEq, Int.reduceBEq, Int.reduceBNe, Int.reduceLT, Int.reduceLE, Int.reduceAdd, Int.reduceSub, Int.reduceNeg, Int.reduceToNat, Int.reducePow, Nat.reducePow, Int.reduceMul, Int.reduceDiv, ↓s_law_BackupHolds, enterK_eq hs1, enterK_eq hs2]
  | true =>
  rw [h2] at hs2
  by_cases h3 : 20 < (l1.length : Int)
  · refine any_of (H1 := H) (d_law_BackupHolds _ _ _ _ _ H ?_)
    simp (disch := first | with_reducible rfl | assumption | omega | rfl | (simp only [go_sem]; first | done | omega)) only [go_sem, ↓reduceIte, reduceCtorEq, Nat.reduceEqDiff, Nat.reduceAdd, Nat.reduceSub, Nat.reduceMul, Nat.reduceDiv, Nat.reduceMod, Nat.reduceLeDiff, Nat.reduceLT, Nat.reduceBEq, Int.reduceEq, Int.reduceBEq, Int.reduceBNe, Int.reduceLT, Int.reduceLE, Int.reduceAdd, Int.reduceSub, Int.reduceNeg, Int.reduceToNat, Int.reducePow, Nat.reducePow, Int.reduceMul, Int.reduceDiv, ↓s_law_BackupHolds, enterK_eq hs1, enterK_eq hs2, hv1, h3]
  by_cases h4 : 20 < (l2.length : Int)
  · refine any_of (H1 := H) (d_law_BackupHolds _ _ _ _ _ H ?_)
    simp (disch := first | with_reducible rfl | assumption | omega | rfl | (simp only [go_sem]; first | done | omega)) only [go_sem, ↓reduceIte, reduceCtorEq, Nat.reduceEqDiff, Nat.reduceAdd, Nat.reduceSub, Nat.reduceMul, Nat.reduceDiv, Nat.reduceMod, Nat.reduceLeDiff, Nat.reduceLT, Nat.reduceBEq, Int.reduceEq, Int.reduceBEq, Int.reduceBNe, Int.reduceLT, Int.reduceLE, Int.reduceAdd, Int.reduceSub, Int.reduceNeg, Int.reduceToNat, Int.reducePow, Nat.reducePow, Int.reduceMul, Int.reduceDiv, ↓s_law_BackupHolds, enterK_eq hs1, enterK_eq hs2, hv1, h3, hv2, h4]
  by_cases h5 : 200 < (b.length : Int)
  · refine any_of (H1 := H) (d_law_BackupHolds _ _ _ _ _ H ?_)
    simp (disch := first | with_reducible rfl | assumption | omega | rfl | (simp only [go_sem]; first | done | omega)) only [go_sem, ↓reduceIte, reduceCtorEq, Nat.reduceEqDiff, Nat.reduceAdd, Nat.reduceSub, Nat.reduceMul, Nat.reduceDiv, Nat.reduceMod, Nat.reduceLeDiff, Nat.reduceLT, Nat.reduceBEq, Int.reduceEq, Int.reduceBEq, Int.reduceBNe, Int.reduceLT, Int.reduceLE, Int.reduceAdd, Int.reduceSub, Int.reduceNeg, Int.reduceToNat, Int.reducePow, Nat.reducePow, Int.reduceMul, Int.reduceDiv, ↓s_law_BackupHolds, enterK_eq hs1, enterK_eq hs2, hv1, h3, hv2, h4, hlw, h5]
  obtain ⟨b1, H1, m1, fr1⟩ := q_filled l1 v1 H ok hr1 (by omega)
  obtain ⟨b2, H2, m2, fr2⟩ := q_filled l2 v2 H1 fr1.ok (hr2.still fr1.still) (by omega)
  have n1 := fill20 (l := l1) (by omega)
  have n2 := fill20 (l := l2) (by omega)
  generalize fillP l1 = P at fr1 n1
  generalize fillP l2 = Q at fr2 n2
  have f1 := fr1.to fr2.still
  obtain ⟨v3, H3, m3, r3, s3⟩ := q_Encode b1 P H2 f1.mdl (by omega) f1.vok.sz
  have f1 := f1.to s3
  have f2 := fr2.to s3
  obtain ⟨v4, H4, m4, r4, s4⟩ := q_Encode b2 Q H3 f2.mdl (by omega) f2.vok.sz
  have f1 := f1.to s4
  have f2 := f2.to s4
  have r3 := r3.still s4
  have hsP := encB_small f1.wf (by omega)
  have hge := (encB_parts P (by omega)).1
  obtain ⟨N, hN⟩ : ∃ N, (encB P).length = N := ⟨_, rfl⟩
  have hlx := r3.1.lenS
  rw [hN] at hlx hsP hge
  have hN0 : ¬ (N : Int) = 0 := by omega
  have d1 := q_decodes (encB P) v3 b1 P H4 f1.ok r3 (by omega) (decOf_enc f1.wf) f1.mdl (by omega)
  have st3 := BR.str r3
  have st4 := BR.str r4
  have eq1 := q_Equal b1 b2 P Q H4 f1.mdl f2.mdl (by omega) (by omega)
  have hee : (encB P = encB Q) = (P = Q) := propext ⟨fun h => encB_inj f1.wf f2.wf h, fun h => by rw [h]⟩
  -- the copy
  obtain ⟨v5, H5, m5, so5⟩ := copyN r3 (by omega)
  have hl5 := so5.own.rd.lenS
  rw [hN] at hl5
  obtain ⟨k, hk⟩ : ∃ k, at_ % N = k := ⟨_, rfl⟩
  have lk : k < (encB P).length := by rw [hN, ← hk]; exact Nat.mod_lt _ (by omega)
  have q1 : ∀ ox oy, xbin Try.prog .rem T.int ox oy (.int .i64 (at_ : Int)) (.int .i64 (N : Int)) = some (.int .i64 (k : Int)) := fun ox oy => by rw [← hk]; exact remN (by omega)
  have ub := Eng.u8_lt by_
  have uz := Eng.u8_lt (encB P)[k]
  obtain ⟨d, hd⟩ : ∃ d, max 1 by_.toNat = d := ⟨_, rfl⟩
  have hd2 : 1 ≤ d ∧ d < 256 := by omega
  have hmx : max 1 (by_.toNat : Int) = (d : Int) := by omega
  obtain ⟨c, hc⟩ : ∃ c, by8 ((encB P)[k].toNat + d) = c := ⟨_, rfl⟩
  have hcn : (c.toNat : Int) = (((encB P)[k].toNat : Int) + (d : Int)) % 256 := by
    have := by8_cell ((encB P)[k].toNat + d)
    rw [hc] at this
    unfold byteCell at this
    injection this with _ this
  have hne : c ≠ (encB P)[k] := fun h => by rw [h] at hcn; omega
  obtain ⟨bb, oo, kk, i5, c5, w5, so6⟩ := so5.set lk c
  obtain ⟨H6, hH6⟩ : ∃ H6, H5.set bb kk = H6 := ⟨_, rfl⟩
  rw [hH6] at so6
  have add8 : ∀ ox oy, xbin Try.prog .add T.uint8 ox oy (.int .u8 ((encB P)[k].toNat : Int)) (.int .u8 (d : Int)) = some (.int .u8 (c.toNat : Int)) := fun ox oy => by rw [xbin_add, wrapU8, hcn]
  have f6 := f1.to so6.still
  have d2 := q_decodes_none ((encB P).set k c) v5 H6 f6.ok so6.own.sl (by simp; omega) (enc_set lk hne)
  have hw16 : IntKind.wrap .i64 (at_ : Int) = (at_ : Int) := wrap_i64 ⟨by omega, by omega⟩
  have hw8 : IntKind.wrap .i64 (by_.toNat : Int) = (by_.toNat : Int) := wrap_i64 ⟨by omega, by omega⟩
  have hwd : IntKind.wrap .u8 (d : Int) = (d : Int) := by rw [wrapU8]; omega
  generalize (encB P)[k] = zc at c5 add8
  -- any bytes
  have hb6 := hb.still f6.still
  obtain ⟨dn, ds⟩ := q_Decode b w H6 f6.ok hb6 (by omega)
  have bTT : (true != true) = false := rfl
  have bFF : (false != false) = false := rfl
  by_cases hPQ : P = Q
  · rw [decide_eq_true hPQ] at eq1
    have hee : (encB P = encB Q) = True := by simp [hPQ]
    cases hdb : decOf b with
    | none =>
      have dn := dn hdb
      refine any_of (H1 := H6) (d_law_BackupHolds _ _ _ _ _ H ?_)
      simp (maxSteps := 2000000) (disch := first | with_reducible rfl | assumption | omega | rfl | (simp only [go_sem]; first | done | omega)) only [go_sem, ↓reduceIte, reduceCtorEq, Nat.reduceEqDiff, Nat.reduceAdd, Nat.reduceSub, Nat.reduceMul, Nat.reduceDiv, Nat.reduceMod, Nat.reduceLeDiff, Nat.reduceLT, Nat.reduceBEq, Int.reduceEq, Int.reduceBEq, Int.reduceBNe, Int.reduceLT, Int.reduceLE, Int.reduceAdd, Int.reduceSub, Int.reduceNeg, Int.reduceToNat, Int.reducePow, Nat.reducePow, Int.reduceMul, Int.reduceDiv, s_law_BackupHolds, enterK_eq hs1, enterK_eq hs2, hv1, h3, hv2, h4, hlw, h5]
      simp (disch := first | with_reducible rfl | assumption | omega | rfl | (simp only [go_sem]; first | done | omega)) only [go_sem, ↓reduceIte, reduceCtorEq, Nat.reduceEqDiff, Nat.reduceAdd, Nat.reduceSub, Nat.reduceMul, Nat.reduceDiv, Nat.reduceMod, Nat.reduceLeDiff, Nat.reduceLT, Nat.reduceBEq, Int.reduceEq, Int.reduceBEq, Int.reduceBNe, Int.reduceLT, Int.reduceLE, Int.reduceAdd, Int.reduceSub, Int.reduceNeg, Int.reduceToNat, Int.reducePow, Nat.reducePow, Int.reduceMul, Int.reduceDiv, enterK_eq m1, enterK_eq m2, enterK_eq m3, enterK_eq m4, hlx, hN0, enterK_eq d1]
      simp (disch := first | with_reducible rfl | assumption | omega | rfl | (simp only [go_sem]; first | done | omega)) only [go_sem, ↓reduceIte, reduceCtorEq, Nat.reduceEqDiff, Nat.reduceAdd, Nat.reduceSub, Nat.reduceMul, Nat.reduceDiv, Nat.reduceMod, Nat.reduceLeDiff, Nat.reduceLT, Nat.reduceBEq, Int.reduceEq, Int.reduceBEq, Int.reduceBNe, Int.reduceLT, Int.reduceLE, Int.reduceAdd, Int.reduceSub, Int.reduceNeg, Int.reduceToNat, Int.reducePow, Nat.reducePow, Int.reduceMul, Int.reduceDiv, st3, st4, bl_mk, hee, enterK_eq eq1, bool_ne, bTT, bFF]
      simp (disch := first | with_reducible rfl | assumption | omega | rfl | (simp only [go_sem]; first | done | omega)) only [go_sem, ↓reduceIte, reduceCtorEq, Nat.reduceEqDiff, Nat.reduceAdd, Nat.reduceSub, Nat.reduceMul, Nat.reduceDiv, Nat.reduceMod, Nat.reduceLeDiff, Nat.reduceLT, Nat.reduceBEq, Int.reduceEq, Int.reduceBEq, Int.reduceBNe, Int.reduceLT, Int.reduceLE, Int.reduceAdd, Int.reduceSub, Int.reduceNeg, Int.reduceToNat, Int.reducePow, Nat.reducePow, Int.reduceMul, Int.reduceDiv, m5, x_uint16_int, hw16, hl5, q1, i5, c5, x_uint8_int, hw8, hmx, x_int_uint8, hwd, add8, w5, hH6, enterK_eq d2, enterK_eq dn]
    | some m =>
      obtain ⟨bm, H7, ds, f7⟩ := ds m hdb
      have en := q_encodes bm m w b H7 f7.mdl f7.len f7.vok.sz (hb6.still f7.still) (decOf_iff.1 hdb).2
      refine any_of (H1 := H7) (d_law_BackupHolds _ _ _ _ _ H ?_)
      simp (maxSteps := 2000000) (disch := first | with_reducible rfl | assumption | omega | rfl | (simp only [go_sem]; first | done | omega)) only [go_sem, ↓reduceIte, reduceCtorEq, Nat.reduceEqDiff, Nat.reduceAdd, Nat.reduceSub, Nat.reduceMul, Nat.reduceDiv, Nat.reduceMod, Nat.reduceLeDiff, Nat.reduceLT, Nat.reduceBEq, Int.reduceEq, Int.reduceBEq, Int.reduceBNe, Int.reduceLT, Int.reduceLE, Int.reduceAdd, Int.reduceSub, Int.reduceNeg, Int.reduceToNat, Int.reducePow, Nat.reducePow, Int.reduceMul, Int.reduceDiv, s_law_BackupHolds, enterK_eq hs1, enterK_eq hs2, hv1, h3, hv2, h4, hlw, h5]
      simp (disch := first | with_reducible rfl | assumption | omega | rfl | (simp only [go_sem]; first | done | omega)) only [go_sem, ↓reduceIte, reduceCtorEq, Nat.reduceEqDiff, Nat.reduceAdd, Nat.reduceSub, Nat.reduceMul, Nat.reduceDiv, Nat.reduceMod, Nat.reduceLeDiff, Nat.reduceLT, Nat.reduceBEq, Int.reduceEq, Int.reduceBEq, Int.reduceBNe, Int.reduceLT, Int.reduceLE, Int.reduceAdd, Int.reduceSub, Int.reduceNeg, Int.reduceToNat, Int.reducePow, Nat.reducePow, Int.reduceMul, Int.reduceDiv, enterK_eq m1, enterK_eq m2, enterK_eq m3, enterK_eq m4, hlx, hN0, enterK_eq d1]
      simp (disch := first | with_reducible rfl | assumption | omega | rfl | (simp only [go_sem]; first | done | omega)) only [go_sem, ↓reduceIte, reduceCtorEq, Nat.reduceEqDiff, Nat.reduceAdd, Nat.reduceSub, Nat.reduceMul, Nat.reduceDiv, Nat.reduceMod, Nat.reduceLeDiff, Nat.reduceLT, Nat.reduceBEq, Int.reduceEq, Int.reduceBEq, Int.reduceBNe, Int.reduceLT, Int.reduceLE, Int.reduceAdd, Int.reduceSub, Int.reduceNeg, Int.reduceToNat, Int.reducePow, Nat.reducePow, Int.reduceMul, Int.reduceDiv, st3, st4, bl_mk, hee, enterK_eq eq1, bool_ne, bTT, bFF]
      simp (disch := first | with_reducible rfl | assumption | omega | rfl | (simp only [go_sem]; first | done | omega)) only [go_sem, ↓reduceIte, reduceCtorEq, Nat.reduceEqDiff, Nat.reduceAdd, Nat.reduceSub, Nat.reduceMul, Nat.reduceDiv, Nat.reduceMod, Nat.reduceLeDiff, Nat.reduceLT, Nat.reduceBEq, Int.reduceEq, Int.reduceBEq, Int.reduceBNe, Int.reduceLT, Int.reduceLE, Int.reduceAdd, Int.reduceSub, Int.reduceNeg, Int.reduceToNat, Int.reducePow, Nat.reducePow, Int.reduceMul, Int.reduceDiv, m5, x_uint16_int, hw16, hl5, q1, i5, c5, x_uint8_int, hw8, hmx, x_int_uint8, hwd, add8, w5, hH6, enterK_eq d2, enterK_eq ds, enterK_eq en]
  · rw [decide_eq_false hPQ] at eq1
    have hee : ¬ encB P = encB Q := by rw [hee]; exact hPQ
    cases hdb : decOf b with
    | none =>
      have dn := dn hdb
      refine any_of (H1 := H6) (d_law_BackupHolds _ _ _ _ _ H ?_)
      simp (maxSteps := 2000000) (disch := first | with_reducible rfl | assumption | omega | rfl | (simp only [go_sem]; first | done | omega)) only [go_sem, ↓reduceIte, reduceCtorEq, Nat.reduceEqDiff, Nat.reduceAdd, Nat.reduceSub, Nat.reduceMul, Nat.reduceDiv, Nat.reduceMod, Nat.reduceLeDiff, Nat.reduceLT, Nat.reduceBEq, Int.reduceEq, Int.reduceBEq, Int.reduceBNe, Int.reduceLT, Int.reduceLE, Int.reduceAdd, Int.reduceSub, Int.reduceNeg, Int.reduceToNat, Int.reducePow, Nat.reducePow, Int.reduceMul, Int.reduceDiv, s_law_BackupHolds, enterK_eq hs1, enterK_eq hs2, hv1, h3, hv2, h4, hlw, h5]
      simp (disch := first | with_reducible rfl | assumption | omega | rfl | (simp only [go_sem]; first | done | omega)) only [go_sem, ↓reduceIte, reduceCtorEq, Nat.reduceEqDiff, Nat.reduceAdd, Nat.reduceSub, Nat.reduceMul, Nat.reduceDiv, Nat.reduceMod, Nat.reduceLeDiff, Nat.reduceLT, Nat.reduceBEq, Int.reduceEq, Int.reduceBEq, Int.reduceBNe, Int.reduceLT, Int.reduceLE, Int.reduceAdd, Int.reduceSub, Int.reduceNeg, Int.reduceToNat, Int.reducePow, Nat.reducePow, Int.reduceMul, Int.reduceDiv, enterK_eq m1, enterK_eq m2, enterK_eq m3, enterK_eq m4, hlx, hN0, enterK_eq d1]
      simp (disch := first | with_reducible rfl | assumption | omega | rfl | (simp only [go_sem]; first | done | omega)) only [go_sem, ↓reduceIte, reduceCtorEq, Nat.reduceEqDiff, Nat.reduceAdd, Nat.reduceSub, Nat.reduceMul, Nat.reduceDiv, Nat.reduceMod, Nat.reduceLeDiff, Nat.reduceLT, Nat.reduceBEq, Int.reduceEq, Int.reduceBEq, Int.reduceBNe, Int.reduceLT, Int.reduceLE, Int.reduceAdd, Int.reduceSub, Int.reduceNeg, Int.reduceToNat, Int.reducePow, Nat.reducePow, Int.reduceMul, Int.reduceDiv, st3, st4, bl_mk, hee, enterK_eq eq1, bool_ne, bTT, bFF]
      simp (disch := first | with_reducible rfl | assumption | omega | rfl | (simp only [go_sem]; first | done | omega)) only [go_sem, ↓reduceIte, reduceCtorEq, Nat.reduceEqDiff, Nat.reduceAdd, Nat.reduceSub, Nat.reduceMul, Nat.reduceDiv, Nat.reduceMod, Nat.reduceLeDiff, Nat.reduceLT, Nat.reduceBEq, Int.reduceEq, Int.reduceBEq, Int.reduceBNe, Int.reduceLT, Int.reduceLE, Int.reduceAdd, Int.reduceSub, Int.reduceNeg, Int.reduceToNat, Int.reducePow, Nat.reducePow, Int.reduceMul, Int.reduceDiv, m5, x_uint16_int, hw16, hl5, q1, i5, c5, x_uint8_int, hw8, hmx, x_int_uint8, hwd, add8, w5, hH6, enterK_eq d2, enterK_eq dn]
    | some m =>
      obtain ⟨bm, H7, ds, f7⟩ := ds m hdb
      have en := q_encodes bm m w b H7 f7.mdl f7.len f7.vok.sz (hb6.still f7.still) (decOf_iff.1 hdb).2
      refine any_of (H1 := H7) (d_law_BackupHolds _ _ _ _ _ H ?_)
      simp (maxSteps := 2000000) (disch := first | with_reducible rfl | assumption | omega | rfl | (simp only [go_sem]; first | done | omega)) only [go_sem, ↓reduceIte, reduceCtorEq, Nat.reduceEqDiff, Nat.reduceAdd, Nat.reduceSub, Nat.reduceMul, Nat.reduceDiv, Nat.reduceMod, Nat.reduceLeDiff, Nat.reduceLT, Nat.reduceBEq, Int.reduceEq, Int.reduceBEq, Int.reduceBNe, Int.reduceLT, Int.reduceLE, Int.reduceAdd, Int.reduceSub, Int.reduceNeg, Int.reduceToNat, Int.reducePow, Nat.reducePow, Int.reduceMul, Int.reduceDiv, s_law_BackupHolds, enterK_eq hs1, enterK_eq hs2, hv1, h3, hv2, h4, hlw, h5]
      simp (disch := first | with_reducible rfl | assumption | omega | rfl | (simp only [go_sem]; first | done | omega)) only [go_sem, ↓reduceIte, reduceCtorEq, Nat.reduceEqDiff, Nat.reduceAdd, Nat.reduceSub, Nat.reduceMul, Nat.reduceDiv, Nat.reduceMod, Nat.reduceLeDiff, Nat.reduceLT, Nat.reduceBEq, Int.reduceEq, Int.reduceBEq, Int.reduceBNe, Int.reduceLT, Int.reduceLE, Int.reduceAdd, Int.reduceSub, Int.reduceNeg, Int.reduceToNat, Int.reducePow, Nat.reducePow, Int.reduceMul, Int.reduceDiv, enterK_eq m1, enterK_eq m2, enterK_eq m3, enterK_eq m4, hlx, hN0, enterK_eq d1]
      simp (disch := first | with_reducible rfl | assumption | omega | rfl | (simp only [go_sem]; first | done | omega)) only [go_sem, ↓reduceIte, reduceCtorEq, Nat.reduceEqDiff, Nat.reduceAdd, Nat.reduceSub, Nat.reduceMul, Nat.reduceDiv, Nat.reduceMod, Nat.reduceLeDiff, Nat.reduceLT, Nat.reduceBEq, Int.reduceEq, Int.reduceBEq, Int.reduceBNe, Int.reduceLT, Int.reduceLE, Int.reduceAdd, Int.reduceSub, Int.reduceNeg, Int.reduceToNat, Int.reducePow, Nat.reducePow, Int.reduceMul, Int.reduceDiv, st3, st4, bl_mk, hee, enterK_eq eq1, bool_ne, bTT, bFF]
      simp (disch := first | with_reducible rfl | assumption | omega | rfl | (simp only [go_sem]; first | done | omega)) only [go_sem, ↓reduceIte, reduceCtorEq, Nat.reduceEqDiff, Nat.reduceAdd, Nat.reduceSub, Nat.reduceMul, Nat.reduceDiv, Nat.reduceMod, Nat.reduceLeDiff, Nat.reduceLT, Nat.reduceBEq, Int.reduceEq, Int.reduceBEq, Int.reduceBNe, Int.reduceLT, Int.reduceLE, Int.reduceAdd, Int.reduceSub, Int.reduceNeg, Int.reduceToNat, Int.reducePow, Nat.reducePow, Int.reduceMul, Int.reduceDiv, m5, x_uint16_int, hw16, hl5, q1, i5, c5, x_uint8_int, hw8, hmx, x_int_uint8, hwd, add8, w5, hH6, enterK_eq d2, enterK_eq ds, enterK_eq en]

theorem run_BackupHolds (W : World) (v1 : Value) (l1 : List Pr) (r1 : RdS EPr T.api_Pair (absHeap2 W) v1 l1) (_ : ∀ x, x ∈ l1 → True) (hl1 : l1.length ≤ maxLen) (v2 : Value) (l2 : List Pr) (r2 : RdS EPr T.api_Pair (absHeap2 W) v2 l2) (_ : ∀ x, x ∈ l2 → True) (hl2 : l2.length ≤ maxLen)
    (at_ : Int) (ha : (Lit.int .u16 at_).wf = true) (by_ : Int) (hy : (Lit.int .u8 by_).wf = true) (w : Value) (b : List UInt8) (rb : RdS EB T.uint8 (absHeap2 W) w b) (_ : ∀ x, x ∈ b → True) (_ : b.length ≤ maxLen) :
    ∃ k H', dCall Try.prog prims1 hints k F.law_BackupHolds [v1, v2, .int .u16 at_, .int .u8 by_, w] (absHeap2 W) = some (.bool true, H') := by
  obtain ⟨y, rfl⟩ := wf_u8' hy
  have ha := wf_u16 ha
  obtain ⟨x, rfl⟩ : ∃ x : Nat, at_ = x := ⟨at_.toNat, by omega⟩
  obtain ⟨H', h⟩ := q_BackupHolds l1 l2 b v1 v2 w x (by omega) y (absHeap2 W) (absHeap2_ok W) r1.1 r2.1 rb
  obtain ⟨k, h⟩ := D_run h
  exact ⟨k, _, h⟩

end Go.Proofs.Ytehnchfnhbmkdaa

/-
  The law BackupHolds: for every input it returns true, and its input reads as it did.
  Conditions: none. By an AI agent.
-/
namespace Go.Proofs.Ytehnchfnhbmkdaa.backupHolds
open Go.ChangeShapes Go.WideShapes Go.ChangeAt Go.RowKit
open Go.ChangeMaps (open_string shut_string)
set_option linter.unusedVariables false
theorem own : ownKnob Try.prog.godebug = none := by kernel_rfl
theorem laidOut : laidOutB Try.prog = true := by kernel_rfl
set_option maxRecDepth 100000 in
theorem lifted (os : Os) (started : os.Started) (H : Type) (enc : TypeId × Value → H) :
    ReturnsInHanded {} Try.checked os 8 .any (Rows.backupHoldsSpec.pre6 enc Try.prog Try.f8 Rows.backupHoldsRow.domain false) (Rows.backupHoldsSpec.post enc Try.prog Try.f8 false true false false) := by
  refine returnsInHanded_of_change_sized (C := Try.checked) own started (by kernel_rfl) Try.func8
    (ChangeSpec.witness6 (enc := enc) (C := Try.checked) false ⟨#[], #[.slice none 0 0, .slice none 0 0, .int .u16 0, .int .u8 0, .slice none 0 0], []⟩ 8 (by kernel_rfl) (by kernel_rfl) (by kernel_rfl) (by kernel_rfl)) ?_
  intro W base args ds gs before hval0 hW hcnd hsz0 _
  have hsz : (DataW.weightsEach Try.prog (Try.f8.params.toList ++ Rows.backupHoldsSpec.plain.varTypes Try.prog) (ds ++ gs)).all (· ≤ reachBytes) = true := hsz0
  have hval : ∀ (j : Nat) t v, Try.f8.params[j]? = some t → args[j]? = some v → Value.okWide Try.prog W .any base t v := hval0
  have hW' := hW
  obtain ⟨p, q, hA0, hV, rfl, hfz, hnd⟩ := hW
  have hA : DataW.TrodAll enc Try.prog W 0 (fun _ => true) true Try.f8.params.toList args.toList ds p := hA0
  rw [Try.params8] at hA hval hsz
  obtain ⟨v0, vs0, d0, ds0, p0, q0, hargs, rfl, rfl, h0, r0⟩ := trodAll_cons hA
  obtain ⟨v1, vs1, d1, ds1, p1, q1, rfl, rfl, rfl, h1, r1⟩ := trodAll_cons r0
  obtain ⟨v2, vs2, d2, ds2, p2, q2, rfl, rfl, rfl, h2, r2⟩ := trodAll_cons r1
  obtain ⟨v3, vs3, d3, ds3, p3, q3, rfl, rfl, rfl, h3, r3⟩ := trodAll_cons r2
  obtain ⟨v4, vs4, d4, ds4, p4, q4, rfl, rfl, rfl, h4, r4⟩ := trodAll_cons r3
  obtain ⟨rfl, rfl, rfl⟩ := trodAll_nil r4
  obtain rfl : args = #[v0, v1, v2, v3, v4] := by cases args; simp_all
  obtain ⟨rfl, rfl⟩ := trodVars_none hV
  have k0 := h0
  have lt0 : ∀ x ∈ p0, x.block < W.heap.size := by obtain ⟨m, hm⟩ := k0; exact DataW.trod_lt m _ _ _ hm
  obtain ⟨l0, rd0, all0, len0⟩ := Eng.open_rd2 (t := 37) (e' := 60) Try.underlying37 (by kernel_rfl) (fun hp cs n y h hl => decPr2 hp h hl) (hval 0 37 v0 rfl rfl) k0
  have k1 := h1
  have lt1 : ∀ x ∈ p1, x.block < W.heap.size := by obtain ⟨m, hm⟩ := k1; exact DataW.trod_lt m _ _ _ hm
  obtain ⟨l1, rd1, all1, len1⟩ := Eng.open_rd2 (t := 37) (e' := 60) Try.underlying37 (by kernel_rfl) (fun hp cs n y h hl => decPr2 hp h hl) (hval 1 37 v1 rfl rfl) k1
  obtain ⟨a2, rfl, rfl, rfl, w2⟩ := open_int Try.underlying48 (hval 2 48 v2 rfl rfl) h2
  obtain ⟨a3, rfl, rfl, rfl, w3⟩ := open_int Try.underlying5 (hval 3 5 v3 rfl rfl) h3
  have k4 := h4
  have lt4 : ∀ x ∈ p4, x.block < W.heap.size := by obtain ⟨m, hm⟩ := k4; exact DataW.trod_lt m _ _ _ hm
  obtain ⟨l4, rd4, all4, len4⟩ := Eng.open_rd2 (t := 22) (e' := 5) Try.underlying22 (by kernel_rfl) (fun hp cs n y h hl => decB2 hp h hl) (hval 4 22 v4 rfl rfl) k4
  refine (Eng.law_calls2 (args := #[v0, v1, .int .u16 a2, .int .u8 a3, v4]) prims1_ok mixed (fun _ hg => absurd hg List.not_mem_nil) (run_BackupHolds W (Eng.convA2 W.heap.size v0) l0 rd0 all0 len0 (Eng.convA2 W.heap.size v1) l1 rd1 all1 len1 a2 w2 a3 w3 (Eng.convA2 W.heap.size v4) l4 rd4 all4 len4)).mono fun e W' ⟨he, bel⟩ => ?_
  subst he
  exact ⟨_, rfl, _, _, _, [], _, [], hW', trodAll_mk1 (shut_bool Try.underlying4 _), (trodAll_cons_mk (Below.trod laidOut (by kernel_rfl) (of_decide_eq_true (by kernel_rfl)) k0 bel lt0) (trodAll_cons_mk (Below.trod laidOut (by kernel_rfl) (of_decide_eq_true (by kernel_rfl)) k1 bel lt1) (trodAll_cons_mk (shut_int Try.underlying48 w2) (trodAll_cons_mk (shut_int Try.underlying5 w3) (trodAll_cons_mk (Below.trod laidOut (by kernel_rfl) (of_decide_eq_true (by kernel_rfl)) k4 bel lt4) trodAll_mk0))))), rfl, bel.frame _, fun h => by cases h⟩

theorem over : Rows.backupHoldsRow.holds Try.pinned (OpenSpec.ofChange Rows.backupHoldsSpec) :=
  OpenClaim.holds_of_wide 8 Try.f8 rfl rfl rfl rfl rfl rfl rfl ⟨rfl, rfl, rfl, rfl, rfl⟩ rfl rfl rfl rfl rfl (by kernel_rfl) Try.func8 (by kernel_rfl)
    (of_decide_eq_true (by kernel_rfl)) (by unfold Func.isWrapper; first | (rw [if_pos (by decide +kernel)]; kernel_rfl) | (rw [if_neg (by decide +kernel)]; exact ⟨rfl, rfl⟩))
    (fun os started H enc _ => lifted os started H enc)
theorem proved : Rows.BackupHoldsSaid := over
#print axioms proved
end Go.Proofs.Ytehnchfnhbmkdaa.backupHolds
namespace Go.Proofs.Ytehnchfnhbmkdaa
/-- The row, under a short name, for the claim. -/
theorem backupHolds_holds : Rows.BackupHoldsSaid := backupHolds.proved
end Go.Proofs.Ytehnchfnhbmkdaa
