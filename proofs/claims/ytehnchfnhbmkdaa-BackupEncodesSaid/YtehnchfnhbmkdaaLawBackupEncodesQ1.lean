/-
  4 texts in one (merge.py): ShBackupEncodes DsBackupEncodes Ya LawBackupEncodes.
  Conditions: none. By an AI agent.
-/
import Derived.Test.YtehnchfnhbmkdaaQc1
import Derived.Test.YtehnchfnhbmkdaaChecked
import Derived.KernelRfl
import Derived.Test.YtehnchfnhbmkdaaRows
import Derived.WalkKit
import Derived.ProofKit
import Derived.OpenShut
import Derived.ShutString
import Derived.ChangeOld
import Derived.Below
import Derived.SizedLaws
import Derived.ChangeArms
import Derived.Carry

/-
  The seat's functions as terms over the engine's combinators (a program of ours printed it).
  Conditions: none. By an AI agent.
-/
set_option linter.unusedVariables false
namespace Go.Proofs.Ytehnchfnhbmkdaa
open Go Eng

/-! ticketline.ticketlinelaw48.BackupEncodes -/

noncomputable def s_law_BackupEncodes (mg : GT) (mc : CT) (ms : ST) (P : Program) (C : CallF) (a0 : Value) (a1 : Value) (H : AHeap) (K0 : K) : Res :=
enterK C F.law_small [a0] H fun t8 h1 =>
bareK (xun P .not t8) h1 fun t9 h2 =>
mg t9 false (fun o1 => o1 a1 h2) h2 fun t11 h3 =>
mg t9 false (fun o2 => bareK (lenS t11) h3 o2) h3 fun t12 h4 =>
mg t9 false (fun o3 => bareK (xbin P .gtr T.int (.tmp 12) (.const (.int .i64 300)) t12 (.int .i64 300)) h4 o3) h4 fun t13 h5 =>
pickK t9 (.bool true) t13 fun t14 =>
mc t14 (fun k4 => enterK C F.law_known [] h5 fun t15 h6 =>
k4 .ret [(4, t15)] h6) (fun k4 =>
k4 .normal [(0, a0), (1, a1)] h5) (seqK (fun tT h7 =>
enterK C F.law_filled [(get tT 0)] h7 fun t17 h8 =>
enterK C F.model_Model_Pairs [t17] h8 fun t19 h9 =>
enterK C F.law_bytesOf [t19] h9 fun t20 h10 =>
enterK C F.backup_Check [(get tT 1)] h10 fun t22 h11 =>
bothK (xconv P T.uint32 T.int t22 h11) fun t23 h12 =>
enterK C F.law_check [(get tT 1)] h12 fun t25 h13 =>
bareK (xbin P .eql T.int (.tmp 23) (.tmp 25) t23 t25) h13 fun t26 h14 =>
mg t26 true (fun o5 => o5 t17 h14) h14 fun t28 h15 =>
mg t26 true (fun o6 => o6 t20 h15) h15 fun t29 h16 =>
mg t26 true (fun o7 => enterK C F.law_encodes [t28, t29, (.int .i64 0)] h16 o7) h16 fun t30 h17 =>
pickK t26 t30 (.bool false) fun t31 =>
mg t31 true (fun o8 => o8 t20 h17) h17 fun t33 h18 =>
mg t31 true (fun o9 => o9 t17 h18) h18 fun t34 h19 =>
mg t31 true (fun o10 => enterK C F.law_decodes [t33, t34, (.int .i64 0)] h19 o10) h19 fun t35 h20 =>
pickK t31 t35 (.bool false) fun t36 =>
mg t36 true (fun o11 => enterK C F.law_encodes [(.pointer none), (.slice none 0 0), (.int .i64 1)] h20 o11) h20 fun t38 h21 =>
pickK t36 t38 (.bool false) fun t39 =>
mg t39 true (fun o12 => enterK C F.law_known [] h21 o12) h21 fun t41 h22 =>
pickK t39 t41 (.bool false) fun t42 =>
K0 .ret [(4, t42)] h22) K0)

theorem s_law_BackupEncodes_eq (M : CombL) (C : CallF) (LP : LoopH) (a0 : Value) (a1 : Value) (H : AHeap) : dBodyL M Try.prog hints C LP F.law_BackupEncodes [a0, a1] H = s_law_BackupEncodes M.b.g M.c M.s Try.prog C a0 a1 H (endK Try.prog [.tmp 4]) := by kernel_rfl

end Go.Proofs.Ytehnchfnhbmkdaa

/-
  The equations of the seat's functions over calls in the limit (a program of ours printed it).
  Conditions: none. By an AI agent.
-/
set_option linter.unusedVariables false
namespace Go.Proofs.Ytehnchfnhbmkdaa
open Go Eng



theorem d_law_BackupEncodes (a0 : Value) (a1 : Value) (H : AHeap) {r : Value × AHeap} (h : s_law_BackupEncodes guardK condL shareL Try.prog CC a0 a1 H (endK Try.prog [.tmp 4]) = some r) : CC F.law_BackupEncodes [a0, a1] H = some (tidy H r) := D_body (by kernel_rfl) ((s_law_BackupEncodes_eq stdL CC limLP a0 a1 H).trans (Eq.trans (show s_law_BackupEncodes stdL.b.g stdL.c stdL.s Try.prog CC a0 a1 H (endK Try.prog [.tmp 4]) = s_law_BackupEncodes guardK condL shareL Try.prog CC a0 a1 H (endK Try.prog [.tmp 4]) by kernel_rfl) h))

end Go.Proofs.Ytehnchfnhbmkdaa

/-
  Chapter 48: BackupEncodes.
  Conditions: none. By an AI agent.
-/
set_option maxRecDepth 10000
set_option linter.unusedSimpArgs false
set_option linter.unusedVariables false
namespace Go.Proofs.Ytehnchfnhbmkdaa
open Go Eng

theorem q_BackupEncodes (l : List Pr) (b : List UInt8) (v w : Value) (H : AHeap) (ok : MOk H) (hr : Rd EPr H v l) (hb : BR H w b) : ∃ H', CC F.law_BackupEncodes [v, w] H = some (.bool true, H') := by
  have hs := q_small l v H hr
  have hlw := hb.1.lenS
  cases h0 : smallP l with
  | false =>
    rw [h0] at hs
    refine any_of (H1 := H) (d_law_BackupEncodes _ _ H ?_)
    simp (disch := first | with_reducible rfl | assumption | omega | rfl | (simp only [go_sem]; first | done | omega)) only [go_sem, ↓reduceIte, reduceCtorEq, Nat.reduceEqDiff, Nat.reduceAdd, Nat.reduceSub, Nat.reduceMul, Nat.reduceDiv, Nat.reduceMod, Nat.reduceLeDiff, Nat.reduceLT, Nat.reduceBEq, Int.reduceEq, Int.reduceBEq, Int.reduceBNe, Int.reduceLT, Int.reduceLE, Int.reduceAdd, Int.reduceSub, Int.reduceNeg, Int.reduceToNat, Int.reducePow, Nat.reducePow, Int.reduceMul, Int.reduceDiv, ↓s_law_BackupEncodes, enterK_eq hs]
  | true =>
    rw [h0] at hs
    by_cases h1 : 300 < (b.length : Int)
    · refine any_of (H1 := H) (d_law_BackupEncodes _ _ H ?_)
      simp (disch := first | with_reducible rfl | assumption | omega | rfl | (simp only [go_sem]; first | done | omega)) only [go_sem, ↓reduceIte, reduceCtorEq, Nat.reduceEqDiff, Nat.reduceAdd, Nat.reduceSub, Nat.reduceMul, Nat.reduceDiv, Nat.reduceMod, Nat.reduceLeDiff, Nat.reduceLT, Nat.reduceBEq, Int.reduceEq, Int.reduceBEq, Int.reduceBNe, Int.reduceLT, Int.reduceLE, Int.reduceAdd, Int.reduceSub, Int.reduceNeg, Int.reduceToNat, Int.reducePow, Nat.reducePow, Int.reduceMul, Int.reduceDiv, ↓s_law_BackupEncodes, enterK_eq hs, hlw, h1]
    have hl30 := smallP_ok h0
    obtain ⟨bm, H1, m1, fr1⟩ := q_filled l v H ok hr (by omega)
    have hfl : (fillP l).length ≤ 30 := by have := fill_len l []; unfold fillP; simp at this; omega
    generalize fillP l = m at fr1 hfl
    obtain ⟨v2, H2, m2, o2, s2, _⟩ := q_Pairs bm m H1 fr1.mdl (by omega)
    obtain ⟨v3, H3, m3, so3⟩ := q_bytesOf m v2 H2 o2.rd (by omega) fr1.vok.sz
    have fr3 := (fr1.to s2).to so3.still
    have hb3 := hb.still fr3.still
    have c1 := q_Check b w H3 hb3.1 (by omega)
    have c2 := q_lcheck b w H3 hb3.1 (by omega)
    have hadl := adl_lt b
    have hw : IntKind.wrap .i64 (adl b) = adl b := wrap_i64 ⟨by omega, by omega⟩
    have e1 := q_encodes bm m v3 (encB m) H3 fr3.mdl (by omega) fr3.vok.sz so3.own.sl rfl
    have hsz := encB_small fr3.wf (by omega)
    have e2 := q_decodes (encB m) v3 bm m H3 fr3.ok so3.own.sl (by omega) (decOf_enc fr3.wf) fr3.mdl (by omega)
    have e3 := q_encodes_nil H3
    refine any_of (H1 := H3) (d_law_BackupEncodes _ _ H ?_)
    simp (disch := first | with_reducible rfl | assumption | omega | rfl | (simp only [go_sem]; first | done | omega)) only [go_sem, ↓reduceIte, reduceCtorEq, Nat.reduceEqDiff, Nat.reduceAdd, Nat.reduceSub, Nat.reduceMul, Nat.reduceDiv, Nat.reduceMod, Nat.reduceLeDiff, Nat.reduceLT, Nat.reduceBEq, Int.reduceEq, Int.reduceBEq, Int.reduceBNe, Int.reduceLT, Int.reduceLE, Int.reduceAdd, Int.reduceSub, Int.reduceNeg, Int.reduceToNat, Int.reducePow, Nat.reducePow, Int.reduceMul, Int.reduceDiv, ↓s_law_BackupEncodes, enterK_eq hs, hlw, h1, enterK_eq m1, enterK_eq m2, enterK_eq m3, enterK_eq c1, x_uint32_int, hw, enterK_eq c2, enterK_eq e1, enterK_eq e2, enterK_eq e3]

theorem run_BackupEncodes (W : World) (v : Value) (l : List Pr) (r : RdS EPr T.api_Pair (absHeap2 W) v l) (_ : ∀ x, x ∈ l → True) (_ : l.length ≤ maxLen) (w : Value) (b : List UInt8) (rb : RdS EB T.uint8 (absHeap2 W) w b) (_ : ∀ x, x ∈ b → True) (_ : b.length ≤ maxLen) :
    ∃ k H', dCall Try.prog prims1 hints k F.law_BackupEncodes [v, w] (absHeap2 W) = some (.bool true, H') := by
  obtain ⟨H', h⟩ := q_BackupEncodes l b v w (absHeap2 W) (absHeap2_ok W) r.1 rb
  obtain ⟨k, h⟩ := D_run h
  exact ⟨k, _, h⟩

end Go.Proofs.Ytehnchfnhbmkdaa

/-
  The law BackupEncodes: for every input it returns true, and its input reads as it did.
  Conditions: none. By an AI agent.
-/
namespace Go.Proofs.Ytehnchfnhbmkdaa.backupEncodes
open Go.ChangeShapes Go.WideShapes Go.ChangeAt Go.RowKit
open Go.ChangeMaps (open_string shut_string)
set_option linter.unusedVariables false
theorem own : ownKnob Try.prog.godebug = none := by kernel_rfl
theorem laidOut : laidOutB Try.prog = true := by kernel_rfl
set_option maxRecDepth 100000 in
theorem lifted (os : Os) (started : os.Started) (H : Type) (enc : TypeId × Value → H) :
    ReturnsInHanded {} Try.checked os 6 .any (Rows.backupEncodesSpec.pre6 enc Try.prog Try.f6 Rows.backupEncodesRow.domain false) (Rows.backupEncodesSpec.post enc Try.prog Try.f6 false true false false) := by
  refine returnsInHanded_of_change_sized (C := Try.checked) own started (by kernel_rfl) Try.func6
    (ChangeSpec.witness6 (enc := enc) (C := Try.checked) false ⟨#[], #[.slice none 0 0, .slice none 0 0], []⟩ 8 (by kernel_rfl) (by kernel_rfl) (by kernel_rfl) (by kernel_rfl)) ?_
  intro W base args ds gs before hval0 hW hcnd hsz0 _
  have hsz : (DataW.weightsEach Try.prog (Try.f6.params.toList ++ Rows.backupEncodesSpec.plain.varTypes Try.prog) (ds ++ gs)).all (· ≤ reachBytes) = true := hsz0
  have hval : ∀ (j : Nat) t v, Try.f6.params[j]? = some t → args[j]? = some v → Value.okWide Try.prog W .any base t v := hval0
  have hW' := hW
  obtain ⟨p, q, hA0, hV, rfl, hfz, hnd⟩ := hW
  have hA : DataW.TrodAll enc Try.prog W 0 (fun _ => true) true Try.f6.params.toList args.toList ds p := hA0
  rw [Try.params6] at hA hval hsz
  obtain ⟨v0, vs0, d0, ds0, p0, q0, hargs, rfl, rfl, h0, r0⟩ := trodAll_cons hA
  obtain ⟨v1, vs1, d1, ds1, p1, q1, rfl, rfl, rfl, h1, r1⟩ := trodAll_cons r0
  obtain ⟨rfl, rfl, rfl⟩ := trodAll_nil r1
  obtain rfl : args = #[v0, v1] := by cases args; simp_all
  obtain ⟨rfl, rfl⟩ := trodVars_none hV
  have k0 := h0
  have lt0 : ∀ x ∈ p0, x.block < W.heap.size := by obtain ⟨m, hm⟩ := k0; exact DataW.trod_lt m _ _ _ hm
  obtain ⟨l0, rd0, all0, len0⟩ := Eng.open_rd2 (t := 37) (e' := 60) Try.underlying37 (by kernel_rfl) (fun hp cs n y h hl => decPr2 hp h hl) (hval 0 37 v0 rfl rfl) k0
  have k1 := h1
  have lt1 : ∀ x ∈ p1, x.block < W.heap.size := by obtain ⟨m, hm⟩ := k1; exact DataW.trod_lt m _ _ _ hm
  obtain ⟨l1, rd1, all1, len1⟩ := Eng.open_rd2 (t := 22) (e' := 5) Try.underlying22 (by kernel_rfl) (fun hp cs n y h hl => decB2 hp h hl) (hval 1 22 v1 rfl rfl) k1
  refine (Eng.law_calls2 (args := #[v0, v1]) prims1_ok mixed (fun _ hg => absurd hg List.not_mem_nil) (run_BackupEncodes W (Eng.convA2 W.heap.size v0) l0 rd0 all0 len0 (Eng.convA2 W.heap.size v1) l1 rd1 all1 len1)).mono fun e W' ⟨he, bel⟩ => ?_
  subst he
  exact ⟨_, rfl, _, _, _, [], _, [], hW', trodAll_mk1 (shut_bool Try.underlying4 _), (trodAll_cons_mk (Below.trod laidOut (by kernel_rfl) (of_decide_eq_true (by kernel_rfl)) k0 bel lt0) (trodAll_cons_mk (Below.trod laidOut (by kernel_rfl) (of_decide_eq_true (by kernel_rfl)) k1 bel lt1) trodAll_mk0)), rfl, bel.frame _, fun h => by cases h⟩

theorem over : Rows.backupEncodesRow.holds Try.pinned (OpenSpec.ofChange Rows.backupEncodesSpec) :=
  OpenClaim.holds_of_wide 6 Try.f6 rfl rfl rfl rfl rfl rfl rfl ⟨rfl, rfl, rfl, rfl, rfl⟩ rfl rfl rfl rfl rfl (by kernel_rfl) Try.func6 (by kernel_rfl)
    (of_decide_eq_true (by kernel_rfl)) (by unfold Func.isWrapper; first | (rw [if_pos (by decide +kernel)]; kernel_rfl) | (rw [if_neg (by decide +kernel)]; exact ⟨rfl, rfl⟩))
    (fun os started H enc _ => lifted os started H enc)
theorem proved : Rows.BackupEncodesSaid := over
#print axioms proved
end Go.Proofs.Ytehnchfnhbmkdaa.backupEncodes
namespace Go.Proofs.Ytehnchfnhbmkdaa
/-- The row, under a short name, for the claim. -/
theorem backupEncodes_holds : Rows.BackupEncodesSaid := backupEncodes.proved
end Go.Proofs.Ytehnchfnhbmkdaa
