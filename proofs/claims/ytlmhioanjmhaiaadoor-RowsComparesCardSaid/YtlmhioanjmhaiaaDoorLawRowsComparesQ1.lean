/-
  4 texts in one (merge.py): ShRowsCompares DsRowsCompares Ca LawRowsCompares.
  Conditions: none. By an AI agent.
-/
import Derived.Test.YtlmhioanjmhaiaaDoorQb3
import Derived.Test.YtlmhioanjmhaiaaDoorChecked
import Derived.KernelRfl
import Derived.Test.YtlmhioanjmhaiaaDoorRows
import Derived.Test.YtlmhioanjmhaiaaDoorCards
import Derived.Test.YtlmhioanjmhaiaaDoorTie
import Derived.WalkKit
import Derived.ProofKit
import Derived.OpenShut
import Derived.ShutString
import Derived.ChangeOld
import Derived.Below
import Derived.SizedLaws
import Derived.ChangeArms
import Derived.Carry
import Derived.Lay
import Derived.PinnedBridge
import Derived.LaidOnce
import Derived.SevenTiedAt
import Derived.HandedShaped
import Derived.Shelf.Vars

/-
  The seat's functions as terms over the engine's combinators (a program of ours printed it).
  Conditions: none. By an AI agent.
-/
set_option linter.unusedVariables false
namespace Go.Proofs.YtlmhioanjmhaiaaDoor
open Go Eng

/-! ticketline.ticketlinelaw40.RowsCompares -/

noncomputable def s_law_RowsCompares (mg : GT) (mc : CT) (ms : ST) (P : Program) (C : CallF) (a0 : Value) (a1 : Value) (a2 : Value) (a3 : Value) (H : AHeap) (K0 : K) : Res :=
bothK (newv T.api_Cell a0 H) fun t4 h1 =>
bothK (newv T.api_Cell a1 h1) fun t5 h2 =>
bareK (fad 3 t4) h2 fun t9 h3 =>
bareK (ld1 h3 t9) h3 fun t10 h4 =>
bareK (lenT t10) h4 fun t11 h5 =>
bareK (xbin P .gtr T.int (.tmp 11) (.const (.int .i64 60)) t11 (.int .i64 60)) h5 fun t12 h6 =>
mg t12 false (fun o1 => bareK (fad 3 t5) h6 o1) h6 fun t14 h7 =>
mg t12 false (fun o2 => bareK (ld1 h7 t14) h7 o2) h7 fun t15 h8 =>
mg t12 false (fun o3 => bareK (lenT t15) h8 o3) h8 fun t16 h9 =>
mg t12 false (fun o4 => bareK (xbin P .gtr T.int (.tmp 16) (.const (.int .i64 60)) t16 (.int .i64 60)) h9 o4) h9 fun t17 h10 =>
pickK t12 (.bool true) t17 fun t18 =>
mg t18 false (fun o5 => bareK (bldS #[(.int .i64 0), (.slice none 0 0), (.slice none 0 0)] [(0, 1), (1, 1), (2, 1)] []) h10 o5) h10 fun t20 h11 =>
mg t18 false (fun o6 => o6 a2 h11) h11 fun t21 h12 =>
mg t18 false (fun o7 => enterK C F.law_small [t20, t21] h12 o7) h12 fun t22 h13 =>
mg t18 false (fun o8 => bareK (xun P .not t22) h13 o8) h13 fun t23 h14 =>
pickK t18 (.bool true) t23 fun t24 =>
mg t24 false (fun o9 => bareK (bldS #[(.int .i64 0), (.slice none 0 0), (.slice none 0 0)] [(0, 1), (1, 1), (2, 1)] []) h14 o9) h14 fun t26 h15 =>
mg t24 false (fun o10 => o10 a3 h15) h15 fun t27 h16 =>
mg t24 false (fun o11 => enterK C F.law_small [t26, t27] h16 o11) h16 fun t28 h17 =>
mg t24 false (fun o12 => bareK (xun P .not t28) h17 o12) h17 fun t29 h18 =>
pickK t24 (.bool true) t29 fun t30 =>
mc t30 (fun k13 => enterK C F.law_known [] h18 fun t31 h19 =>
k13 .ret [(8, t31)] h19) (fun k13 =>
k13 .normal [(2, a2), (3, a3), (4, t4), (5, t5)] h18) (seqK (fun tT h20 =>
bareK (ldN 5 h20 (get tT 4)) h20 fun t32 h21 =>
bareK (ldN 5 h21 (get tT 5)) h21 fun t33 h22 =>
enterK C F.rows_Compare [t32, t33] h22 fun t34 h23 =>
bareK (ldN 5 h23 (get tT 4)) h23 fun t35 h24 =>
bareK (ldN 5 h24 (get tT 5)) h24 fun t36 h25 =>
enterK C F.law_order [t35, t36] h25 fun t37 h26 =>
bareK (xbin P .eql T.int (.tmp 34) (.tmp 37) t34 t37) h26 fun t38 h27 =>
mg t38 true (fun o14 => bareK (ldN 5 h27 (get tT 5)) h27 o14) h27 fun t40 h28 =>
mg t38 true (fun o15 => bareK (ldN 5 h28 (get tT 4)) h28 o15) h28 fun t41 h29 =>
mg t38 true (fun o16 => enterK C F.rows_Compare [t40, t41] h29 o16) h29 fun t42 h30 =>
mg t38 true (fun o17 => bareK (ldN 5 h30 (get tT 5)) h30 o17) h30 fun t43 h31 =>
mg t38 true (fun o18 => bareK (ldN 5 h31 (get tT 4)) h31 o18) h31 fun t44 h32 =>
mg t38 true (fun o19 => enterK C F.law_order [t43, t44] h32 o19) h32 fun t45 h33 =>
mg t38 true (fun o20 => bareK (xbin P .eql T.int (.tmp 42) (.tmp 45) t42 t45) h33 o20) h33 fun t46 h34 =>
pickK t38 t46 (.bool false) fun t47 =>
mg t47 true (fun o21 => o21 (get tT 2) h34) h34 fun t49 h35 =>
mg t47 true (fun o22 => o22 (get tT 3) h35) h35 fun t50 h36 =>
mg t47 true (fun o23 => enterK C F.rows_Equal [t49, t50] h36 o23) h36 fun t51 h37 =>
mg t47 true (fun o24 => o24 (get tT 2) h37) h37 fun t52 h38 =>
mg t47 true (fun o25 => o25 (get tT 3) h38) h38 fun t53 h39 =>
mg t47 true (fun o26 => enterK C F.law_same [t52, t53] h39 o26) h39 fun t54 h40 =>
mg t47 true (fun o27 => bareK (xbin P .eql T.bool (.tmp 51) (.tmp 54) t51 t54) h40 o27) h40 fun t55 h41 =>
pickK t47 t55 (.bool false) fun t56 =>
mg t56 true (fun o28 => o28 (get tT 2) h41) h41 fun t58 h42 =>
mg t56 true (fun o29 => o29 (get tT 2) h42) h42 fun t59 h43 =>
mg t56 true (fun o30 => enterK C F.rows_Equal [t58, t59] h43 o30) h43 fun t60 h44 =>
pickK t56 t60 (.bool false) fun t61 =>
mg t61 true (fun o31 => enterK C F.law_known [] h44 o31) h44 fun t63 h45 =>
pickK t61 t63 (.bool false) fun t64 =>
checkK (okV (some true) (blockOf (get tT 4)) h22 h23 h23 h24 && (okV (some true) (blockOf (get tT 5)) h22 h23 h24 h25 && (okV (goesV t38 true) (blockOf (get tT 5)) h29 h30 h30 h31 && (okV (goesV t38 true) (blockOf (get tT 4)) h29 h30 h31 h32 && (okV (goesV t47 true) none h36 h37 h37 h38 && (okV (goesV t47 true) none h36 h37 h38 h39 && true)))))) <|
K0 .ret [(8, t64)] h45) K0)

theorem s_law_RowsCompares_eq (M : CombL) (C : CallF) (LP : LoopH) (a0 : Value) (a1 : Value) (a2 : Value) (a3 : Value) (H : AHeap) : dBodyL M Tryd.prog hints C LP F.law_RowsCompares [a0, a1, a2, a3] H = s_law_RowsCompares M.b.g M.c M.s Tryd.prog C a0 a1 a2 a3 H (endK Tryd.prog [.tmp 8]) := by kernel_rfl

end Go.Proofs.YtlmhioanjmhaiaaDoor

/-
  The equations of the seat's functions over calls in the limit (a program of ours printed it).
  Conditions: none. By an AI agent.
-/
set_option linter.unusedVariables false
namespace Go.Proofs.YtlmhioanjmhaiaaDoor
open Go Eng



theorem d_law_RowsCompares (a0 : Value) (a1 : Value) (a2 : Value) (a3 : Value) (H : AHeap) {r : Value × AHeap} (h : s_law_RowsCompares guardK condL shareL Tryd.prog CC a0 a1 a2 a3 H (endK Tryd.prog [.tmp 8]) = some r) : CC F.law_RowsCompares [a0, a1, a2, a3] H = some (tidy H r) := D_body (by kernel_rfl) ((s_law_RowsCompares_eq stdL CC limLP a0 a1 a2 a3 H).trans (Eq.trans (show s_law_RowsCompares stdL.b.g stdL.c stdL.s Tryd.prog CC a0 a1 a2 a3 H (endK Tryd.prog [.tmp 8]) = s_law_RowsCompares guardK condL shareL Tryd.prog CC a0 a1 a2 a3 H (endK Tryd.prog [.tmp 8]) by kernel_rfl) h))

end Go.Proofs.YtlmhioanjmhaiaaDoor

/-
  Chapter 40: RowsCompares.
  Conditions: none. By an AI agent.
-/
set_option maxRecDepth 10000
set_option linter.unusedSimpArgs false
set_option linter.unusedVariables false
namespace Go.Proofs.YtlmhioanjmhaiaaDoor
open Go Eng

set_option maxHeartbeats 4000000 in
theorem q_RowsCompares (a b : Cl) (l m : List Cl) (v w : Value) (H : AHeap) (hl : Rd ECl H v l) (hm : Rd ECl H w m) : ∃ H', CC F.law_RowsCompares [.agg ⟨a.l⟩, .agg ⟨b.l⟩, v, w] H = some (.bool true, H') := by
  obtain ⟨H1, hH1⟩ : ∃ H1, H.push (.cells a.l T.api_Cell true) = H1 := ⟨_, rfl⟩
  obtain ⟨H2, hH2⟩ : ∃ H2, H1.push (.cells b.l T.api_Cell true) = H2 := ⟨_, rfl⟩
  have sA : Still H H1 := by rw [← hH1]; exact (Fr.refl H).push _
  have sB : Still H1 H2 := by rw [← hH2]; exact (Fr.refl H1).push _
  have nA : H.n < H1.n := by rw [← hH1]; exact Nat.lt_succ_self _
  have fA : H2.f H.n = .cells a.l T.api_Cell true := by
    rw [sB.f nA fun h => h, ← hH1]; exact push_f_eq rfl
  have fB : H2.f H1.n = .cells b.l T.api_Cell true := by rw [← hH2]; exact push_f_eq rfl
  have cA : cellB (H2.f H.n) 3 = some (.string a.s) := by rw [fA]; rfl
  have cB : cellB (H2.f H1.n) 3 = some (.string b.s) := by rw [fB]; rfl
  have lA : cutB (H2.f H.n) 0 5 = some a.l := by rw [fA]; rfl
  have lB : cutB (H2.f H1.n) 0 5 = some b.l := by rw [fB]; rfl
  have hl2 := (hl.still sA).still sB
  have hm2 := (hm.still sA).still sB
  have nvA : newv T.api_Cell (.agg ⟨a.l⟩) H = some (.pointer (some ⟨H.n, 0, none⟩), H1) := by rw [← hH1]; rfl
  have nvB : newv T.api_Cell (.agg ⟨b.l⟩) H1 = some (.pointer (some ⟨H1.n, 0, none⟩), H2) := by rw [← hH2]; rfl
  have sm1 := q_small 0 (.slice none 0 0) (.slice none 0 0) 0 0 l v H2 rfl rfl rfl rfl hl2
  have sm2 := q_small 0 (.slice none 0 0) (.slice none 0 0) 0 0 m w H2 rfl rfl rfl rfl hm2
  by_cases h1 : 60 < ((bl a.s).length : Int)
  · refine any_of (H1 := H2) (d_law_RowsCompares _ _ _ _ H ?_)
    simp (disch := first | with_reducible rfl | assumption | omega | rfl | (simp only [go_sem]; first | done | omega)) only [go_sem, ↓reduceIte, reduceCtorEq, Nat.reduceEqDiff, Nat.reduceAdd, Nat.reduceSub, Nat.reduceMul, Nat.reduceDiv, Nat.reduceMod, Nat.reduceLeDiff, Nat.reduceLT, Nat.reduceBEq, Int.reduceEq, Int.reduceBEq, Int.reduceBNe, Int.reduceLT, Int.reduceLE, Int.reduceAdd, Int.reduceSub, Int.reduceNeg, Int.reduceToNat, Int.reducePow, Nat.reducePow, Int.reduceMul, Int.reduceDiv, ↓s_law_RowsCompares, nvA, nvB, cA, h1]
  by_cases h2 : 60 < ((bl b.s).length : Int)
  · refine any_of (H1 := H2) (d_law_RowsCompares _ _ _ _ H ?_)
    simp (disch := first | with_reducible rfl | assumption | omega | rfl | (simp only [go_sem]; first | done | omega)) only [go_sem, ↓reduceIte, reduceCtorEq, Nat.reduceEqDiff, Nat.reduceAdd, Nat.reduceSub, Nat.reduceMul, Nat.reduceDiv, Nat.reduceMod, Nat.reduceLeDiff, Nat.reduceLT, Nat.reduceBEq, Int.reduceEq, Int.reduceBEq, Int.reduceBNe, Int.reduceLT, Int.reduceLE, Int.reduceAdd, Int.reduceSub, Int.reduceNeg, Int.reduceToNat, Int.reducePow, Nat.reducePow, Int.reduceMul, Int.reduceDiv, ↓s_law_RowsCompares, nvA, nvB, cA, h1, cB, h2]
  cases h3 : smallP 0 0 l with
  | false =>
    rw [h3] at sm1
    refine any_of (H1 := H2) (d_law_RowsCompares _ _ _ _ H ?_)
    simp (disch := first | with_reducible rfl | assumption | omega | rfl | (simp only [go_sem]; first | done | omega)) only [go_sem, ↓reduceIte, reduceCtorEq, Nat.reduceEqDiff, Nat.reduceAdd, Nat.reduceSub, Nat.reduceMul, Nat.reduceDiv, Nat.reduceMod, Nat.reduceLeDiff, Nat.reduceLT, Nat.reduceBEq, Int.reduceEq, Int.reduceBEq, Int.reduceBNe, Int.reduceLT, Int.reduceLE, Int.reduceAdd, Int.reduceSub, Int.reduceNeg, Int.reduceToNat, Int.reducePow, Nat.reducePow, Int.reduceMul, Int.reduceDiv, ↓s_law_RowsCompares, nvA, nvB, cA, h1, cB, h2, enterK_eq sm1]
  | true =>
  rw [h3] at sm1
  cases h4 : smallP 0 0 m with
  | false =>
    rw [h4] at sm2
    refine any_of (H1 := H2) (d_law_RowsCompares _ _ _ _ H ?_)
    simp (disch := first | with_reducible rfl | assumption | omega | rfl | (simp only [go_sem]; first | done | omega)) only [go_sem, ↓reduceIte, reduceCtorEq, Nat.reduceEqDiff, Nat.reduceAdd, Nat.reduceSub, Nat.reduceMul, Nat.reduceDiv, Nat.reduceMod, Nat.reduceLeDiff, Nat.reduceLT, Nat.reduceBEq, Int.reduceEq, Int.reduceBEq, Int.reduceBNe, Int.reduceLT, Int.reduceLE, Int.reduceAdd, Int.reduceSub, Int.reduceNeg, Int.reduceToNat, Int.reducePow, Nat.reducePow, Int.reduceMul, Int.reduceDiv, ↓s_law_RowsCompares, nvA, nvB, cA, h1, cB, h2, enterK_eq sm1, enterK_eq sm2]
  | true =>
  rw [h4] at sm2
  have p1 := q_Compare a b H2
  have p2 := q_order a b H2
  have p3 := q_Compare b a H2
  have p4 := q_order b a H2
  have p5 := q_Equal l m v w H2 hl2 hm2 (by have := (smallP_ok h3).2.2.1; omega)
  have p6 := q_same l m v w H2 hl2 hm2 (by have := (smallP_ok h3).2.2.1; omega)
  have p7 := q_Equal l l v v H2 hl2 hl2 (by have := (smallP_ok h3).2.2.1; omega)
  rw [decide_eq_true rfl] at p7
  generalize cmpC a b = x at p1 p2
  generalize cmpC b a = y at p3 p4
  generalize decide (l = m) = z at p5 p6
  have hz : (z == z) = true := by cases z <;> rfl
  refine any_of (H1 := H2) (d_law_RowsCompares _ _ _ _ H ?_)
  simp (maxSteps := 2000000) (disch := first | with_reducible rfl | assumption | omega | rfl | (simp only [go_sem]; first | done | omega)) only [go_sem, ↓reduceIte, reduceCtorEq, Nat.reduceEqDiff, Nat.reduceAdd, Nat.reduceSub, Nat.reduceMul, Nat.reduceDiv, Nat.reduceMod, Nat.reduceLeDiff, Nat.reduceLT, Nat.reduceBEq, Int.reduceEq, Int.reduceBEq, Int.reduceBNe, Int.reduceLT, Int.reduceLE, Int.reduceAdd, Int.reduceSub, Int.reduceNeg, Int.reduceToNat, Int.reducePow, Nat.reducePow, Int.reduceMul, Int.reduceDiv, s_law_RowsCompares, nvA, nvB, cA, h1, cB, h2, enterK_eq sm1, enterK_eq sm2]
  simp (disch := first | with_reducible rfl | assumption | omega | rfl | (simp only [go_sem]; first | done | omega)) only [go_sem, ↓reduceIte, reduceCtorEq, Nat.reduceEqDiff, Nat.reduceAdd, Nat.reduceSub, Nat.reduceMul, Nat.reduceDiv, Nat.reduceMod, Nat.reduceLeDiff, Nat.reduceLT, Nat.reduceBEq, Int.reduceEq, Int.reduceBEq, Int.reduceBNe, Int.reduceLT, Int.reduceLE, Int.reduceAdd, Int.reduceSub, Int.reduceNeg, Int.reduceToNat, Int.reducePow, Nat.reducePow, Int.reduceMul, Int.reduceDiv, lA, lB, enterK_eq p1, enterK_eq p2, enterK_eq p3, enterK_eq p4, enterK_eq p5, enterK_eq p6, enterK_eq p7, bool_eq', hz]

theorem run_RowsCompares (W : World) (v0 : Value) (a : Cl) (h0 : v0 = .agg ⟨ECl.enc a⟩) (_ : True) (v1 : Value) (b : Cl) (h1 : v1 = .agg ⟨ECl.enc b⟩) (_ : True)
    (v : Value) (l : List Cl) (r : RdS ECl T.api_Cell (absHeap2 W) v l) (_ : ∀ x, x ∈ l → True) (_ : l.length ≤ maxLen) (w : Value) (m : List Cl) (rm : RdS ECl T.api_Cell (absHeap2 W) w m) (_ : ∀ x, x ∈ m → True) (_ : m.length ≤ maxLen) :
    ∃ k H', dCall Tryd.prog prims1 hints k F.law_RowsCompares [v0, v1, v, w] (absHeap2 W) = some (.bool true, H') := by
  subst h0 h1
  obtain ⟨H', h⟩ := q_RowsCompares a b l m v w (absHeap2 W) r.1 rm.1
  obtain ⟨k, h⟩ := D_run h
  exact ⟨k, _, h⟩

end Go.Proofs.YtlmhioanjmhaiaaDoor

/-
  The law RowsCompares: for every input it returns true, and its input reads as it did; and its card.
  Conditions: none. By an AI agent.
-/
namespace Go.Proofs.YtlmhioanjmhaiaaDoor.rowsCompares
open Go Go.ChangeShapes Go.WideShapes Go.ChangeAt Go.RowKit Go.Shelf Go.Lib
open Go.ChangeMaps (open_string shut_string)
set_option linter.unusedVariables false
theorem own : ownKnob Tryd.prog.godebug = none := by kernel_rfl
theorem laidOut : laidOutB Tryd.prog = true := by kernel_rfl
theorem glob (W : World) (hsh : W.ShapedOpen Tryd.prog) : Eng.Glob W.heap.size W := fun g hg => by
  have hg : g = 0 := by simpa [Eng.globs] using hg
  subst hg
  obtain ⟨m, hm⟩ := Go.Proofs.cell_of_shapedOpen_int (zero := #[.int .i64 0]) (t := 3) hsh (of_decide_eq_true (by kernel_rfl)) (by kernel_rfl) rfl (by kernel_rfl) (by kernel_rfl) Tryd.underlying3
  obtain ⟨cs, e, fr, h1, _, _⟩ := Eng.cell_abs hm
  exact ⟨(Array.getElem?_eq_some_iff.1 h1).1, m, hm⟩
set_option maxRecDepth 100000 in
theorem lifted (os : Os) (started : os.Started) (H : Type) (enc : TypeId × Value → H) :
    ReturnsInHanded {} Tryd.checked os 7 .any (fun w args => (Rows.rowsComparesSpec.pre enc Tryd.prog Tryd.f7 [] false w args ∧ laidMetH Tryd.prog Rows.rowsComparesRow.laid w) ∧ sizedMet enc Tryd.prog Tryd.f7 (OpenSpec.ofChange Rows.rowsComparesSpec) false w args)
      (Rows.rowsComparesSpec.post enc Tryd.prog Tryd.f7 false true false false) := by
  refine Eng.wrapX (C := Tryd.checked) (X := fun w _ => laidMetH Tryd.prog Rows.rowsComparesRow.laid w) (fun _ _ _ hh h => h.of_heap hh) own started (by kernel_rfl) Tryd.func7
    (ChangeSpec.witness_shaped (enc := enc) (C := Tryd.checked) (os := os) (X := fun w _ => laidMetH Tryd.prog Rows.rowsComparesRow.laid w) false (World.laidAll Tryd.prog os Rows.rowsComparesRow.laid) #[.agg #[(.int .i64 0), (.int .u64 0), (.int .i64 0), (.string ByteArray.empty), (.bool false)], .agg #[(.int .i64 0), (.int .u64 0), (.int .i64 0), (.string ByteArray.empty), (.bool false)], .slice none 0 0, .slice none 0 0] 8 (World.laidAll_os _ _ _)
      (World.shaped_of_ZipB (by kernel_rfl) (by kernel_rfl)) (by kernel_rfl) (by kernel_rfl) (by kernel_rfl)
      (by rw [MakeChecks.laidMetH_plain _ _ _ (by kernel_rfl)]; exact laidMet_laidAll _ (by kernel_rfl) (by kernel_rfl))) ?_
  intro W base args ds gs before hval0 hW hsz0 hsh
  have hsz : (DataW.weightsEach Tryd.prog (Tryd.f7.params.toList ++ Rows.rowsComparesSpec.plain.varTypes Tryd.prog) (ds ++ gs)).all (· ≤ reachBytes) = true := hsz0
  have hval : ∀ (j : Nat) t v, Tryd.f7.params[j]? = some t → args[j]? = some v → Value.okWide Tryd.prog W .any base t v := hval0
  have hW' := hW
  obtain ⟨p, q, hA0, hV, rfl, hfz, hnd⟩ := hW
  have hA : DataW.TrodAll enc Tryd.prog W 0 (fun _ => true) true Tryd.f7.params.toList args.toList ds p := hA0
  rw [Tryd.params7] at hA hval hsz
  obtain ⟨v0, vs0, d0, ds0, p0, q0, hargs, rfl, rfl, h0, r0⟩ := trodAll_cons hA
  obtain ⟨v1, vs1, d1, ds1, p1, q1, rfl, rfl, rfl, h1, r1⟩ := trodAll_cons r0
  obtain ⟨v2, vs2, d2, ds2, p2, q2, rfl, rfl, rfl, h2, r2⟩ := trodAll_cons r1
  obtain ⟨v3, vs3, d3, ds3, p3, q3, rfl, rfl, rfl, h3, r3⟩ := trodAll_cons r2
  obtain ⟨rfl, rfl, rfl⟩ := trodAll_nil r3
  obtain rfl : args = #[v0, v1, v2, v3] := by cases args; simp_all
  obtain ⟨rfl, rfl⟩ := trodVars_none hV
  have k0 := h0
  have lt0 : ∀ x ∈ p0, x.block < W.heap.size := by obtain ⟨m, hm⟩ := k0; exact DataW.trod_lt m _ _ _ hm
  obtain ⟨l0, rd0, all0⟩ := Eng.open_agg2 (t := 44) Tryd.underlying44 (by kernel_rfl) (fun cs n y hp h hl => decClA hp h hl) (hval 0 44 v0 rfl rfl) k0
  have k1 := h1
  have lt1 : ∀ x ∈ p1, x.block < W.heap.size := by obtain ⟨m, hm⟩ := k1; exact DataW.trod_lt m _ _ _ hm
  obtain ⟨l1, rd1, all1⟩ := Eng.open_agg2 (t := 44) Tryd.underlying44 (by kernel_rfl) (fun cs n y hp h hl => decClA hp h hl) (hval 1 44 v1 rfl rfl) k1
  have k2 := h2
  have lt2 : ∀ x ∈ p2, x.block < W.heap.size := by obtain ⟨m, hm⟩ := k2; exact DataW.trod_lt m _ _ _ hm
  obtain ⟨l2, rd2, all2, len2⟩ := Eng.open_rd2 (t := 25) (e' := 44) Tryd.underlying25 (by kernel_rfl) (fun hp cs n y h hl => decClS hp h hl) (hval 2 25 v2 rfl rfl) k2
  have k3 := h3
  have lt3 : ∀ x ∈ p3, x.block < W.heap.size := by obtain ⟨m, hm⟩ := k3; exact DataW.trod_lt m _ _ _ hm
  obtain ⟨l3, rd3, all3, len3⟩ := Eng.open_rd2 (t := 25) (e' := 44) Tryd.underlying25 (by kernel_rfl) (fun hp cs n y h hl => decClS hp h hl) (hval 3 25 v3 rfl rfl) k3
  refine (Eng.law_calls2 (args := #[v0, v1, v2, v3]) prims1_ok mixed (glob W hsh) (run_RowsCompares W (Eng.convA2 W.heap.size v0) l0 rd0 all0 (Eng.convA2 W.heap.size v1) l1 rd1 all1 (Eng.convA2 W.heap.size v2) l2 rd2 all2 len2 (Eng.convA2 W.heap.size v3) l3 rd3 all3 len3)).mono fun e W' ⟨he, bel⟩ => ?_
  subst he
  exact ⟨_, rfl, _, _, _, [], _, [], hW', trodAll_mk1 (shut_bool Tryd.underlying4 _), (trodAll_cons_mk (Below.trod laidOut (by kernel_rfl) (of_decide_eq_true (by kernel_rfl)) k0 bel lt0) (trodAll_cons_mk (Below.trod laidOut (by kernel_rfl) (of_decide_eq_true (by kernel_rfl)) k1 bel lt1) (trodAll_cons_mk (Below.trod laidOut (by kernel_rfl) (of_decide_eq_true (by kernel_rfl)) k2 bel lt2) (trodAll_cons_mk (Below.trod laidOut (by kernel_rfl) (of_decide_eq_true (by kernel_rfl)) k3 bel lt3) trodAll_mk0)))), rfl, bel.frame _, fun h => by cases h⟩

theorem over : Rows.rowsComparesRow.holds Tryd.pinned (OpenSpec.ofChange Rows.rowsComparesSpec) :=
  OpenClaim.holds_of_wide 7 Tryd.f7 rfl rfl rfl rfl rfl rfl rfl ⟨rfl, rfl, rfl, rfl, rfl⟩ rfl rfl rfl rfl rfl (by kernel_rfl) Tryd.func7 (by kernel_rfl)
    (of_decide_eq_true (by kernel_rfl)) (by unfold Func.isWrapper; first | (rw [if_pos (by decide +kernel)]; kernel_rfl) | (rw [if_neg (by decide +kernel)]; exact ⟨rfl, rfl⟩))
    (fun os started H enc _ => lifted os started H enc)
theorem proved : Rows.RowsComparesCardSaid :=
  Claim7.holds_tied_plain_at .later [] [.data, .pinned] true (true, "aaed328d676b259d80c0dea683c8657178ef62b17664fbaf17bcdc3b4d96b0a3") false over (fun _ h => by cases h) (by kernel_rfl) (fun _ h => by cases h) rowsCompares_row_tie rfl ⟨rfl, rfl⟩ (by kernel_rfl) rfl
    (fun f fn hf hfn => by
      obtain rfl : f = 7 := Option.some.inj ((show Tryd.prog.funcNamed "ticketline/ticketlinelaw40.RowsCompares" = some 7 by kernel_rfl).symm.trans hf) |>.symm
      obtain rfl : fn = Tryd.f7 := (Option.some.inj (Tryd.func7.symm.trans hfn)).symm
      exact ⟨by kernel_rfl, fun j t ht => by
        rw [Tryd.params7] at ht
        have hm : t ∈ [44, 44, 25, 25] := by simpa using Array.mem_of_getElem? ht
        have hall : ([44, 44, 25, 25].all fun u => !Tryd.prog.wantsStandIn u) = true := by kernel_rfl
        exact (show Tryd.prog.wantsStandIn t = false by simpa using List.all_eq_true.1 hall t hm)⟩)
    (by kernel_rfl)
#print axioms proved
end Go.Proofs.YtlmhioanjmhaiaaDoor.rowsCompares
namespace Go.Proofs.YtlmhioanjmhaiaaDoor
/-- The card, under a short name, for the claim. -/
theorem rowsCompares_card : Rows.RowsComparesCardSaid := rowsCompares.proved
end Go.Proofs.YtlmhioanjmhaiaaDoor
