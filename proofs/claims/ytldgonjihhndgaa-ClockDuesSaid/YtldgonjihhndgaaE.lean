/-
  Chapter 02: the law ClockDues runs to true.
  Conditions: none. By an AI agent.
-/
import Derived.Test.YtldgonjihhndgaaA
import Derived.Test.YtldgonjihhndgaaEng24
set_option maxRecDepth 10000
set_option linter.unusedSimpArgs false
set_option linter.unusedVariables false
namespace Go.Proofs.Ytldgonjihhndgaa
open Go Eng

theorem k_known (H : AHeap) : CC F.law_known [] H = some (.bool true, H) := D_prim (show prims1 F.law_known = some trueP by kernel_rfl) rfl
@[go_sem, go_sem ↓] theorem e_known {H : AHeap} {k : Value → AHeap → Res} : enterK CC F.law_known [] H k = k (.bool true) H := enterK_eq (k_known H)
@[go_sem] theorem bool_ne {ox oy : Operand} {a b : Bool} : xbin Try.prog .neq T.bool ox oy (.bool a) (.bool b) = some (.bool (a != b)) := by
  cases a <;> cases b <;> kernel_rfl

theorem q_due_bad (now n : Int) (H : AHeap) (h : ¬ (isTick now = true ∧ 0 ≤ n)) : CC F.law_due [.int .i64 now, .int .i64 n, .int .i64 0, .int .i64 2] H = some (.bool true, H) := by
  apply pure_of _ (d_law_due _ _ _ _ H) rfl
  rotate_left 2
  · simp (disch := first | with_reducible rfl | assumption | omega | rfl | (simp only [go_sem]; first | done | omega)) only [go_sem, ↓reduceIte, reduceCtorEq, Nat.reduceEqDiff, Nat.reduceAdd, Nat.reduceSub, Nat.reduceMul, Nat.reduceDiv, Nat.reduceMod, Nat.reduceLeDiff, Nat.reduceLT, Nat.reduceBEq, Int.reduceEq, Int.reduceBEq, Int.reduceBNe, Int.reduceLT, Int.reduceLE, Int.reduceAdd, Int.reduceSub, Int.reduceNeg, Int.reduceToNat, Int.reducePow, Nat.reducePow, Int.reduceMul, Int.reduceDiv, ↓s_law_due, enterK_eq (q_clock_Due_bad now n H h)]
    rfl
  · (repeat (first | exact Fr.refl _ | refine Fr.push ?_ _ | refine Fr.set ?_ _ _ (by intro h; simp only [go_sem] at h; omega)))
theorem q_due (now n : Int) (H : AHeap) (h1 : isTick now = true) (h2 : 0 ≤ n) : CC F.law_due [.int .i64 now, .int .i64 n, .int .i64 (due now n), .int .i64 0] H = some (.bool true, H) := by
  apply pure_of _ (d_law_due _ _ _ _ H) rfl
  rotate_left 2
  · simp (disch := first | with_reducible rfl | assumption | omega | rfl | (simp only [go_sem]; first | done | omega)) only [go_sem, ↓reduceIte, reduceCtorEq, Nat.reduceEqDiff, Nat.reduceAdd, Nat.reduceSub, Nat.reduceMul, Nat.reduceDiv, Nat.reduceMod, Nat.reduceLeDiff, Nat.reduceLT, Nat.reduceBEq, Int.reduceEq, Int.reduceBEq, Int.reduceBNe, Int.reduceLT, Int.reduceLE, Int.reduceAdd, Int.reduceSub, Int.reduceNeg, Int.reduceToNat, Int.reducePow, Nat.reducePow, Int.reduceMul, Int.reduceDiv, ↓s_law_due, enterK_eq (q_clock_Due now n H h1 h2)]
    rfl
  · (repeat (first | exact Fr.refl _ | refine Fr.push ?_ _ | refine Fr.set ?_ _ _ (by intro h; simp only [go_sem] at h; omega)))

theorem q_ClockDues (now n d : Int) (H : AHeap) : CC F.law_ClockDues [.int .i64 now, .int .i64 n, .int .i64 d] H = some (.bool true, H) := by
  have hb : (decide (d < now) && decide (d < 4611686018427387904)) = (decide (d < 4611686018427387904) && decide (d < now)) := Bool.and_comm _ _
  by_cases h1 : isTick now = true
  · by_cases h2 : 0 ≤ n
    · have h3 : ¬ n < 0 := by omega
      by_cases h4 : d < now
      all_goals
        apply pure_of _ (d_law_ClockDues _ _ _ H) rfl
        rotate_left 2
        · simp (disch := first | with_reducible rfl | assumption | omega | rfl | (simp only [go_sem]; first | done | omega)) only [go_sem, ↓reduceIte, reduceCtorEq, Nat.reduceEqDiff, Nat.reduceAdd, Nat.reduceSub, Nat.reduceMul, Nat.reduceDiv, Nat.reduceMod, Nat.reduceLeDiff, Nat.reduceLT, Nat.reduceBEq, Int.reduceEq, Int.reduceBEq, Int.reduceBNe, Int.reduceLT, Int.reduceLE, Int.reduceAdd, Int.reduceSub, Int.reduceNeg, Int.reduceToNat, Int.reducePow, Nat.reducePow, Int.reduceMul, Int.reduceDiv, ↓s_law_ClockDues, e_clock_Passed, e_ref_Tick, enterK_eq (q_ref_Due now n H h1 h2), enterK_eq (q_due now n H h1 h2), h1, h3, h4, bne_self_eq_false]
          rfl
        · (repeat (first | exact Fr.refl _ | refine Fr.push ?_ _ | refine Fr.set ?_ _ _ (by intro h; simp only [go_sem] at h; omega)))
    · have h3 : n < 0 := by omega
      by_cases h4 : d < now
      all_goals
        apply pure_of _ (d_law_ClockDues _ _ _ H) rfl
        rotate_left 2
        · simp (disch := first | with_reducible rfl | assumption | omega | rfl | (simp only [go_sem]; first | done | omega)) only [go_sem, ↓reduceIte, reduceCtorEq, Nat.reduceEqDiff, Nat.reduceAdd, Nat.reduceSub, Nat.reduceMul, Nat.reduceDiv, Nat.reduceMod, Nat.reduceLeDiff, Nat.reduceLT, Nat.reduceBEq, Int.reduceEq, Int.reduceBEq, Int.reduceBNe, Int.reduceLT, Int.reduceLE, Int.reduceAdd, Int.reduceSub, Int.reduceNeg, Int.reduceToNat, Int.reducePow, Nat.reducePow, Int.reduceMul, Int.reduceDiv, ↓s_law_ClockDues, e_clock_Passed, e_ref_Tick, enterK_eq (q_due_bad now n H (fun h => h2 h.2)), h1, h3, h4, bne_self_eq_false]
          rfl
        · (repeat (first | exact Fr.refl _ | refine Fr.push ?_ _ | refine Fr.set ?_ _ _ (by intro h; simp only [go_sem] at h; omega)))
  · have h1' : isTick now = false := by simpa using h1
    by_cases h4 : d < now
    all_goals
      apply pure_of _ (d_law_ClockDues _ _ _ H) rfl
      rotate_left 2
      · simp (disch := first | with_reducible rfl | assumption | omega | rfl | (simp only [go_sem]; first | done | omega)) only [go_sem, ↓reduceIte, reduceCtorEq, Nat.reduceEqDiff, Nat.reduceAdd, Nat.reduceSub, Nat.reduceMul, Nat.reduceDiv, Nat.reduceMod, Nat.reduceLeDiff, Nat.reduceLT, Nat.reduceBEq, Int.reduceEq, Int.reduceBEq, Int.reduceBNe, Int.reduceLT, Int.reduceLE, Int.reduceAdd, Int.reduceSub, Int.reduceNeg, Int.reduceToNat, Int.reducePow, Nat.reducePow, Int.reduceMul, Int.reduceDiv, ↓s_law_ClockDues, e_clock_Passed, e_ref_Tick, enterK_eq (q_due_bad now n H (fun h => h1 h.1)), h1', h4, bne_self_eq_false]
        rfl
      · (repeat (first | exact Fr.refl _ | refine Fr.push ?_ _ | refine Fr.set ?_ _ _ (by intro h; simp only [go_sem] at h; omega)))

theorem run_ClockDues (now n d : Int) (_ : (Lit.int .i64 now).wf = true) (_ : (Lit.int .i64 n).wf = true) (_ : (Lit.int .i64 d).wf = true) : ∃ k H', dCall Try.prog prims1 hints k 3 [.int .i64 now, .int .i64 n, .int .i64 d] H0 = some (.bool true, H') := by
  obtain ⟨k, h⟩ := D_run (q_ClockDues now n d H0)
  exact ⟨k, _, h⟩

theorem nil_run (a b : Int) : dCall Try.prog prims1 hints 60 6 [.int .i64 a, .int .i64 b] H0 = some (.bool true, H0) := by kernel_rfl
theorem run_ClockNil (a b : Int) (_ : (Lit.int .i64 a).wf = true) (_ : (Lit.int .i64 b).wf = true) : ∃ k H', dCall Try.prog prims1 hints k 6 [.int .i64 a, .int .i64 b] H0 = some (.bool true, H') := ⟨60, _, nil_run a b⟩

end Go.Proofs.Ytldgonjihhndgaa
