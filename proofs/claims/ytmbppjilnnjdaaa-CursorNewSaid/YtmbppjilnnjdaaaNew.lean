/-
  Chapter 42: the law CursorNew runs to true.
  Conditions: none. By an AI agent.
-/
import Derived.Test.YtmbppjilnnjdaaaOrd
import Derived.Test.YtmbppjilnnjdaaaDsCursorNew
import Derived.Test.YtmbppjilnnjdaaaEng28
set_option maxRecDepth 100000
set_option linter.unusedSimpArgs false
set_option linter.unusedVariables false
namespace Go.Proofs.Ytmbppjilnnjdaaa
open Go Eng

@[go_sem] theorem cp_nil {ox oy : Operand} : xbin Try.prog .eql T.p_cursor_Cursor ox oy (.pointer none) (.pointer none) = some (.bool true) := by kernel_rfl
@[go_sem] theorem cp_some {ox oy : Operand} {a : Addr} : xbin Try.prog .eql T.p_cursor_Cursor ox oy (.pointer (some a)) (.pointer none) = some (.bool false) := by kernel_rfl

/-- The heap with a new cursor. -/
def newH (a b : ByteArray) (H : AHeap) : AHeap := H.push (.cells [.string a, .string b, .int .i64 1, .string (mk [])] T.cursor_Cursor true)

theorem q_New_long (a b : ByteArray) (H : AHeap) (h : 24 < ((bl a).length : Int) ∨ 24 < ((bl b).length : Int)) : CC F.cursor_New [.string a, .string b] H = some (.tuple #[.pointer none, .int .i64 5], H) := by
  by_cases h1 : 24 < ((bl a).length : Int)
  · apply pure_of _ (d_cursor_New _ _ H) rfl
    rotate_left 2
    · simp (disch := first | with_reducible rfl | assumption | omega | rfl | (simp only [go_sem]; first | done | omega)) only [go_sem, ↓reduceIte, reduceCtorEq, Nat.reduceEqDiff, Nat.reduceAdd, Nat.reduceSub, Nat.reduceMul, Nat.reduceDiv, Nat.reduceMod, Nat.reduceLeDiff, Nat.reduceLT, Nat.reduceBEq, Int.reduceEq, Int.reduceBEq, Int.reduceBNe, Int.reduceLT, Int.reduceLE, Int.reduceAdd, Int.reduceSub, Int.reduceNeg, Int.reduceToNat, Int.reducePow, Nat.reducePow, Int.reduceMul, Int.reduceDiv, ↓s_cursor_New, decide_eq_true h1]
      rfl
    · (repeat (first | exact Fr.refl _ | refine Fr.push ?_ _ | refine Fr.set ?_ _ _ (by intro h; first | omega | (simp only [go_sem] at h; omega))))
  · have h2 : 24 < ((bl b).length : Int) := by omega
    apply pure_of _ (d_cursor_New _ _ H) rfl
    rotate_left 2
    · simp (disch := first | with_reducible rfl | assumption | omega | rfl | (simp only [go_sem]; first | done | omega)) only [go_sem, ↓reduceIte, reduceCtorEq, Nat.reduceEqDiff, Nat.reduceAdd, Nat.reduceSub, Nat.reduceMul, Nat.reduceDiv, Nat.reduceMod, Nat.reduceLeDiff, Nat.reduceLT, Nat.reduceBEq, Int.reduceEq, Int.reduceBEq, Int.reduceBNe, Int.reduceLT, Int.reduceLE, Int.reduceAdd, Int.reduceSub, Int.reduceNeg, Int.reduceToNat, Int.reducePow, Nat.reducePow, Int.reduceMul, Int.reduceDiv, ↓s_cursor_New, decide_eq_false h1, decide_eq_true h2]
      rfl
    · (repeat (first | exact Fr.refl _ | refine Fr.push ?_ _ | refine Fr.set ?_ _ _ (by intro h; first | omega | (simp only [go_sem] at h; omega))))
@[go_sem, go_sem ↓] theorem e_New_long (a b : ByteArray) (H : AHeap) (h : 24 < ((bl a).length : Int) ∨ 24 < ((bl b).length : Int)) {k : Value → AHeap → Res} : enterK CC F.cursor_New [.string a, .string b] H k = k (.tuple #[.pointer none, .int .i64 5]) H := enterK_eq (q_New_long a b H h)
theorem q_New_order (a b : ByteArray) (H : AHeap) (h1 : ¬ 24 < ((bl a).length : Int)) (h2 : ¬ 24 < ((bl b).length : Int)) (h3 : ¬ bl b = []) (h4 : cmpS b a ≤ 0) : CC F.cursor_New [.string a, .string b] H = some (.tuple #[.pointer none, .int .i64 13], H) := by
  apply pure_of _ (d_cursor_New _ _ H) rfl
  rotate_left 2
  · simp (disch := first | with_reducible rfl | assumption | omega | rfl | (simp only [go_sem]; first | done | omega)) only [go_sem, ↓reduceIte, reduceCtorEq, Nat.reduceEqDiff, Nat.reduceAdd, Nat.reduceSub, Nat.reduceMul, Nat.reduceDiv, Nat.reduceMod, Nat.reduceLeDiff, Nat.reduceLT, Nat.reduceBEq, Int.reduceEq, Int.reduceBEq, Int.reduceBNe, Int.reduceLT, Int.reduceLE, Int.reduceAdd, Int.reduceSub, Int.reduceNeg, Int.reduceToNat, Int.reducePow, Nat.reducePow, Int.reduceMul, Int.reduceDiv, ↓s_cursor_New, decide_eq_false h1, decide_eq_false h2, bl_mk, decide_eq_false h3, decide_eq_true h4]
    rfl
  · (repeat (first | exact Fr.refl _ | refine Fr.push ?_ _ | refine Fr.set ?_ _ _ (by intro h; first | omega | (simp only [go_sem] at h; omega))))
@[go_sem, go_sem ↓] theorem e_New_order (a b : ByteArray) (H : AHeap) (h1 : ¬ 24 < ((bl a).length : Int)) (h2 : ¬ 24 < ((bl b).length : Int)) (h3 : ¬ bl b = []) (h4 : cmpS b a ≤ 0) {k : Value → AHeap → Res} : enterK CC F.cursor_New [.string a, .string b] H k = k (.tuple #[.pointer none, .int .i64 13]) H := enterK_eq (q_New_order a b H h1 h2 h3 h4)
theorem q_New (a b : ByteArray) (H : AHeap) (h1 : ¬ 24 < ((bl a).length : Int)) (h2 : ¬ 24 < ((bl b).length : Int)) (h3 : bl b = [] ∨ ¬ cmpS b a ≤ 0) : CC F.cursor_New [.string a, .string b] H = some (.tuple #[.pointer (some ⟨H.n, 0, none⟩), .int .i64 0], newH a b H) := by
  by_cases h5 : bl b = []
  · refine (d_cursor_New _ _ H ?_).trans (congrArg some (tidy_mem ?_))
    rotate_left 2
    · simp (disch := first | with_reducible rfl | assumption | omega | rfl | (simp only [go_sem]; first | done | omega)) only [go_sem, ↓reduceIte, reduceCtorEq, Nat.reduceEqDiff, Nat.reduceAdd, Nat.reduceSub, Nat.reduceMul, Nat.reduceDiv, Nat.reduceMod, Nat.reduceLeDiff, Nat.reduceLT, Nat.reduceBEq, Int.reduceEq, Int.reduceBEq, Int.reduceBNe, Int.reduceLT, Int.reduceLE, Int.reduceAdd, Int.reduceSub, Int.reduceNeg, Int.reduceToNat, Int.reducePow, Nat.reducePow, Int.reduceMul, Int.reduceDiv, ↓s_cursor_New, decide_eq_false h1, decide_eq_false h2, bl_mk, decide_eq_true h5]
      rfl
    · rfl
  · have h4 : ¬ cmpS b a ≤ 0 := h3.resolve_left h5
    refine (d_cursor_New _ _ H ?_).trans (congrArg some (tidy_mem ?_))
    rotate_left 2
    · simp (disch := first | with_reducible rfl | assumption | omega | rfl | (simp only [go_sem]; first | done | omega)) only [go_sem, ↓reduceIte, reduceCtorEq, Nat.reduceEqDiff, Nat.reduceAdd, Nat.reduceSub, Nat.reduceMul, Nat.reduceDiv, Nat.reduceMod, Nat.reduceLeDiff, Nat.reduceLT, Nat.reduceBEq, Int.reduceEq, Int.reduceBEq, Int.reduceBNe, Int.reduceLT, Int.reduceLE, Int.reduceAdd, Int.reduceSub, Int.reduceNeg, Int.reduceToNat, Int.reducePow, Nat.reducePow, Int.reduceMul, Int.reduceDiv, ↓s_cursor_New, decide_eq_false h1, decide_eq_false h2, bl_mk, decide_eq_false h5, decide_eq_false h4]
      rfl
    · rfl

theorem q_fails_long (a b : ByteArray) (H : AHeap) (h : 24 < ((bl a).length : Int) ∨ 24 < ((bl b).length : Int)) : CC F.law_fails [.string a, .string b, .int .i64 5] H = some (.bool true, H) := by
  apply pure_of _ (d_law_fails _ _ _ H) rfl
  rotate_left 2
  · simp (disch := first | with_reducible rfl | assumption | omega | rfl | (simp only [go_sem]; first | done | omega)) only [go_sem, ↓reduceIte, reduceCtorEq, Nat.reduceEqDiff, Nat.reduceAdd, Nat.reduceSub, Nat.reduceMul, Nat.reduceDiv, Nat.reduceMod, Nat.reduceLeDiff, Nat.reduceLT, Nat.reduceBEq, Int.reduceEq, Int.reduceBEq, Int.reduceBNe, Int.reduceLT, Int.reduceLE, Int.reduceAdd, Int.reduceSub, Int.reduceNeg, Int.reduceToNat, Int.reducePow, Nat.reducePow, Int.reduceMul, Int.reduceDiv, ↓s_law_fails, enterK_eq (q_New_long a b H h)]
    rfl
  · (repeat (first | exact Fr.refl _ | refine Fr.push ?_ _ | refine Fr.set ?_ _ _ (by intro h; first | omega | (simp only [go_sem] at h; omega))))
@[go_sem, go_sem ↓] theorem e_fails_long (a b : ByteArray) (H : AHeap) (h : 24 < ((bl a).length : Int) ∨ 24 < ((bl b).length : Int)) {k : Value → AHeap → Res} : enterK CC F.law_fails [.string a, .string b, .int .i64 5] H k = k (.bool true) H := enterK_eq (q_fails_long a b H h)
theorem q_fails_order (a b : ByteArray) (H : AHeap) (h1 : ¬ 24 < ((bl a).length : Int)) (h2 : ¬ 24 < ((bl b).length : Int)) (h3 : ¬ bl b = []) (h4 : cmpS b a ≤ 0) : CC F.law_fails [.string a, .string b, .int .i64 13] H = some (.bool true, H) := by
  apply pure_of _ (d_law_fails _ _ _ H) rfl
  rotate_left 2
  · simp (disch := first | with_reducible rfl | assumption | omega | rfl | (simp only [go_sem]; first | done | omega)) only [go_sem, ↓reduceIte, reduceCtorEq, Nat.reduceEqDiff, Nat.reduceAdd, Nat.reduceSub, Nat.reduceMul, Nat.reduceDiv, Nat.reduceMod, Nat.reduceLeDiff, Nat.reduceLT, Nat.reduceBEq, Int.reduceEq, Int.reduceBEq, Int.reduceBNe, Int.reduceLT, Int.reduceLE, Int.reduceAdd, Int.reduceSub, Int.reduceNeg, Int.reduceToNat, Int.reducePow, Nat.reducePow, Int.reduceMul, Int.reduceDiv, ↓s_law_fails, enterK_eq (q_New_order a b H h1 h2 h3 h4)]
    rfl
  · (repeat (first | exact Fr.refl _ | refine Fr.push ?_ _ | refine Fr.set ?_ _ _ (by intro h; first | omega | (simp only [go_sem] at h; omega))))
@[go_sem, go_sem ↓] theorem e_fails_order (a b : ByteArray) (H : AHeap) (h1 : ¬ 24 < ((bl a).length : Int)) (h2 : ¬ 24 < ((bl b).length : Int)) (h3 : ¬ bl b = []) (h4 : cmpS b a ≤ 0) {k : Value → AHeap → Res} : enterK CC F.law_fails [.string a, .string b, .int .i64 13] H k = k (.bool true) H := enterK_eq (q_fails_order a b H h1 h2 h3 h4)

theorem q_alike0 (a b : ByteArray) : CC F.law_alike [.pointer (some ⟨H0.n, 0, none⟩), .pointer (some ⟨(newH a b H0).n, 0, none⟩), .pointer (some ⟨(newH a b H0).n + 1, 0, none⟩)]
    (((newH a b H0).push (.cells [.string a, .string b, .string (mk []), .int .i64 (-1)] T.law_Model true)).push (.cells [.slice none 0 0] T.model_Model true)) = some (.bool true,
    ((newH a b H0).push (.cells [.string a, .string b, .string (mk []), .int .i64 (-1)] T.law_Model true)).push (.cells [.slice none 0 0] T.model_Model true)) :=
  D_ofv (n := 40) (by kernel_rfl) (by kernel_rfl)

theorem q_CursorNew (a b : ByteArray) : ∃ H', CC F.law_CursorNew [.string a, .string b] H0 = some (.bool true, H') := by
  by_cases h1 : 30 < ((bl a).length : Int)
  · refine any_of (H1 := ?_) (d_law_CursorNew _ _ H0 ?_)
    rotate_left 1
    · simp (disch := first | with_reducible rfl | assumption | omega | rfl | (simp only [go_sem]; first | done | omega)) only [go_sem, ↓reduceIte, reduceCtorEq, Nat.reduceEqDiff, Nat.reduceAdd, Nat.reduceSub, Nat.reduceMul, Nat.reduceDiv, Nat.reduceMod, Nat.reduceLeDiff, Nat.reduceLT, Nat.reduceBEq, Int.reduceEq, Int.reduceBEq, Int.reduceBNe, Int.reduceLT, Int.reduceLE, Int.reduceAdd, Int.reduceSub, Int.reduceNeg, Int.reduceToNat, Int.reducePow, Nat.reducePow, Int.reduceMul, Int.reduceDiv, ↓s_law_CursorNew, decide_eq_true h1]
      rfl
  · by_cases h2 : 30 < ((bl b).length : Int)
    · refine any_of (H1 := ?_) (d_law_CursorNew _ _ H0 ?_)
      rotate_left 1
      · simp (disch := first | with_reducible rfl | assumption | omega | rfl | (simp only [go_sem]; first | done | omega)) only [go_sem, ↓reduceIte, reduceCtorEq, Nat.reduceEqDiff, Nat.reduceAdd, Nat.reduceSub, Nat.reduceMul, Nat.reduceDiv, Nat.reduceMod, Nat.reduceLeDiff, Nat.reduceLT, Nat.reduceBEq, Int.reduceEq, Int.reduceBEq, Int.reduceBNe, Int.reduceLT, Int.reduceLE, Int.reduceAdd, Int.reduceSub, Int.reduceNeg, Int.reduceToNat, Int.reducePow, Nat.reducePow, Int.reduceMul, Int.reduceDiv, ↓s_law_CursorNew, decide_eq_false h1, decide_eq_true h2]
        rfl
    · by_cases h3 : 24 < ((bl a).length : Int)
      · refine any_of (H1 := ?_) (d_law_CursorNew _ _ H0 ?_)
        rotate_left 1
        · simp (disch := first | with_reducible rfl | assumption | omega | rfl | (simp only [go_sem]; first | done | omega)) only [go_sem, ↓reduceIte, reduceCtorEq, Nat.reduceEqDiff, Nat.reduceAdd, Nat.reduceSub, Nat.reduceMul, Nat.reduceDiv, Nat.reduceMod, Nat.reduceLeDiff, Nat.reduceLT, Nat.reduceBEq, Int.reduceEq, Int.reduceBEq, Int.reduceBNe, Int.reduceLT, Int.reduceLE, Int.reduceAdd, Int.reduceSub, Int.reduceNeg, Int.reduceToNat, Int.reducePow, Nat.reducePow, Int.reduceMul, Int.reduceDiv, ↓s_law_CursorNew, decide_eq_false h1, decide_eq_false h2, decide_eq_true h3, enterK_eq (q_fails_long a b H0 (.inl h3))]
          rfl
      · by_cases h4 : 24 < ((bl b).length : Int)
        · refine any_of (H1 := ?_) (d_law_CursorNew _ _ H0 ?_)
          rotate_left 1
          · simp (disch := first | with_reducible rfl | assumption | omega | rfl | (simp only [go_sem]; first | done | omega)) only [go_sem, ↓reduceIte, reduceCtorEq, Nat.reduceEqDiff, Nat.reduceAdd, Nat.reduceSub, Nat.reduceMul, Nat.reduceDiv, Nat.reduceMod, Nat.reduceLeDiff, Nat.reduceLT, Nat.reduceBEq, Int.reduceEq, Int.reduceBEq, Int.reduceBNe, Int.reduceLT, Int.reduceLE, Int.reduceAdd, Int.reduceSub, Int.reduceNeg, Int.reduceToNat, Int.reducePow, Nat.reducePow, Int.reduceMul, Int.reduceDiv, ↓s_law_CursorNew, decide_eq_false h1, decide_eq_false h2, decide_eq_false h3, decide_eq_true h4, enterK_eq (q_fails_long a b H0 (.inr h4))]
            rfl
        · by_cases h5 : bl b = []
          · refine any_of (H1 := ?_) (d_law_CursorNew _ _ H0 ?_)
            rotate_left 1
            · simp (disch := first | with_reducible rfl | assumption | omega | rfl | (simp only [go_sem]; first | done | omega)) only [go_sem, ↓reduceIte, reduceCtorEq, Nat.reduceEqDiff, Nat.reduceAdd, Nat.reduceSub, Nat.reduceMul, Nat.reduceDiv, Nat.reduceMod, Nat.reduceLeDiff, Nat.reduceLT, Nat.reduceBEq, Int.reduceEq, Int.reduceBEq, Int.reduceBNe, Int.reduceLT, Int.reduceLE, Int.reduceAdd, Int.reduceSub, Int.reduceNeg, Int.reduceToNat, Int.reducePow, Nat.reducePow, Int.reduceMul, Int.reduceDiv, ↓s_law_CursorNew, decide_eq_false h1, decide_eq_false h2, decide_eq_false h3, decide_eq_false h4, bl_mk, decide_eq_true h5, enterK_eq (q_New a b H0 h3 h4 (.inl h5)), enterK_eq (q_alike0 a b)]
              rfl
          · by_cases h6 : cmpS b a ≤ 0
            · refine any_of (H1 := ?_) (d_law_CursorNew _ _ H0 ?_)
              rotate_left 1
              · simp (disch := first | with_reducible rfl | assumption | omega | rfl | (simp only [go_sem]; first | done | omega)) only [go_sem, ↓reduceIte, reduceCtorEq, Nat.reduceEqDiff, Nat.reduceAdd, Nat.reduceSub, Nat.reduceMul, Nat.reduceDiv, Nat.reduceMod, Nat.reduceLeDiff, Nat.reduceLT, Nat.reduceBEq, Int.reduceEq, Int.reduceBEq, Int.reduceBNe, Int.reduceLT, Int.reduceLE, Int.reduceAdd, Int.reduceSub, Int.reduceNeg, Int.reduceToNat, Int.reducePow, Nat.reducePow, Int.reduceMul, Int.reduceDiv, ↓s_law_CursorNew, decide_eq_false h1, decide_eq_false h2, decide_eq_false h3, decide_eq_false h4, bl_mk, decide_eq_false h5, leq_cmpS, decide_eq_true h6, enterK_eq (q_fails_order a b H0 h3 h4 h5 h6)]
                rfl
            · refine any_of (H1 := ?_) (d_law_CursorNew _ _ H0 ?_)
              rotate_left 1
              · simp (disch := first | with_reducible rfl | assumption | omega | rfl | (simp only [go_sem]; first | done | omega)) only [go_sem, ↓reduceIte, reduceCtorEq, Nat.reduceEqDiff, Nat.reduceAdd, Nat.reduceSub, Nat.reduceMul, Nat.reduceDiv, Nat.reduceMod, Nat.reduceLeDiff, Nat.reduceLT, Nat.reduceBEq, Int.reduceEq, Int.reduceBEq, Int.reduceBNe, Int.reduceLT, Int.reduceLE, Int.reduceAdd, Int.reduceSub, Int.reduceNeg, Int.reduceToNat, Int.reducePow, Nat.reducePow, Int.reduceMul, Int.reduceDiv, ↓s_law_CursorNew, decide_eq_false h1, decide_eq_false h2, decide_eq_false h3, decide_eq_false h4, bl_mk, decide_eq_false h5, leq_cmpS, decide_eq_false h6, enterK_eq (q_New a b H0 h3 h4 (.inr h6)), enterK_eq (q_alike0 a b)]
                rfl

theorem run_CursorNew (a b : ByteArray) (_ : (bl a).length ≤ 140737488351232) (_ : (bl b).length ≤ 140737488351232) : ∃ k H', dCall Try.prog prims1 hints k F.law_CursorNew [.string a, .string b] H0 = some (.bool true, H') := by
  obtain ⟨H', h⟩ := q_CursorNew a b
  obtain ⟨k, h⟩ := D_run h
  exact ⟨k, _, h⟩
end Go.Proofs.Ytmbppjilnnjdaaa
