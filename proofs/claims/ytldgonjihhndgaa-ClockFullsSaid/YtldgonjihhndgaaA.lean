/-
  Chapter 02: contracts of small functions.
  Conditions: none. By an AI agent.
-/
import Derived.Test.YtldgonjihhndgaaDs
import Derived.Test.YtldgonjihhndgaaEng23
set_option maxRecDepth 10000
set_option linter.unusedSimpArgs false
set_option linter.unusedVariables false
namespace Go.Proofs.Ytldgonjihhndgaa
open Go Eng

def isTick (n : Int) : Bool := decide (0 ≤ n) && decide (n ≤ 4611686018427387904)

@[go_sem] theorem ptr_nil_eq {ox oy : Operand} : xbin Try.prog .eql T.p_clock_Clock ox oy (.pointer none) (.pointer none) = some (.bool true) := by kernel_rfl
@[go_sem] theorem ptr_some_eq {ox oy : Operand} {a : Addr} : xbin Try.prog .eql T.p_clock_Clock ox oy (.pointer (some a)) (.pointer none) = some (.bool false) := by kernel_rfl
@[go_sem] theorem sl_nil_eq {ox oy : Operand} : xbin Try.prog .eql T.sl_clock_alarm ox oy (.slice none 0 0) (.slice none 0 0) = some (.bool true) := by kernel_rfl
@[go_sem] theorem sl_some_eq {ox oy : Operand} {a : Addr} {n c : Nat} : xbin Try.prog .eql T.sl_clock_alarm ox oy (.slice (some a) n c) (.slice none 0 0) = some (.bool false) := by kernel_rfl

theorem k_known (H : AHeap) : CC F.law_known [] H = some (.bool true, H) := D_prim (show prims1 F.law_known = some trueP by kernel_rfl) rfl
@[go_sem, go_sem ↓] theorem e_known {H : AHeap} {k : Value → AHeap → Res} : enterK CC F.law_known [] H k = k (.bool true) H := enterK_eq (k_known H)
@[go_sem] theorem bool_ne {ox oy : Operand} {a b : Bool} : xbin Try.prog .neq T.bool ox oy (.bool a) (.bool b) = some (.bool (a != b)) := by
  cases a <;> cases b <;> kernel_rfl

theorem q_clock_tick (n : Int) (H : AHeap) : CC F.clock_tick [.int .i64 n] H = some (.bool (isTick n), H) := by
  unfold isTick
  by_cases h : 0 ≤ n
  all_goals
    apply pure_of _ (d_clock_tick _ H) rfl
    rotate_left 2
    · simp (disch := first | with_reducible rfl | assumption | omega | rfl | (simp only [go_sem]; first | done | omega)) only [go_sem, ↓reduceIte, reduceCtorEq, Nat.reduceEqDiff, Nat.reduceAdd, Nat.reduceSub, Nat.reduceMul, Nat.reduceDiv, Nat.reduceMod, Nat.reduceLeDiff, Nat.reduceLT, Nat.reduceBEq, Int.reduceEq, Int.reduceBEq, Int.reduceBNe, Int.reduceLT, Int.reduceLE, Int.reduceAdd, Int.reduceSub, Int.reduceNeg, Int.reduceToNat, Int.reducePow, Nat.reducePow, Int.reduceMul, Int.reduceDiv, ↓s_clock_tick, ge_iff_le, h, decide_true, decide_false]; rfl
    · (repeat (first | exact Fr.refl _ | refine Fr.push ?_ _ | refine Fr.set ?_ _ _ (by intro h; simp only [go_sem] at h; omega)))
@[go_sem, go_sem ↓] theorem e_clock_tick (n : Int) (H : AHeap) {k : Value → AHeap → Res} : enterK CC F.clock_tick [.int .i64 n] H k = k (.bool (isTick n)) H := enterK_eq (q_clock_tick n H)

theorem q_ref_Tick (n : Int) (H : AHeap) : CC F.ref02_Tick [.int .i64 n] H = some (.bool (isTick n), H) := by
  unfold isTick
  by_cases h : 0 ≤ n
  all_goals
    apply pure_of _ (d_ref02_Tick _ H) rfl
    rotate_left 2
    · simp (disch := first | with_reducible rfl | assumption | omega | rfl | (simp only [go_sem]; first | done | omega)) only [go_sem, ↓reduceIte, reduceCtorEq, Nat.reduceEqDiff, Nat.reduceAdd, Nat.reduceSub, Nat.reduceMul, Nat.reduceDiv, Nat.reduceMod, Nat.reduceLeDiff, Nat.reduceLT, Nat.reduceBEq, Int.reduceEq, Int.reduceBEq, Int.reduceBNe, Int.reduceLT, Int.reduceLE, Int.reduceAdd, Int.reduceSub, Int.reduceNeg, Int.reduceToNat, Int.reducePow, Nat.reducePow, Int.reduceMul, Int.reduceDiv, ↓s_ref02_Tick, ge_iff_le, h, decide_true, decide_false]; rfl
    · (repeat (first | exact Fr.refl _ | refine Fr.push ?_ _ | refine Fr.set ?_ _ _ (by intro h; simp only [go_sem] at h; omega)))
@[go_sem, go_sem ↓] theorem e_ref_Tick (n : Int) (H : AHeap) {k : Value → AHeap → Res} : enterK CC F.ref02_Tick [.int .i64 n] H k = k (.bool (isTick n)) H := enterK_eq (q_ref_Tick n H)

theorem q_clock_Passed (d n : Int) (H : AHeap) : CC F.clock_Passed [.int .i64 d, .int .i64 n] H = some (.bool (decide (d < 4611686018427387904) && decide (d < n)), H) := by
  by_cases h : d < 4611686018427387904
  all_goals
    apply pure_of _ (d_clock_Passed _ _ H) rfl
    rotate_left 2
    · simp (disch := first | with_reducible rfl | assumption | omega | rfl | (simp only [go_sem]; first | done | omega)) only [go_sem, ↓reduceIte, reduceCtorEq, Nat.reduceEqDiff, Nat.reduceAdd, Nat.reduceSub, Nat.reduceMul, Nat.reduceDiv, Nat.reduceMod, Nat.reduceLeDiff, Nat.reduceLT, Nat.reduceBEq, Int.reduceEq, Int.reduceBEq, Int.reduceBNe, Int.reduceLT, Int.reduceLE, Int.reduceAdd, Int.reduceSub, Int.reduceNeg, Int.reduceToNat, Int.reducePow, Nat.reducePow, Int.reduceMul, Int.reduceDiv, ↓s_clock_Passed, gt_iff_lt, h, decide_true, decide_false]; rfl
    · (repeat (first | exact Fr.refl _ | refine Fr.push ?_ _ | refine Fr.set ?_ _ _ (by intro h; simp only [go_sem] at h; omega)))
@[go_sem, go_sem ↓] theorem e_clock_Passed (d n : Int) (H : AHeap) {k : Value → AHeap → Res} : enterK CC F.clock_Passed [.int .i64 d, .int .i64 n] H k = k (.bool (decide (d < 4611686018427387904) && decide (d < n))) H := enterK_eq (q_clock_Passed d n H)

theorem q_clock_Due_bad (now n : Int) (H : AHeap) (h : ¬ (isTick now = true ∧ 0 ≤ n)) : CC F.clock_Due [.int .i64 now, .int .i64 n] H = some (.tuple #[.int .i64 0, .int .i64 2], H) := by
  by_cases h1 : isTick now = true
  · have h2 : n < 0 := by
      rcases Int.lt_or_le n 0 with h2 | h2
      · exact h2
      · exact absurd ⟨h1, h2⟩ h
    apply pure_of _ (d_clock_Due _ _ H) rfl
    rotate_left 2
    · simp (disch := first | with_reducible rfl | assumption | omega | rfl | (simp only [go_sem]; first | done | omega)) only [go_sem, ↓reduceIte, reduceCtorEq, Nat.reduceEqDiff, Nat.reduceAdd, Nat.reduceSub, Nat.reduceMul, Nat.reduceDiv, Nat.reduceMod, Nat.reduceLeDiff, Nat.reduceLT, Nat.reduceBEq, Int.reduceEq, Int.reduceBEq, Int.reduceBNe, Int.reduceLT, Int.reduceLE, Int.reduceAdd, Int.reduceSub, Int.reduceNeg, Int.reduceToNat, Int.reducePow, Nat.reducePow, Int.reduceMul, Int.reduceDiv, ↓s_clock_Due, e_clock_tick, h1, Bool.not_true, h2, decide_true]; rfl
    · (repeat (first | exact Fr.refl _ | refine Fr.push ?_ _ | refine Fr.set ?_ _ _ (by intro h; simp only [go_sem] at h; omega)))
  · have h1 : isTick now = false := by simpa using h1
    apply pure_of _ (d_clock_Due _ _ H) rfl
    rotate_left 2
    · simp (disch := first | with_reducible rfl | assumption | omega | rfl | (simp only [go_sem]; first | done | omega)) only [go_sem, ↓reduceIte, reduceCtorEq, Nat.reduceEqDiff, Nat.reduceAdd, Nat.reduceSub, Nat.reduceMul, Nat.reduceDiv, Nat.reduceMod, Nat.reduceLeDiff, Nat.reduceLT, Nat.reduceBEq, Int.reduceEq, Int.reduceBEq, Int.reduceBNe, Int.reduceLT, Int.reduceLE, Int.reduceAdd, Int.reduceSub, Int.reduceNeg, Int.reduceToNat, Int.reducePow, Nat.reducePow, Int.reduceMul, Int.reduceDiv, ↓s_clock_Due, e_clock_tick, h1, Bool.not_false]; rfl
    · (repeat (first | exact Fr.refl _ | refine Fr.push ?_ _ | refine Fr.set ?_ _ _ (by intro h; simp only [go_sem] at h; omega)))
@[go_sem, go_sem ↓] theorem e_clock_Due_bad (now n : Int) (H : AHeap) (h : ¬ (isTick now = true ∧ 0 ≤ n)) {k : Value → AHeap → Res} : enterK CC F.clock_Due [.int .i64 now, .int .i64 n] H k = k (.tuple #[.int .i64 0, .int .i64 2]) H := enterK_eq (q_clock_Due_bad now n H h)

def due (now n : Int) : Int := if 4611686018427387904 - now < n then 4611686018427387904 else now + n

theorem isTick_iff {n : Int} : isTick n = true ↔ 0 ≤ n ∧ n ≤ 4611686018427387904 := by simp [isTick]

theorem q_clock_Due (now n : Int) (H : AHeap) (h1 : isTick now = true) (h2 : 0 ≤ n) : CC F.clock_Due [.int .i64 now, .int .i64 n] H = some (.tuple #[.int .i64 (due now n), .int .i64 0], H) := by
  obtain ⟨ht1, ht2⟩ := isTick_iff.1 h1
  have h3 : ¬ n < 0 := by omega
  unfold due
  by_cases h : 4611686018427387904 - now < n
  all_goals
    apply pure_of _ (d_clock_Due _ _ H) rfl
    rotate_left 2
    · simp (disch := first | with_reducible rfl | assumption | omega | rfl | (simp only [go_sem]; first | done | omega)) only [go_sem, ↓reduceIte, reduceCtorEq, Nat.reduceEqDiff, Nat.reduceAdd, Nat.reduceSub, Nat.reduceMul, Nat.reduceDiv, Nat.reduceMod, Nat.reduceLeDiff, Nat.reduceLT, Nat.reduceBEq, Int.reduceEq, Int.reduceBEq, Int.reduceBNe, Int.reduceLT, Int.reduceLE, Int.reduceAdd, Int.reduceSub, Int.reduceNeg, Int.reduceToNat, Int.reducePow, Nat.reducePow, Int.reduceMul, Int.reduceDiv, ↓s_clock_Due, e_clock_tick, h1, Bool.not_true, h3, decide_false, gt_iff_lt, h, decide_true, if_true, if_false]; rfl
    · (repeat (first | exact Fr.refl _ | refine Fr.push ?_ _ | refine Fr.set ?_ _ _ (by intro h; simp only [go_sem] at h; omega)))
@[go_sem, go_sem ↓] theorem e_clock_Due (now n : Int) (H : AHeap) (h1 : isTick now = true) (h2 : 0 ≤ n) {k : Value → AHeap → Res} : enterK CC F.clock_Due [.int .i64 now, .int .i64 n] H k = k (.tuple #[.int .i64 (due now n), .int .i64 0]) H := enterK_eq (q_clock_Due now n H h1 h2)

theorem q_ref_Due (now n : Int) (H : AHeap) (h1 : isTick now = true) (h2 : 0 ≤ n) : CC F.ref02_Due [.int .i64 now, .int .i64 n] H = some (.int .i64 (due now n), H) := by
  obtain ⟨ht1, ht2⟩ := isTick_iff.1 h1
  unfold due
  by_cases h : 4611686018427387904 - now < n
  all_goals
    apply pure_of _ (d_ref02_Due _ _ H) rfl
    rotate_left 2
    · simp (disch := first | with_reducible rfl | assumption | omega | rfl | (simp only [go_sem]; first | done | omega)) only [go_sem, ↓reduceIte, reduceCtorEq, Nat.reduceEqDiff, Nat.reduceAdd, Nat.reduceSub, Nat.reduceMul, Nat.reduceDiv, Nat.reduceMod, Nat.reduceLeDiff, Nat.reduceLT, Nat.reduceBEq, Int.reduceEq, Int.reduceBEq, Int.reduceBNe, Int.reduceLT, Int.reduceLE, Int.reduceAdd, Int.reduceSub, Int.reduceNeg, Int.reduceToNat, Int.reducePow, Nat.reducePow, Int.reduceMul, Int.reduceDiv, ↓s_ref02_Due, gt_iff_lt, h, decide_true, decide_false, if_true, if_false]; rfl
    · (repeat (first | exact Fr.refl _ | refine Fr.push ?_ _ | refine Fr.set ?_ _ _ (by intro h; simp only [go_sem] at h; omega)))
@[go_sem, go_sem ↓] theorem e_ref_Due (now n : Int) (H : AHeap) (h1 : isTick now = true) (h2 : 0 ≤ n) {k : Value → AHeap → Res} : enterK CC F.ref02_Due [.int .i64 now, .int .i64 n] H k = k (.int .i64 (due now n)) H := enterK_eq (q_ref_Due now n H h1 h2)

theorem q_zero_nil (H : AHeap) : CC F.clock_Clock_zero [.pointer none] H = some (.bool true, H) := by
  apply pure_of _ (d_clock_Clock_zero _ H) rfl
  rotate_left 2
  · simp (disch := first | with_reducible rfl | assumption | omega | rfl | (simp only [go_sem]; first | done | omega)) only [go_sem, ↓reduceIte, reduceCtorEq, Nat.reduceEqDiff, Nat.reduceAdd, Nat.reduceSub, Nat.reduceMul, Nat.reduceDiv, Nat.reduceMod, Nat.reduceLeDiff, Nat.reduceLT, Nat.reduceBEq, Int.reduceEq, Int.reduceBEq, Int.reduceBNe, Int.reduceLT, Int.reduceLE, Int.reduceAdd, Int.reduceSub, Int.reduceNeg, Int.reduceToNat, Int.reducePow, Nat.reducePow, Int.reduceMul, Int.reduceDiv, ↓s_clock_Clock_zero]; rfl
  · (repeat (first | exact Fr.refl _ | refine Fr.push ?_ _ | refine Fr.set ?_ _ _ (by intro h; simp only [go_sem] at h; omega)))
@[go_sem, go_sem ↓] theorem e_zero_nil (H : AHeap) {k : Value → AHeap → Res} : enterK CC F.clock_Clock_zero [.pointer none] H k = k (.bool true) H := enterK_eq (q_zero_nil H)
theorem q_zero (b : Nat) (m : Bool) (x y : Value) (H : AHeap) (hf : H.f b = .cells [.bool m, x, y] T.clock_Clock true) : CC F.clock_Clock_zero [.pointer (some ⟨b, 0, none⟩)] H = some (.bool !m, H) := by
  apply pure_of _ (d_clock_Clock_zero _ H) rfl
  rotate_left 2
  · simp (disch := first | with_reducible rfl | assumption | omega | rfl | (simp only [go_sem]; first | done | omega)) only [go_sem, ↓reduceIte, reduceCtorEq, Nat.reduceEqDiff, Nat.reduceAdd, Nat.reduceSub, Nat.reduceMul, Nat.reduceDiv, Nat.reduceMod, Nat.reduceLeDiff, Nat.reduceLT, Nat.reduceBEq, Int.reduceEq, Int.reduceBEq, Int.reduceBNe, Int.reduceLT, Int.reduceLE, Int.reduceAdd, Int.reduceSub, Int.reduceNeg, Int.reduceToNat, Int.reducePow, Nat.reducePow, Int.reduceMul, Int.reduceDiv, ↓s_clock_Clock_zero, hf]; rfl
  · (repeat (first | exact Fr.refl _ | refine Fr.push ?_ _ | refine Fr.set ?_ _ _ (by intro h; simp only [go_sem] at h; omega)))

/-! cmp -/
def cmpI (a b : Int) : Int := if a < b then -1 else if b < a then 1 else 0

theorem q_isNaN (n : Int) (H : AHeap) : CC F.cmp_isNaN_int [.int .i64 n] H = some (.bool false, H) := by
  apply pure_of _ (d_cmp_isNaN_int _ H) rfl
  rotate_left 2
  · simp (disch := first | with_reducible rfl | assumption | omega | rfl | (simp only [go_sem]; first | done | omega)) only [go_sem, ↓reduceIte, reduceCtorEq, Nat.reduceEqDiff, Nat.reduceAdd, Nat.reduceSub, Nat.reduceMul, Nat.reduceDiv, Nat.reduceMod, Nat.reduceLeDiff, Nat.reduceLT, Nat.reduceBEq, Int.reduceEq, Int.reduceBEq, Int.reduceBNe, Int.reduceLT, Int.reduceLE, Int.reduceAdd, Int.reduceSub, Int.reduceNeg, Int.reduceToNat, Int.reducePow, Nat.reducePow, Int.reduceMul, Int.reduceDiv, ↓s_cmp_isNaN_int, bne_self_eq_false]; rfl
  · (repeat (first | exact Fr.refl _ | refine Fr.push ?_ _ | refine Fr.set ?_ _ _ (by intro h; simp only [go_sem] at h; omega)))
@[go_sem, go_sem ↓] theorem e_isNaN (n : Int) (H : AHeap) {k : Value → AHeap → Res} : enterK CC F.cmp_isNaN_int [.int .i64 n] H k = k (.bool false) H := enterK_eq (q_isNaN n H)

theorem q_Compare (a b : Int) (H : AHeap) : CC F.cmp_Compare_int [.int .i64 a, .int .i64 b] H = some (.int .i64 (cmpI a b), H) := by
  unfold cmpI
  by_cases h1 : a < b <;> by_cases h2 : b < a
  all_goals
    apply pure_of _ (d_cmp_Compare_int _ _ H) rfl
    rotate_left 2
    · simp (disch := first | with_reducible rfl | assumption | omega | rfl | (simp only [go_sem]; first | done | omega)) only [go_sem, ↓reduceIte, reduceCtorEq, Nat.reduceEqDiff, Nat.reduceAdd, Nat.reduceSub, Nat.reduceMul, Nat.reduceDiv, Nat.reduceMod, Nat.reduceLeDiff, Nat.reduceLT, Nat.reduceBEq, Int.reduceEq, Int.reduceBEq, Int.reduceBNe, Int.reduceLT, Int.reduceLE, Int.reduceAdd, Int.reduceSub, Int.reduceNeg, Int.reduceToNat, Int.reducePow, Nat.reducePow, Int.reduceMul, Int.reduceDiv, ↓s_cmp_Compare_int, e_isNaN, gt_iff_lt, h1, h2, decide_true, decide_false, if_true, if_false]; rfl
    · (repeat (first | exact Fr.refl _ | refine Fr.push ?_ _ | refine Fr.set ?_ _ _ (by intro h; simp only [go_sem] at h; omega)))
@[go_sem, go_sem ↓] theorem e_Compare (a b : Int) (H : AHeap) {k : Value → AHeap → Res} : enterK CC F.cmp_Compare_int [.int .i64 a, .int .i64 b] H k = k (.int .i64 (cmpI a b)) H := enterK_eq (q_Compare a b H)

def orI (a b : Int) : Int := if a = 0 then b else a

theorem q_Or (a b : Int) (k : Nat) (H : AHeap) (hk : k < H.n) (hf : H.f k = .cells [.int .i64 a, .int .i64 b] T.int true) : CC F.cmp_Or_int [.slice (some ⟨k, 0, none⟩) 2 4] H = some (.int .i64 (orI a b), H) := by
  unfold orI
  by_cases h1 : a = 0
  · subst h1
    by_cases h2 : b = 0
    all_goals
      apply pure_of _ (d_cmp_Or_int _ H) rfl
      rotate_left 2
      · simp (disch := first | with_reducible rfl | assumption | omega | rfl | (simp only [go_sem]; first | done | omega)) only [go_sem, ↓reduceIte, reduceCtorEq, Nat.reduceEqDiff, Nat.reduceAdd, Nat.reduceSub, Nat.reduceMul, Nat.reduceDiv, Nat.reduceMod, Nat.reduceLeDiff, Nat.reduceLT, Nat.reduceBEq, Int.reduceEq, Int.reduceBEq, Int.reduceBNe, Int.reduceLT, Int.reduceLE, Int.reduceAdd, Int.reduceSub, Int.reduceNeg, Int.reduceToNat, Int.reducePow, Nat.reducePow, Int.reduceMul, Int.reduceDiv, ↓s_cmp_Or_int, ↓r_cmp_Or_int_0, ↓s_cmp_Or_int_b0, hf, h2]; rfl
      · (repeat (first | exact Fr.refl _ | refine Fr.push ?_ _ | refine Fr.set ?_ _ _ (by intro h; simp only [go_sem] at h; omega)))
  · apply pure_of _ (d_cmp_Or_int _ H) rfl
    rotate_left 2
    · simp (disch := first | with_reducible rfl | assumption | omega | rfl | (simp only [go_sem]; first | done | omega)) only [go_sem, ↓reduceIte, reduceCtorEq, Nat.reduceEqDiff, Nat.reduceAdd, Nat.reduceSub, Nat.reduceMul, Nat.reduceDiv, Nat.reduceMod, Nat.reduceLeDiff, Nat.reduceLT, Nat.reduceBEq, Int.reduceEq, Int.reduceBEq, Int.reduceBNe, Int.reduceLT, Int.reduceLE, Int.reduceAdd, Int.reduceSub, Int.reduceNeg, Int.reduceToNat, Int.reducePow, Nat.reducePow, Int.reduceMul, Int.reduceDiv, ↓s_cmp_Or_int, ↓r_cmp_Or_int_0, ↓s_cmp_Or_int_b0, hf, h1]; rfl
    · (repeat (first | exact Fr.refl _ | refine Fr.push ?_ _ | refine Fr.set ?_ _ _ (by intro h; simp only [go_sem] at h; omega)))

end Go.Proofs.Ytldgonjihhndgaa
