/-
  Chapter 02: contracts of the functions over lists of alarms.
  Conditions: none. By an AI agent.
-/
import Derived.Test.YtldgonjihhndgaaA
set_option maxRecDepth 10000
set_option linter.unusedSimpArgs false
set_option linter.unusedVariables false
namespace Go.Proofs.Ytldgonjihhndgaa
open Go Eng

structure Al where
  id : Int
  tm : Int
deriving DecidableEq

def EAl : Enc Al := ⟨2, fun a => [.int .i64 a.id, .int .i64 a.tm], fun _ => rfl, by decide, fun _ => rfl⟩

def cmpA (a b : Al) : Int := orI (cmpI a.tm b.tm) (cmpI a.id b.id)

theorem q_compare (a b : Al) (H : AHeap) : CC F.clock_alarm_compare [.agg #[.int .i64 a.id, .int .i64 a.tm], .agg #[.int .i64 b.id, .int .i64 b.tm]] H = some (.int .i64 (cmpA a b), H) := by
  apply pure_of _ (d_clock_alarm_compare _ _ H) rfl
  rotate_left 2
  · simp (disch := first | with_reducible rfl | assumption | omega | rfl | (simp only [go_sem]; first | done | omega)) only [go_sem, ↓reduceIte, reduceCtorEq, Nat.reduceEqDiff, Nat.reduceAdd, Nat.reduceSub, Nat.reduceMul, Nat.reduceDiv, Nat.reduceMod, Nat.reduceLeDiff, Nat.reduceLT, Nat.reduceBEq, Int.reduceEq, Int.reduceBEq, Int.reduceBNe, Int.reduceLT, Int.reduceLE, Int.reduceAdd, Int.reduceSub, Int.reduceNeg, Int.reduceToNat, Int.reducePow, Nat.reducePow, Int.reduceMul, Int.reduceDiv, ↓s_clock_alarm_compare, e_Compare]
    rw [enterK_eq (q_Or (cmpI a.tm b.tm) (cmpI a.id b.id) _ _ (by simp (disch := first | with_reducible rfl | assumption | omega | rfl | (simp only [go_sem]; first | done | omega)) only [go_sem, ↓reduceIte, reduceCtorEq, Nat.reduceEqDiff, Nat.reduceAdd, Nat.reduceSub, Nat.reduceMul, Nat.reduceDiv, Nat.reduceMod, Nat.reduceLeDiff, Nat.reduceLT, Nat.reduceBEq, Int.reduceEq, Int.reduceBEq, Int.reduceBNe, Int.reduceLT, Int.reduceLE, Int.reduceAdd, Int.reduceSub, Int.reduceNeg, Int.reduceToNat, Int.reducePow, Nat.reducePow, Int.reduceMul, Int.reduceDiv]; omega) (by simp (disch := first | with_reducible rfl | assumption | omega | rfl | (simp only [go_sem]; first | done | omega)) only [go_sem, ↓reduceIte, reduceCtorEq, Nat.reduceEqDiff, Nat.reduceAdd, Nat.reduceSub, Nat.reduceMul, Nat.reduceDiv, Nat.reduceMod, Nat.reduceLeDiff, Nat.reduceLT, Nat.reduceBEq, Int.reduceEq, Int.reduceBEq, Int.reduceBNe, Int.reduceLT, Int.reduceLE, Int.reduceAdd, Int.reduceSub, Int.reduceNeg, Int.reduceToNat, Int.reducePow, Nat.reducePow, Int.reduceMul, Int.reduceDiv]))]
    rfl
  · (repeat (first | exact Fr.refl _ | refine Fr.push ?_ _ | refine Fr.set ?_ _ _ (by intro h; simp only [go_sem] at h; omega)))
@[go_sem, go_sem ↓] theorem e_compare (a b : Al) (H : AHeap) {k : Value → AHeap → Res} : enterK CC F.clock_alarm_compare [.agg #[.int .i64 a.id, .int .i64 a.tm], .agg #[.int .i64 b.id, .int .i64 b.tm]] H k = k (.int .i64 (cmpA a b)) H := enterK_eq (q_compare a b H)

/-! IndexFunc with find's function -/
theorem q_find_1 (a : Al) (id : Int) (k : Nat) (H : AHeap) (hk : k < H.n) (hf : H.f k = .cells [.int .i64 id] T.int true) : CC F.clock_Clock_find_1 [.agg #[.int .i64 a.id, .int .i64 a.tm], .pointer (some ⟨k, 0, none⟩)] H = some (.bool (decide (a.id = id)), H) := by
  apply pure_of _ (d_clock_Clock_find_1 _ _ H) rfl
  rotate_left 2
  · simp (disch := first | with_reducible rfl | assumption | omega | rfl | (simp only [go_sem]; first | done | omega)) only [go_sem, ↓reduceIte, reduceCtorEq, Nat.reduceEqDiff, Nat.reduceAdd, Nat.reduceSub, Nat.reduceMul, Nat.reduceDiv, Nat.reduceMod, Nat.reduceLeDiff, Nat.reduceLT, Nat.reduceBEq, Int.reduceEq, Int.reduceBEq, Int.reduceBNe, Int.reduceLT, Int.reduceLE, Int.reduceAdd, Int.reduceSub, Int.reduceNeg, Int.reduceToNat, Int.reducePow, Nat.reducePow, Int.reduceMul, Int.reduceDiv, ↓s_clock_Clock_find_1, hf]
    rfl
  · (repeat (first | exact Fr.refl _ | refine Fr.push ?_ _ | refine Fr.set ?_ _ _ (by intro h; simp only [go_sem] at h; omega)))

/-- The index of the first alarm with an ID, from an index on. -/
def idxFrom (id : Int) : List Al → Nat → Int
  | [], _ => -1
  | a :: l, i => if a.id = id then i else idxFrom id l (i + 1)

theorem l_index (l : List Al) (v : Value) (id : Int) (k : Nat) (H : AHeap) (hk : k < H.n) (hf : H.f k = .cells [.int .i64 id] T.int true) (hr : Rd EAl H v l) (hl : l.length < 4611686018427387904) (K : K) : ∀ (m : List Al) (i : Nat), l.drop i = m → i ≤ l.length →
    l_slices_IndexFunc_alarm_0 v (.func (.func F.clock_Clock_find_1) #[] #[.pointer (some ⟨k, 0, none⟩)]) (.int .i64 l.length) (.int .i64 i) H (blkK [] 0 (seqK (fun _ h2 => K .ret [(4, .int .i64 (-1))] h2) K)) = K .ret [(4, .int .i64 (idxFrom id m i))] H
  | [], i, hm, hi => by
    have h : l.length ≤ i := List.drop_eq_nil_iff.1 hm
    have hlt : ¬ (i : Int) < (l.length : Int) := by omega
    rw [r_slices_IndexFunc_alarm_0]
    simp (disch := first | with_reducible rfl | assumption | omega | rfl | (simp only [go_sem]; first | done | omega)) only [go_sem, ↓reduceIte, reduceCtorEq, Nat.reduceEqDiff, Nat.reduceAdd, Nat.reduceSub, Nat.reduceMul, Nat.reduceDiv, Nat.reduceMod, Nat.reduceLeDiff, Nat.reduceLT, Nat.reduceBEq, Int.reduceEq, Int.reduceBEq, Int.reduceBNe, Int.reduceLT, Int.reduceLE, Int.reduceAdd, Int.reduceSub, Int.reduceNeg, Int.reduceToNat, Int.reducePow, Nat.reducePow, Int.reduceMul, Int.reduceDiv, ↓s_slices_IndexFunc_alarm_b0, hlt, idxFrom]
  | a :: m, i, hm, hi => by
    have h : i < l.length := by
      rcases Nat.lt_or_ge i l.length with h | h
      · exact h
      · rw [List.drop_eq_nil_of_le h] at hm; cases hm
    have hlt : (i : Int) < (l.length : Int) := by omega
    have ha : l[i] = a := by rw [List.drop_eq_getElem_cons h] at hm; exact (List.cons.inj hm).1
    have hm' : l.drop (i + 1) = m := by rw [List.drop_eq_getElem_cons h] at hm; exact (List.cons.inj hm).2
    have ih := l_index l v id k H hk hf hr hl K m (i + 1) hm' h
    obtain ⟨b, o, hix, hb, hc, _⟩ := hr.ix (q := .i64) h
    rw [ha] at hc
    have hix : ixS 2 v (.int .i64 i) = some (.pointer (some ⟨b, o, none⟩)) := hix
    have hc : cutB (H.f b) o 2 = some [.int .i64 a.id, .int .i64 a.tm] := hc
    have hq := q_find_1 a id k H hk hf
    by_cases he : a.id = id
    · have hq2 : ∀ k', enterK CC F.clock_Clock_find_1 [.agg #[.int .i64 a.id, .int .i64 a.tm], .pointer (some ⟨k, 0, none⟩)] H k' = k' (.bool true) H := fun k' => enterK_eq (by rw [hq, decide_eq_true he])
      rw [idxFrom, if_pos he]
      rw [r_slices_IndexFunc_alarm_0]
      simp (disch := first | with_reducible rfl | assumption | omega | rfl | (simp only [go_sem]; first | done | omega)) only [go_sem, ↓reduceIte, reduceCtorEq, Nat.reduceEqDiff, Nat.reduceAdd, Nat.reduceSub, Nat.reduceMul, Nat.reduceDiv, Nat.reduceMod, Nat.reduceLeDiff, Nat.reduceLT, Nat.reduceBEq, Int.reduceEq, Int.reduceBEq, Int.reduceBNe, Int.reduceLT, Int.reduceLE, Int.reduceAdd, Int.reduceSub, Int.reduceNeg, Int.reduceToNat, Int.reducePow, Nat.reducePow, Int.reduceMul, Int.reduceDiv, ↓s_slices_IndexFunc_alarm_b0, hlt, hix, hc, c_clock_Clock_find_1, hq2]
    · have hq2 : ∀ k', enterK CC F.clock_Clock_find_1 [.agg #[.int .i64 a.id, .int .i64 a.tm], .pointer (some ⟨k, 0, none⟩)] H k' = k' (.bool false) H := fun k' => enterK_eq (by rw [hq, decide_eq_false he])
      have ih : l_slices_IndexFunc_alarm_0 v (.func (.func F.clock_Clock_find_1) #[] #[.pointer (some ⟨k, 0, none⟩)]) (.int .i64 l.length) (.int .i64 ((i : Int) + 1)) H (blkK [] 0 (seqK (fun _ h2 => K .ret [(4, .int .i64 (-1))] h2) K)) = K .ret [(4, .int .i64 (idxFrom id m (i + 1)))] H := ih
      rw [idxFrom, if_neg he]
      rw [r_slices_IndexFunc_alarm_0]
      simp (disch := first | with_reducible rfl | assumption | omega | rfl | (simp only [go_sem]; first | done | omega)) only [go_sem, ↓reduceIte, reduceCtorEq, Nat.reduceEqDiff, Nat.reduceAdd, Nat.reduceSub, Nat.reduceMul, Nat.reduceDiv, Nat.reduceMod, Nat.reduceLeDiff, Nat.reduceLT, Nat.reduceBEq, Int.reduceEq, Int.reduceBEq, Int.reduceBNe, Int.reduceLT, Int.reduceLE, Int.reduceAdd, Int.reduceSub, Int.reduceNeg, Int.reduceToNat, Int.reducePow, Nat.reducePow, Int.reduceMul, Int.reduceDiv, ↓s_slices_IndexFunc_alarm_b0, hlt, hix, hc, c_clock_Clock_find_1, hq2]
      exact ih

end Go.Proofs.Ytldgonjihhndgaa
