/-
  Chapter 02: the reference's comparison of lists; the statement's ticks.
  Conditions: none. By an AI agent.
-/
import Derived.Test.YtldgonjihhndgaaG
import Derived.Test.YtldgonjihhndgaaEng26
set_option maxRecDepth 10000
set_option linter.unusedSimpArgs false
set_option linter.unusedVariables false
namespace Go.Proofs.Ytldgonjihhndgaa
open Go Eng

theorem alarm_ne {ox oy : Operand} {a b c d : Int} : xbin Try.prog .neq T.api_Alarm ox oy (.agg #[.int .i64 a, .int .i64 b]) (.agg #[.int .i64 c, .int .i64 d]) = some (.bool (!(decide (a = c) && decide (b = d)))) := by
  have h := agg_ne (P := Try.prog) (t := T.api_Alarm) (xs := [.int .i64 a, .int .i64 b]) (ys := [.int .i64 c, .int .i64 d]) (ox := ox) (oy := oy) Try.underlying39 (by kernel_rfl) (by kernel_rfl) (by kernel_rfl) rfl rfl
  rw [h]
  simp [ceqs, ceq]
theorem alarm_eq {ox oy : Operand} {a b c d : Int} : xbin Try.prog .eql T.api_Alarm ox oy (.agg #[.int .i64 a, .int .i64 b]) (.agg #[.int .i64 c, .int .i64 d]) = some (.bool (decide (a = c) && decide (b = d))) := by
  have h := agg_eq (P := Try.prog) (t := T.api_Alarm) (xs := [.int .i64 a, .int .i64 b]) (ys := [.int .i64 c, .int .i64 d]) (ox := ox) (oy := oy) Try.underlying39 (by kernel_rfl) (by kernel_rfl) (by kernel_rfl) rfl rfl
  rw [h]
  simp [ceqs, ceq]

theorem al_ext {a b : Al} : a = b ↔ a.id = b.id ∧ a.tm = b.tm := by
  cases a; cases b; simp

theorem l_same (l m : List Al) (v u : Value) (H : AHeap) (hv : Rd EAl H v l) (hu : Rd EAl H u m) (hlen : l.length = m.length) (hl : l.length < 1152921504606846976) (K : K) : ∀ (d i : Nat), l.length - i = d → i ≤ l.length →
    l_ref02_Same_0 v u (.int .i64 i) H (blkK [] 0 (seqK (fun _ h5 => K .ret [(4, .bool true)] h5) K)) = K .ret [(4, .bool (decide (l.drop i = m.drop i)))] H
  | 0, i, hd, hi => by
    have h : i = l.length := by omega
    subst h
    have hlt : ¬ (l.length : Int) < (l.length : Int) := by omega
    have hl1 := hv.lenS
    rw [r_ref02_Same_0]
    have e : decide (l.drop l.length = m.drop l.length) = true := by rw [List.drop_length, hlen, List.drop_length]; rfl
    simp (disch := first | with_reducible rfl | assumption | omega | rfl | (simp only [go_sem]; first | done | omega)) only [go_sem, ↓reduceIte, reduceCtorEq, Nat.reduceEqDiff, Nat.reduceAdd, Nat.reduceSub, Nat.reduceMul, Nat.reduceDiv, Nat.reduceMod, Nat.reduceLeDiff, Nat.reduceLT, Nat.reduceBEq, Int.reduceEq, Int.reduceBEq, Int.reduceBNe, Int.reduceLT, Int.reduceLE, Int.reduceAdd, Int.reduceSub, Int.reduceNeg, Int.reduceToNat, Int.reducePow, Nat.reducePow, Int.reduceMul, Int.reduceDiv, ↓s_ref02_Same_b0, hl1, hlt, e]
  | d + 1, i, hd, hi => by
    have h : i < l.length := by omega
    have h' : i < m.length := by omega
    have hlt : (i : Int) < (l.length : Int) := by omega
    have hl1 := hv.lenS
    obtain ⟨b, o, hix, hb, hc, _⟩ := hv.ix (q := .i64) h
    obtain ⟨b2, o2, hix2, hb2, hc2, _⟩ := hu.ix (q := .i64) h'
    have hix : ixS 2 v (.int .i64 i) = some (.pointer (some ⟨b, o, none⟩)) := hix
    have hc : cutB (H.f b) o 2 = some [.int .i64 l[i].id, .int .i64 l[i].tm] := hc
    have hix2 : ixS 2 u (.int .i64 i) = some (.pointer (some ⟨b2, o2, none⟩)) := hix2
    have hc2 : cutB (H.f b2) o2 2 = some [.int .i64 m[i].id, .int .i64 m[i].tm] := hc2
    have ih := l_same l m v u H hv hu hlen hl K d (i + 1) (by omega) h
    rw [Int.natCast_add] at ih
    rw [List.drop_eq_getElem_cons h, List.drop_eq_getElem_cons h', r_ref02_Same_0]
    by_cases he : l[i] = m[i]
    · have e1 : (!(decide (l[i].id = m[i].id) && decide (l[i].tm = m[i].tm))) = false := by rw [he]; simp
      have e2 : decide (l[i] :: l.drop (i + 1) = m[i] :: m.drop (i + 1)) = decide (l.drop (i + 1) = m.drop (i + 1)) := by
        rw [he]
        exact decide_eq_decide.2 ⟨fun h => (List.cons.inj h).2, fun h => by rw [h]⟩
      rw [e2, ← ih]
      simp (disch := first | with_reducible rfl | assumption | omega | rfl | (simp only [go_sem]; first | done | omega)) only [go_sem, ↓reduceIte, reduceCtorEq, Nat.reduceEqDiff, Nat.reduceAdd, Nat.reduceSub, Nat.reduceMul, Nat.reduceDiv, Nat.reduceMod, Nat.reduceLeDiff, Nat.reduceLT, Nat.reduceBEq, Int.reduceEq, Int.reduceBEq, Int.reduceBNe, Int.reduceLT, Int.reduceLE, Int.reduceAdd, Int.reduceSub, Int.reduceNeg, Int.reduceToNat, Int.reducePow, Nat.reducePow, Int.reduceMul, Int.reduceDiv, ↓s_ref02_Same_b0, hl1, hlt, hix, hc, hix2, hc2, alarm_ne, e1]
    · have e1 : (!(decide (l[i].id = m[i].id) && decide (l[i].tm = m[i].tm))) = true := by
        rw [al_ext] at he
        simp only [Bool.not_eq_true', Bool.and_eq_false_iff, decide_eq_false_iff_not]
        by_cases h1 : l[i].id = m[i].id
        · exact .inr fun h2 => he ⟨h1, h2⟩
        · exact .inl h1
      have e2 : decide (l[i] :: l.drop (i + 1) = m[i] :: m.drop (i + 1)) = false := decide_eq_false fun h => he (List.cons.inj h).1
      rw [e2]
      simp (disch := first | with_reducible rfl | assumption | omega | rfl | (simp only [go_sem]; first | done | omega)) only [go_sem, ↓reduceIte, reduceCtorEq, Nat.reduceEqDiff, Nat.reduceAdd, Nat.reduceSub, Nat.reduceMul, Nat.reduceDiv, Nat.reduceMod, Nat.reduceLeDiff, Nat.reduceLT, Nat.reduceBEq, Int.reduceEq, Int.reduceBEq, Int.reduceBNe, Int.reduceLT, Int.reduceLE, Int.reduceAdd, Int.reduceSub, Int.reduceNeg, Int.reduceToNat, Int.reducePow, Nat.reducePow, Int.reduceMul, Int.reduceDiv, ↓s_ref02_Same_b0, hl1, hlt, hix, hc, hix2, hc2, alarm_ne, e1]

theorem q_Same (l m : List Al) (v u : Value) (H : AHeap) (hv : Rd EAl H v l) (hu : Rd EAl H u m) (hl : l.length < 1152921504606846976) : CC F.ref02_Same [v, u] H = some (.bool (decide (l = m)), H) := by
  have hl1 := hv.lenS
  have hl2 := hu.lenS
  by_cases hlen : l.length = m.length
  · have hne : (l.length : Int) = (m.length : Int) := by omega
    have hloop := l_same l m v u H hv hu hlen hl (endK Try.prog [.tmp 4]) l.length 0 (by omega) (by omega)
    rw [List.drop_zero, List.drop_zero] at hloop
    apply pure_of _ (d_ref02_Same _ _ H) rfl
    rotate_left 2
    · simp (disch := first | with_reducible rfl | assumption | omega | rfl | (simp only [go_sem]; first | done | omega)) only [go_sem, ↓reduceIte, reduceCtorEq, Nat.reduceEqDiff, Nat.reduceAdd, Nat.reduceSub, Nat.reduceMul, Nat.reduceDiv, Nat.reduceMod, Nat.reduceLeDiff, Nat.reduceLT, Nat.reduceBEq, Int.reduceEq, Int.reduceBEq, Int.reduceBNe, Int.reduceLT, Int.reduceLE, Int.reduceAdd, Int.reduceSub, Int.reduceNeg, Int.reduceToNat, Int.reducePow, Nat.reducePow, Int.reduceMul, Int.reduceDiv, ↓s_ref02_Same, hl1, hl2, hne]
      exact hloop
    · (repeat (first | exact Fr.refl _ | refine Fr.push ?_ _ | refine Fr.set ?_ _ _ (by intro h; simp only [go_sem] at h; omega)))
  · have hne : ¬ (l.length : Int) = (m.length : Int) := by omega
    have e : decide (l = m) = false := decide_eq_false fun h => hlen (by rw [h])
    rw [e]
    apply pure_of _ (d_ref02_Same _ _ H) rfl
    rotate_left 2
    · simp (disch := first | with_reducible rfl | assumption | omega | rfl | (simp only [go_sem]; first | done | omega)) only [go_sem, ↓reduceIte, reduceCtorEq, Nat.reduceEqDiff, Nat.reduceAdd, Nat.reduceSub, Nat.reduceMul, Nat.reduceDiv, Nat.reduceMod, Nat.reduceLeDiff, Nat.reduceLT, Nat.reduceBEq, Int.reduceEq, Int.reduceBEq, Int.reduceBNe, Int.reduceLT, Int.reduceLE, Int.reduceAdd, Int.reduceSub, Int.reduceNeg, Int.reduceToNat, Int.reducePow, Nat.reducePow, Int.reduceMul, Int.reduceDiv, ↓s_ref02_Same, hl1, hl2, hne]
      rfl
    · (repeat (first | exact Fr.refl _ | refine Fr.push ?_ _ | refine Fr.set ?_ _ _ (by intro h; simp only [go_sem] at h; omega)))

end Go.Proofs.Ytldgonjihhndgaa
