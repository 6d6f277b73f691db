/-
  The plain map: Range, Equal, Of.
  Conditions: none. By an AI agent.
-/
import Derived.Test.YtlagijfkkpbbnaaM4
import Derived.Test.YtlagijfkkpbbnaaOrd
set_option maxRecDepth 10000
set_option linter.unusedSimpArgs false
set_option linter.unusedVariables false
namespace Go.Proofs.Ytlagijfkkpbbnaa
open Go Eng

/-- A part in the middle that is only read. -/
theorem Own.mid {α : Type} {E : Enc α} {H : AHeap} {e : TypeId} {v : Value} {l : List α} (r : Own E H e v l) {sz : Nat} (hsz : sz = E.w) {i j : Nat} (hi : i ≤ j) (hj : j ≤ l.length) {q q' : IntKind} :
    ∃ v', slS e sz v (some (.int q (i : Int))) (some (.int q' (j : Int))) none H = some v' ∧ Rd E H v' ((l.drop i).take (j - i)) := by
  subst hsz
  rcases r with ⟨rfl, rfl⟩ | ⟨rfl, ⟨b, o, s⟩, rfl, hs, hbb⟩ | ⟨b, o, c, xs, rfl, hl, hbn, hf, ho, hx⟩
  · simp only [List.length_nil, Nat.le_zero_eq] at hj
    subst hj
    simp only [Nat.le_zero_eq] at hi
    subst hi
    exact ⟨.slice none 0 0, rfl, .inl ⟨by simp, rfl⟩⟩
  · simp only at hs
    subst hs
    simp only [List.length_nil, Nat.le_zero_eq] at hj
    subst hj
    simp only [Nat.le_zero_eq] at hi
    subst hi
    exact ⟨.slice (some ⟨b, o, none⟩) 0 0, by simp [slS, lowOf, highOf, bnd], .inr (.inl ⟨by simp, _, _, rfl, rfl⟩)⟩
  · have hmul := Nat.mul_le_mul_right E.w hl
    have hmj := Nat.mul_le_mul_right E.w hj
    have hmi := Nat.mul_le_mul_right E.w hi
    refine ⟨_, sl_lohi hf hi (Nat.le_trans hj hl), ?_⟩
    have hlen : ((l.drop i).take (j - i)).length = j - i := by simp; omega
    by_cases h0 : j - i = 0
    · rw [h0]; exact .inr (.inl ⟨by simp, _, _, rfl, rfl⟩)
    · refine .inr (.inr ⟨b, _, _, by rw [hlen], fun h => h0 (by rw [← hlen, h]; rfl), hbn, ?_⟩)
      have hsub : (j - i) * E.w = j * E.w - i * E.w := Nat.sub_mul _ _ _
      rw [hlen, hf, cutB_c (by omega), ← E.cells_take, ← E.cells_drop, ← hx, List.drop_take, List.take_take, List.drop_drop, Nat.min_eq_left (by omega)]

theorem q_Range_arg (b : Nat) (sf st : ByteArray) (n : Int) (H : AHeap) (h : n < 1 ∨ 32 < n) :
    CC F.model_Model_Range [.pointer (some ⟨b, 0, none⟩), .string sf, .string st, .int .i64 n] H = some (.tuple #[.slice none 0 0, .int .i64 2], H) := by
  by_cases h1 : n < 1
  · apply pure_of _ (d_model_Model_Range _ _ _ _ H) rfl
    rotate_left 2
    · simp (disch := first | with_reducible rfl | assumption | omega | rfl | (simp only [go_sem]; first | done | omega)) only [go_sem, ↓reduceIte, reduceCtorEq, Nat.reduceEqDiff, Nat.reduceAdd, Nat.reduceSub, Nat.reduceMul, Nat.reduceDiv, Nat.reduceMod, Nat.reduceLeDiff, Nat.reduceLT, Nat.reduceBEq, Int.reduceEq, Int.reduceBEq, Int.reduceBNe, Int.reduceLT, Int.reduceLE, Int.reduceAdd, Int.reduceSub, Int.reduceNeg, Int.reduceToNat, Int.reducePow, Nat.reducePow, Int.reduceMul, Int.reduceDiv, ↓s_model_Model_Range, mp_some, decide_eq_true h1]
      rfl
    · (repeat (first | exact Fr.refl _ | refine Fr.push ?_ _ | refine Fr.set ?_ _ _ (by intro h; first | omega | (simp only [go_sem] at h; omega))))
  · have h2 : 32 < n := by omega
    apply pure_of _ (d_model_Model_Range _ _ _ _ H) rfl
    rotate_left 2
    · simp (disch := first | with_reducible rfl | assumption | omega | rfl | (simp only [go_sem]; first | done | omega)) only [go_sem, ↓reduceIte, reduceCtorEq, Nat.reduceEqDiff, Nat.reduceAdd, Nat.reduceSub, Nat.reduceMul, Nat.reduceDiv, Nat.reduceMod, Nat.reduceLeDiff, Nat.reduceLT, Nat.reduceBEq, Int.reduceEq, Int.reduceBEq, Int.reduceBNe, Int.reduceLT, Int.reduceLE, Int.reduceAdd, Int.reduceSub, Int.reduceNeg, Int.reduceToNat, Int.reducePow, Nat.reducePow, Int.reduceMul, Int.reduceDiv, ↓s_model_Model_Range, mp_some, decide_eq_false h1, decide_eq_true h2]
      rfl
    · (repeat (first | exact Fr.refl _ | refine Fr.push ?_ _ | refine Fr.set ?_ _ _ (by intro h; first | omega | (simp only [go_sem] at h; omega))))
theorem q_Range_long (b : Nat) (sf st : ByteArray) (n : Int) (H : AHeap) (hn1 : ¬ n < 1) (hn2 : ¬ 32 < n) (h : 24 < ((bl sf).length : Int) ∨ 24 < ((bl st).length : Int)) :
    CC F.model_Model_Range [.pointer (some ⟨b, 0, none⟩), .string sf, .string st, .int .i64 n] H = some (.tuple #[.slice none 0 0, .int .i64 5], H) := by
  by_cases h1 : 24 < ((bl sf).length : Int)
  · apply pure_of _ (d_model_Model_Range _ _ _ _ H) rfl
    rotate_left 2
    · simp (disch := first | with_reducible rfl | assumption | omega | rfl | (simp only [go_sem]; first | done | omega)) only [go_sem, ↓reduceIte, reduceCtorEq, Nat.reduceEqDiff, Nat.reduceAdd, Nat.reduceSub, Nat.reduceMul, Nat.reduceDiv, Nat.reduceMod, Nat.reduceLeDiff, Nat.reduceLT, Nat.reduceBEq, Int.reduceEq, Int.reduceBEq, Int.reduceBNe, Int.reduceLT, Int.reduceLE, Int.reduceAdd, Int.reduceSub, Int.reduceNeg, Int.reduceToNat, Int.reducePow, Nat.reducePow, Int.reduceMul, Int.reduceDiv, ↓s_model_Model_Range, mp_some, decide_eq_false hn1, decide_eq_false hn2, decide_eq_true h1]
      rfl
    · (repeat (first | exact Fr.refl _ | refine Fr.push ?_ _ | refine Fr.set ?_ _ _ (by intro h; first | omega | (simp only [go_sem] at h; omega))))
  · have h2 : 24 < ((bl st).length : Int) := by omega
    apply pure_of _ (d_model_Model_Range _ _ _ _ H) rfl
    rotate_left 2
    · simp (disch := first | with_reducible rfl | assumption | omega | rfl | (simp only [go_sem]; first | done | omega)) only [go_sem, ↓reduceIte, reduceCtorEq, Nat.reduceEqDiff, Nat.reduceAdd, Nat.reduceSub, Nat.reduceMul, Nat.reduceDiv, Nat.reduceMod, Nat.reduceLeDiff, Nat.reduceLT, Nat.reduceBEq, Int.reduceEq, Int.reduceBEq, Int.reduceBNe, Int.reduceLT, Int.reduceLE, Int.reduceAdd, Int.reduceSub, Int.reduceNeg, Int.reduceToNat, Int.reducePow, Nat.reducePow, Int.reduceMul, Int.reduceDiv, ↓s_model_Model_Range, mp_some, decide_eq_false hn1, decide_eq_false hn2, decide_eq_false h1, decide_eq_true h2]
      rfl
    · (repeat (first | exact Fr.refl _ | refine Fr.push ?_ _ | refine Fr.set ?_ _ _ (by intro h; first | omega | (simp only [go_sem] at h; omega))))

/-- The same where the value stands in a tuple behind a number. -/
theorem own_tidied2 {H H' : AHeap} {v : Value} {l : List Pr} {n : Int} (ho : Own EPr H' T.api_Pair v l) (hs : Still H H') (hn : New H v) {x : Res} (hx : x = some (tidy H (.tuple #[v, .int .i64 n], H'))) :
    ∃ H'', x = some (.tuple #[v, .int .i64 n], H'') ∧ Own EPr H'' T.api_Pair v l ∧ Still H H'' := by
  unfold tidy at hx
  split at hx
  · rename_i hg
    simp only [Bool.and_eq_true] at hg
    refine ⟨H, hx, ?_, Fr.refl _⟩
    rcases ho with h | ⟨_, a, h, _⟩ | ⟨b, o, c, xs, h, _⟩
    · exact .inl h
    · rw [h] at hg; exact absurd hg.1 (by simp [gr])
    · rw [h] at hg; exact absurd hg.1 (by simp [gr])
  · exact ⟨H', hx, ho, hs⟩

/-- What Range answers. -/
def rangeP (l : List Pr) (p q n : Nat) : List Pr := (l.drop p).take (min q (p + n) - p)

theorem q_Range (b : Nat) (l : List Pr) (sf st : ByteArray) (n : Nat) (H : AHeap) (r : Mdl H b l) (hl : l.length ≤ 20000) (p q : Nat) (hp : PosP l sf p) (hq : (bl st = [] ∧ q = l.length) ∨ (¬ bl st = [] ∧ PosP l st q))
    (hn1 : 1 ≤ n) (hn2 : n ≤ 32) (h1 : ¬ 24 < ((bl sf).length : Int)) (h2 : ¬ 24 < ((bl st).length : Int)) :
    ∃ v' H', CC F.model_Model_Range [.pointer (some ⟨b, 0, none⟩), .string sf, .string st, .int .i64 (n : Int)] H = some (.tuple #[v', .int .i64 0], H') ∧ Own EPr H' T.api_Pair v' (rangeP l p q n) ∧ Still H H' := by
  have hn1' : ¬ (n : Int) < 1 := by omega
  have hn2' : ¬ (32 : Int) < (n : Int) := by omega
  have hpf := q_place b l sf H r (by omega) p hp
  have hql : q ≤ l.length := by rcases hq with h | h; · omega
                                · exact h.2.1
  obtain ⟨v, g1, g2, g3, g4⟩ := id r
  have hlen := g3.rd.lenS
  by_cases hle : q ≤ p
  · have hd : decide ((q : Int) ≤ (p : Int)) = true := decide_eq_true (by omega)
    have e : rangeP l p q n = [] := by unfold rangeP; rw [show min q (p + n) - p = 0 by omega, List.take_zero]
    rw [e]
    refine ⟨.slice none 0 0, H, ?_, .inl ⟨rfl, rfl⟩, Fr.refl H⟩
    rcases hq with ⟨h3, rfl⟩ | ⟨h3, hq⟩
    · apply pure_of _ (d_model_Model_Range _ _ _ _ H) rfl
      rotate_left 2
      · simp (disch := first | with_reducible rfl | assumption | omega | rfl | (simp only [go_sem]; first | done | omega)) only [go_sem, ↓reduceIte, reduceCtorEq, Nat.reduceEqDiff, Nat.reduceAdd, Nat.reduceSub, Nat.reduceMul, Nat.reduceDiv, Nat.reduceMod, Nat.reduceLeDiff, Nat.reduceLT, Nat.reduceBEq, Int.reduceEq, Int.reduceBEq, Int.reduceBNe, Int.reduceLT, Int.reduceLE, Int.reduceAdd, Int.reduceSub, Int.reduceNeg, Int.reduceToNat, Int.reducePow, Nat.reducePow, Int.reduceMul, Int.reduceDiv, ↓s_model_Model_Range, mp_some, decide_eq_false hn1', decide_eq_false hn2', decide_eq_false h1, decide_eq_false h2, enterK_eq hpf, g1, hlen, bl_mk, decide_eq_true h3, hd]
        rfl
      · (repeat (first | exact Fr.refl _ | refine Fr.push ?_ _ | refine Fr.set ?_ _ _ (by intro h; first | omega | (simp only [go_sem] at h; omega))))
    · have hpt := q_place b l st H r (by omega) q hq
      apply pure_of _ (d_model_Model_Range _ _ _ _ H) rfl
      rotate_left 2
      · simp (disch := first | with_reducible rfl | assumption | omega | rfl | (simp only [go_sem]; first | done | omega)) only [go_sem, ↓reduceIte, reduceCtorEq, Nat.reduceEqDiff, Nat.reduceAdd, Nat.reduceSub, Nat.reduceMul, Nat.reduceDiv, Nat.reduceMod, Nat.reduceLeDiff, Nat.reduceLT, Nat.reduceBEq, Int.reduceEq, Int.reduceBEq, Int.reduceBNe, Int.reduceLT, Int.reduceLE, Int.reduceAdd, Int.reduceSub, Int.reduceNeg, Int.reduceToNat, Int.reducePow, Nat.reducePow, Int.reduceMul, Int.reduceDiv, ↓s_model_Model_Range, mp_some, decide_eq_false hn1', decide_eq_false hn2', decide_eq_false h1, decide_eq_false h2, enterK_eq hpf, enterK_eq hpt, g1, hlen, bl_mk, decide_eq_false h3, hd]
        rfl
      · (repeat (first | exact Fr.refl _ | refine Fr.push ?_ _ | refine Fr.set ?_ _ _ (by intro h; first | omega | (simp only [go_sem] at h; omega))))
  · have hd : decide ((q : Int) ≤ (p : Int)) = false := decide_eq_false (by omega)
    have hm : min (q : Int) ((p : Int) + (n : Int)) = ((min q (p + n) : Nat) : Int) := by omega
    obtain ⟨v1, hs1, hr1⟩ := Own.mid g3 (sz := 2) rfl (i := p) (j := min q (p + n)) (by omega) (by omega) (q := .i64) (q' := .i64)
    obtain ⟨v', H', hcl, ho, hs, hn⟩ := q_clone_Pair _ v1 H hr1 (by simp; omega)
    rcases hq with ⟨h3, rfl⟩ | ⟨h3, hq⟩
    · obtain ⟨H'', hx⟩ := own_tidied2 (n := 0) ho hs hn (d_model_Model_Range (.pointer (some ⟨b, 0, none⟩)) (.string sf) (.string st) (.int .i64 (n : Int)) H (r := (.tuple #[v', .int .i64 0], H')) (by
        simp (disch := first | with_reducible rfl | assumption | omega | rfl | (simp only [go_sem]; first | done | omega)) only [go_sem, ↓reduceIte, reduceCtorEq, Nat.reduceEqDiff, Nat.reduceAdd, Nat.reduceSub, Nat.reduceMul, Nat.reduceDiv, Nat.reduceMod, Nat.reduceLeDiff, Nat.reduceLT, Nat.reduceBEq, Int.reduceEq, Int.reduceBEq, Int.reduceBNe, Int.reduceLT, Int.reduceLE, Int.reduceAdd, Int.reduceSub, Int.reduceNeg, Int.reduceToNat, Int.reducePow, Nat.reducePow, Int.reduceMul, Int.reduceDiv, ↓s_model_Model_Range, mp_some, decide_eq_false hn1', decide_eq_false hn2', decide_eq_false h1, decide_eq_false h2, enterK_eq hpf, g1, hlen, bl_mk, decide_eq_true h3, hd, hm, hs1, enterK_eq hcl]))
      exact ⟨v', H'', hx⟩
    · have hpt := q_place b l st H r (by omega) q hq
      obtain ⟨H'', hx⟩ := own_tidied2 (n := 0) ho hs hn (d_model_Model_Range (.pointer (some ⟨b, 0, none⟩)) (.string sf) (.string st) (.int .i64 (n : Int)) H (r := (.tuple #[v', .int .i64 0], H')) (by
        simp (disch := first | with_reducible rfl | assumption | omega | rfl | (simp only [go_sem]; first | done | omega)) only [go_sem, ↓reduceIte, reduceCtorEq, Nat.reduceEqDiff, Nat.reduceAdd, Nat.reduceSub, Nat.reduceMul, Nat.reduceDiv, Nat.reduceMod, Nat.reduceLeDiff, Nat.reduceLT, Nat.reduceBEq, Int.reduceEq, Int.reduceBEq, Int.reduceBNe, Int.reduceLT, Int.reduceLE, Int.reduceAdd, Int.reduceSub, Int.reduceNeg, Int.reduceToNat, Int.reducePow, Nat.reducePow, Int.reduceMul, Int.reduceDiv, ↓s_model_Model_Range, mp_some, decide_eq_false hn1', decide_eq_false hn2', decide_eq_false h1, decide_eq_false h2, enterK_eq hpf, enterK_eq hpt, g1, hlen, bl_mk, decide_eq_false h3, hd, hm, hs1, enterK_eq hcl]))
      exact ⟨v', H'', hx⟩

end Go.Proofs.Ytlagijfkkpbbnaa
