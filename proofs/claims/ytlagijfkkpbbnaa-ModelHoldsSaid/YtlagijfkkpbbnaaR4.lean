/-
  Chapter 24: the reference, Part, Range, Of.
  Conditions: none. By an AI agent.
-/
import Derived.Test.YtlagijfkkpbbnaaR3
set_option maxRecDepth 10000
set_option linter.unusedSimpArgs false
set_option linter.unusedVariables false
namespace Go.Proofs.Ytlagijfkkpbbnaa
open Go Eng

/-- Is a key in a range? -/
def inR (sf st : ByteArray) (a : Pr) : Bool := !decide (cmpS a.key sf < 0) && (decide (bl st = []) || decide (cmpS a.key st < 0))
/-- Where a range ends. -/
def endP (l : List Pr) (st : ByteArray) : Nat := if bl st = [] then l.length else posP l st

theorem filter_ge : ∀ {l : List Pr} (_ : Srt l) (k : ByteArray), l.filter (fun a => !decide (cmpS a.key k < 0)) = l.drop (posP l k)
  | [], _, _ => rfl
  | a :: l, hs, k => by
    obtain ⟨ha, hl⟩ := List.pairwise_cons.1 hs
    rw [posP]
    by_cases h : cmpS a.key k < 0
    · rw [if_pos h, List.filter_cons_of_neg (by simp [h]), List.drop_succ_cons]
      exact filter_ge hl k
    · rw [if_neg h, List.drop_zero, List.filter_eq_self]
      intro b hb
      rcases List.mem_cons.1 hb with rfl | hb
      · simp [h]
      · have := ha b hb
        simp only [Bool.not_eq_true', decide_eq_false_iff_not]
        exact fun hc => h (cmpS_trans this hc)
theorem filter_lt : ∀ {l : List Pr} (_ : Srt l) (k : ByteArray), l.filter (fun a => decide (cmpS a.key k < 0)) = l.take (posP l k)
  | [], _, _ => rfl
  | a :: l, hs, k => by
    obtain ⟨ha, hl⟩ := List.pairwise_cons.1 hs
    rw [posP]
    by_cases h : cmpS a.key k < 0
    · rw [if_pos h, List.filter_cons_of_pos (by simp [h]), List.take_succ_cons, filter_lt hl k]
    · rw [if_neg h, List.take_zero, List.filter_eq_nil_iff]
      intro b hb
      rcases List.mem_cons.1 hb with rfl | hb
      · simp [h]
      · have := ha b hb
        simp only [decide_eq_true_eq]
        exact fun hc => h (cmpS_trans this hc)
theorem posP_take : ∀ (l : List Pr) (k : ByteArray) (q : Nat), posP (l.take q) k = min (posP l k) q
  | [], k, q => by simp [posP]
  | a :: l, k, 0 => by simp [posP]
  | a :: l, k, q + 1 => by
    rw [List.take_succ_cons, posP, posP, posP_take l k q]
    split <;> omega

theorem filter_inR {l : List Pr} (hs : Srt l) (sf st : ByteArray) : l.filter (inR sf st) = (l.drop (posP l sf)).take (endP l st - posP l sf) := by
  unfold inR endP
  by_cases h : bl st = []
  · simp only [h, decide_true, Bool.true_or, Bool.and_true, if_true]
    rw [filter_ge hs sf, List.take_of_length_le (by simp)]
  · simp only [h, decide_false, Bool.false_or, if_false]
    rw [← List.filter_filter, filter_lt hs st, filter_ge (hs.sublist (List.take_sublist _ _)) sf, posP_take, ← List.drop_take]
    by_cases hle : posP l sf ≤ posP l st
    · rw [Nat.min_eq_left hle]
    · rw [Nat.min_eq_right (by omega), List.drop_eq_nil_of_le (by simp; omega), List.drop_eq_nil_of_le (by simp; omega)]

theorem rdLit (a : Pr) (H : AHeap) : Rd EPr (H.push (.cells [.string a.key, .string a.value] T.api_Pair true)) (.slice (some ⟨H.n, 0, none⟩) 1 2) [a] := by
  refine .inr (.inr ⟨H.n, 0, 2, rfl, by simp, by simp, ?_⟩)
  rw [push_f_eq rfl]
  rfl

theorem l_part (b : Nat) (l : List Pr) (v : Value) (sf st : ByteArray) (Hz : AHeap) (hf : Hz.f b = .cells [v] T.ref24_Model true) (hb : b < Hz.n) (hr0 : Rd EPr Hz v l) (hl : l.length ≤ 20000) (K : K) :
    ∀ (x : List Pr) (i : Nat) (H : AHeap) (o : Value) (acc : List Pr), l.drop i = x → Still Hz H → Own EPr H T.api_Pair o acc → (∀ c, blockOf o = some c → Hz.n ≤ c) → i ≤ l.length → acc.length ≤ i → ∃ o' H', Still Hz H' ∧ Own EPr H' T.api_Pair o' (acc ++ x.filter (inR sf st)) ∧ (∀ c, blockOf o' = some c → Hz.n ≤ c) ∧
    l_ref24_Model_Part_0 (.pointer (some ⟨b, 0, none⟩)) (.string sf) (.string st) o (.int .i64 i) H (blkK [7] 0 K) = K .normal [(7, o')] H'
  | [], i, H, o, acc, hx, hs, ho, hob, hi, hacc => by
    have h : l.length ≤ i := List.drop_eq_nil_iff.1 hx
    have hlt : ¬ (i : Int) < (l.length : Int) := by omega
    have hlen := hr0.lenS
    have hf' : H.f b = .cells [v] T.ref24_Model true := by rw [hs.f hb (fun h => h), hf]
    refine ⟨o, H, hs, by simpa using ho, hob, ?_⟩
    rw [r_ref24_Model_Part_0]
    simp (disch := first | with_reducible rfl | assumption | omega | rfl | (simp only [go_sem]; first | done | omega)) only [go_sem, ↓reduceIte, reduceCtorEq, Nat.reduceEqDiff, Nat.reduceAdd, Nat.reduceSub, Nat.reduceMul, Nat.reduceDiv, Nat.reduceMod, Nat.reduceLeDiff, Nat.reduceLT, Nat.reduceBEq, Int.reduceEq, Int.reduceBEq, Int.reduceBNe, Int.reduceLT, Int.reduceLE, Int.reduceAdd, Int.reduceSub, Int.reduceNeg, Int.reduceToNat, Int.reducePow, Nat.reducePow, Int.reduceMul, Int.reduceDiv, ↓s_ref24_Model_Part_b0, hf', hlen, hlt]
  | a :: x, i, H, o, acc, hx, hs, ho, hob, hi, hacc => by
    obtain ⟨h, hxa, hx'⟩ := drop_cons hx
    have hlt : (i : Int) < (l.length : Int) := by omega
    have hlen := hr0.lenS
    have hf' : H.f b = .cells [v] T.ref24_Model true := by rw [hs.f hb (fun h => h), hf]
    obtain ⟨b1, o1, hix1, hb1, hc1, _⟩ := (hr0.still hs).ix (q := .i64) h
    rw [hxa] at hc1
    have hix1 : ixS 2 v (.int .i64 i) = some (.pointer (some ⟨b1, o1, none⟩)) := hix1
    have hck : cellB (H.f b1) o1 = some (.string a.key) := cutB_cell hc1 (i := 0) (by decide)
    have hc1 : cutB (H.f b1) o1 2 = some [.string a.key, .string a.value] := hc1
    by_cases hin : inR sf st a = true
    · generalize hH1 : H.push (.cells [.string a.key, .string a.value] T.api_Pair true) = H1
      have s1 : Still H H1 := by rw [← hH1]; exact (Fr.refl H).push _
      have n1 : H1.n = H.n + 1 := by rw [← hH1]; rfl
      have hlit := rdLit a H
      rw [hH1] at hlit
      have n0 : Hz.n ≤ H.n := hs.n
      obtain ⟨o', H2, happ, ho2, fr2, hb2⟩ := (ho.still s1).appE (m := [a]) (sz := 2) (bytes := 32) rfl (by simp; omega) (by simp; omega) (hlit.src (sz := 2) rfl)
      have hob' : ∀ c, blockOf o' = some c → Hz.n ≤ c := fun c hc => by
        rcases hb2 with hb | hb
        · rw [hb] at hc; exact hob c hc
        · rw [hb] at hc; cases hc; omega
      have s2 : Still Hz H2 := (hs.then s1 fun _ _ h => h).still.then fr2 fun c hc h => by have := hob c h; omega
      obtain ⟨o'', H', q1, q2, q3, ih⟩ := l_part b l v sf st Hz hf hb hr0 hl K x (i + 1) H2 o' (acc ++ [a]) hx' s2 ho2 hob' h (by simp; omega)
      rw [Int.natCast_add] at ih
      refine ⟨o'', H', q1, by rw [List.filter_cons_of_pos hin]; simpa using q2, q3, ?_⟩
      unfold inR at hin
      rw [Bool.and_eq_true, Bool.or_eq_true] at hin
      obtain ⟨i1, i2⟩ := hin
      rw [Bool.not_eq_true'] at i1
      rw [r_ref24_Model_Part_0]
      by_cases i3 : bl st = []
      · simp (disch := first | with_reducible rfl | assumption | omega | rfl | (simp only [go_sem]; first | done | omega)) only [go_sem, ↓reduceIte, reduceCtorEq, Nat.reduceEqDiff, Nat.reduceAdd, Nat.reduceSub, Nat.reduceMul, Nat.reduceDiv, Nat.reduceMod, Nat.reduceLeDiff, Nat.reduceLT, Nat.reduceBEq, Int.reduceEq, Int.reduceBEq, Int.reduceBNe, Int.reduceLT, Int.reduceLE, Int.reduceAdd, Int.reduceSub, Int.reduceNeg, Int.reduceToNat, Int.reducePow, Nat.reducePow, Int.reduceMul, Int.reduceDiv, ↓s_ref24_Model_Part_b0, hf', hlen, hlt, hix1, hck, less_cmpS, i1, bl_mk, decide_eq_true i3, hc1, hH1, happ]
        exact ih
      · have i4 : decide (cmpS a.key st < 0) = true := by
          rcases i2 with h' | h'
          · exact absurd (of_decide_eq_true h') i3
          · exact h'
        simp (disch := first | with_reducible rfl | assumption | omega | rfl | (simp only [go_sem]; first | done | omega)) only [go_sem, ↓reduceIte, reduceCtorEq, Nat.reduceEqDiff, Nat.reduceAdd, Nat.reduceSub, Nat.reduceMul, Nat.reduceDiv, Nat.reduceMod, Nat.reduceLeDiff, Nat.reduceLT, Nat.reduceBEq, Int.reduceEq, Int.reduceBEq, Int.reduceBNe, Int.reduceLT, Int.reduceLE, Int.reduceAdd, Int.reduceSub, Int.reduceNeg, Int.reduceToNat, Int.reducePow, Nat.reducePow, Int.reduceMul, Int.reduceDiv, ↓s_ref24_Model_Part_b0, hf', hlen, hlt, hix1, hck, less_cmpS, i1, bl_mk, decide_eq_false i3, i4, hc1, hH1, happ]
        exact ih
    · obtain ⟨o'', H', q1, q2, q3, ih⟩ := l_part b l v sf st Hz hf hb hr0 hl K x (i + 1) H o acc hx' hs ho hob h (by omega)
      rw [Int.natCast_add] at ih
      refine ⟨o'', H', q1, by rw [List.filter_cons_of_neg hin]; exact q2, q3, ?_⟩
      rw [r_ref24_Model_Part_0]
      by_cases i1 : cmpS a.key sf < 0
      · simp (disch := first | with_reducible rfl | assumption | omega | rfl | (simp only [go_sem]; first | done | omega)) only [go_sem, ↓reduceIte, reduceCtorEq, Nat.reduceEqDiff, Nat.reduceAdd, Nat.reduceSub, Nat.reduceMul, Nat.reduceDiv, Nat.reduceMod, Nat.reduceLeDiff, Nat.reduceLT, Nat.reduceBEq, Int.reduceEq, Int.reduceBEq, Int.reduceBNe, Int.reduceLT, Int.reduceLE, Int.reduceAdd, Int.reduceSub, Int.reduceNeg, Int.reduceToNat, Int.reducePow, Nat.reducePow, Int.reduceMul, Int.reduceDiv, ↓s_ref24_Model_Part_b0, hf', hlen, hlt, hix1, hck, less_cmpS, decide_eq_true i1]
        exact ih
      · have i2 : ¬ bl st = [] := fun h' => hin (by simp [inR, i1, h'])
        have i3 : ¬ cmpS a.key st < 0 := fun h' => hin (by simp [inR, i1, h'])
        simp (disch := first | with_reducible rfl | assumption | omega | rfl | (simp only [go_sem]; first | done | omega)) only [go_sem, ↓reduceIte, reduceCtorEq, Nat.reduceEqDiff, Nat.reduceAdd, Nat.reduceSub, Nat.reduceMul, Nat.reduceDiv, Nat.reduceMod, Nat.reduceLeDiff, Nat.reduceLT, Nat.reduceBEq, Int.reduceEq, Int.reduceBEq, Int.reduceBNe, Int.reduceLT, Int.reduceLE, Int.reduceAdd, Int.reduceSub, Int.reduceNeg, Int.reduceToNat, Int.reducePow, Nat.reducePow, Int.reduceMul, Int.reduceDiv, ↓s_ref24_Model_Part_b0, hf', hlen, hlt, hix1, hck, less_cmpS, decide_eq_false i1, bl_mk, decide_eq_false i2, decide_eq_false i3]
        exact ih

theorem q_RPart (b : Nat) (l : List Pr) (sf st : ByteArray) (H : AHeap) (r : MdlR H b l) (hl : l.length ≤ 20000) :
    ∃ v' H', CC F.ref24_Model_Part [.pointer (some ⟨b, 0, none⟩), .string sf, .string st] H = some (v', H') ∧ Own EPr H' T.api_Pair v' (l.filter (inR sf st)) ∧ Still H H' := by
  obtain ⟨v, h1, h2, h3, h4⟩ := r
  obtain ⟨o, H', hs, ho, hob, hloop⟩ := l_part b l v sf st H h1 h2 h3.rd hl (seqK (fun tT h1 => endK Try.prog [.tmp 6] .ret [(6, (get tT 7))] h1) (endK Try.prog [.tmp 6])) l 0 H (.slice none 0 0) [] rfl (Fr.refl H) Eng.Own.nil (fun c h => by cases h) (by omega) (by simp)
  obtain ⟨H'', h⟩ := own_tidied ho hs hob (d_ref24_Model_Part (.pointer (some ⟨b, 0, none⟩)) (.string sf) (.string st) H (r := (o, H')) (by
    simp (disch := first | with_reducible rfl | assumption | omega | rfl | (simp only [go_sem]; first | done | omega)) only [go_sem, ↓reduceIte, reduceCtorEq, Nat.reduceEqDiff, Nat.reduceAdd, Nat.reduceSub, Nat.reduceMul, Nat.reduceDiv, Nat.reduceMod, Nat.reduceLeDiff, Nat.reduceLT, Nat.reduceBEq, Int.reduceEq, Int.reduceBEq, Int.reduceBNe, Int.reduceLT, Int.reduceLE, Int.reduceAdd, Int.reduceSub, Int.reduceNeg, Int.reduceToNat, Int.reducePow, Nat.reducePow, Int.reduceMul, Int.reduceDiv, ↓s_ref24_Model_Part]
    refine hloop.trans ?_
    have := ho.cell
    simp (disch := first | with_reducible rfl | assumption | omega | rfl | (simp only [go_sem]; first | done | omega)) only [go_sem, ↓reduceIte, reduceCtorEq, Nat.reduceEqDiff, Nat.reduceAdd, Nat.reduceSub, Nat.reduceMul, Nat.reduceDiv, Nat.reduceMod, Nat.reduceLeDiff, Nat.reduceLT, Nat.reduceBEq, Int.reduceEq, Int.reduceBEq, Int.reduceBNe, Int.reduceLT, Int.reduceLE, Int.reduceAdd, Int.reduceSub, Int.reduceNeg, Int.reduceToNat, Int.reducePow, Nat.reducePow, Int.reduceMul, Int.reduceDiv]))
  exact ⟨o, H'', h.1, h.2.1, h.2.2.1⟩

theorem q_RRange_arg (b : Nat) (sf st : ByteArray) (n : Int) (H : AHeap) (h : n < 1 ∨ 32 < n) :
    CC F.ref24_Model_Range [.pointer (some ⟨b, 0, none⟩), .string sf, .string st, .int .i64 n] H = some (.tuple #[.slice none 0 0, .int .i64 2], H) := by
  by_cases h1 : n < 1
  · apply pure_of _ (d_ref24_Model_Range _ _ _ _ H) rfl
    rotate_left 2
    · simp (disch := first | with_reducible rfl | assumption | omega | rfl | (simp only [go_sem]; first | done | omega)) only [go_sem, ↓reduceIte, reduceCtorEq, Nat.reduceEqDiff, Nat.reduceAdd, Nat.reduceSub, Nat.reduceMul, Nat.reduceDiv, Nat.reduceMod, Nat.reduceLeDiff, Nat.reduceLT, Nat.reduceBEq, Int.reduceEq, Int.reduceBEq, Int.reduceBNe, Int.reduceLT, Int.reduceLE, Int.reduceAdd, Int.reduceSub, Int.reduceNeg, Int.reduceToNat, Int.reducePow, Nat.reducePow, Int.reduceMul, Int.reduceDiv, ↓s_ref24_Model_Range, decide_eq_true h1]
      rfl
    · (repeat (first | exact Fr.refl _ | refine Fr.push ?_ _ | refine Fr.set ?_ _ _ (by intro h; first | omega | (simp only [go_sem] at h; omega))))
  · have h2 : 32 < n := by omega
    apply pure_of _ (d_ref24_Model_Range _ _ _ _ H) rfl
    rotate_left 2
    · simp (disch := first | with_reducible rfl | assumption | omega | rfl | (simp only [go_sem]; first | done | omega)) only [go_sem, ↓reduceIte, reduceCtorEq, Nat.reduceEqDiff, Nat.reduceAdd, Nat.reduceSub, Nat.reduceMul, Nat.reduceDiv, Nat.reduceMod, Nat.reduceLeDiff, Nat.reduceLT, Nat.reduceBEq, Int.reduceEq, Int.reduceBEq, Int.reduceBNe, Int.reduceLT, Int.reduceLE, Int.reduceAdd, Int.reduceSub, Int.reduceNeg, Int.reduceToNat, Int.reducePow, Nat.reducePow, Int.reduceMul, Int.reduceDiv, ↓s_ref24_Model_Range, decide_eq_false h1, decide_eq_true h2]
      rfl
    · (repeat (first | exact Fr.refl _ | refine Fr.push ?_ _ | refine Fr.set ?_ _ _ (by intro h; first | omega | (simp only [go_sem] at h; omega))))
theorem q_RRange_long (b : Nat) (sf st : ByteArray) (n : Int) (H : AHeap) (hn1 : ¬ n < 1) (hn2 : ¬ 32 < n) (h : 24 < ((bl sf).length : Int) ∨ 24 < ((bl st).length : Int)) :
    CC F.ref24_Model_Range [.pointer (some ⟨b, 0, none⟩), .string sf, .string st, .int .i64 n] H = some (.tuple #[.slice none 0 0, .int .i64 5], H) := by
  by_cases h1 : 24 < ((bl sf).length : Int)
  · apply pure_of _ (d_ref24_Model_Range _ _ _ _ H) rfl
    rotate_left 2
    · simp (disch := first | with_reducible rfl | assumption | omega | rfl | (simp only [go_sem]; first | done | omega)) only [go_sem, ↓reduceIte, reduceCtorEq, Nat.reduceEqDiff, Nat.reduceAdd, Nat.reduceSub, Nat.reduceMul, Nat.reduceDiv, Nat.reduceMod, Nat.reduceLeDiff, Nat.reduceLT, Nat.reduceBEq, Int.reduceEq, Int.reduceBEq, Int.reduceBNe, Int.reduceLT, Int.reduceLE, Int.reduceAdd, Int.reduceSub, Int.reduceNeg, Int.reduceToNat, Int.reducePow, Nat.reducePow, Int.reduceMul, Int.reduceDiv, ↓s_ref24_Model_Range, decide_eq_false hn1, decide_eq_false hn2, decide_eq_true h1]
      rfl
    · (repeat (first | exact Fr.refl _ | refine Fr.push ?_ _ | refine Fr.set ?_ _ _ (by intro h; first | omega | (simp only [go_sem] at h; omega))))
  · have h2 : 24 < ((bl st).length : Int) := by omega
    apply pure_of _ (d_ref24_Model_Range _ _ _ _ H) rfl
    rotate_left 2
    · simp (disch := first | with_reducible rfl | assumption | omega | rfl | (simp only [go_sem]; first | done | omega)) only [go_sem, ↓reduceIte, reduceCtorEq, Nat.reduceEqDiff, Nat.reduceAdd, Nat.reduceSub, Nat.reduceMul, Nat.reduceDiv, Nat.reduceMod, Nat.reduceLeDiff, Nat.reduceLT, Nat.reduceBEq, Int.reduceEq, Int.reduceBEq, Int.reduceBNe, Int.reduceLT, Int.reduceLE, Int.reduceAdd, Int.reduceSub, Int.reduceNeg, Int.reduceToNat, Int.reducePow, Nat.reducePow, Int.reduceMul, Int.reduceDiv, ↓s_ref24_Model_Range, decide_eq_false hn1, decide_eq_false hn2, decide_eq_false h1, decide_eq_true h2]
      rfl
    · (repeat (first | exact Fr.refl _ | refine Fr.push ?_ _ | refine Fr.set ?_ _ _ (by intro h; first | omega | (simp only [go_sem] at h; omega))))

theorem rd_tidied2 {H H' : AHeap} {v : Value} {l : List Pr} {n : Int} (ho : Rd EPr H' v l) (hs : Still H H') {x : Res} (hx : x = some (tidy H (.tuple #[v, .int .i64 n], H'))) :
    ∃ H'', x = some (.tuple #[v, .int .i64 n], H'') ∧ Rd EPr H'' v l ∧ Still H H'' := by
  unfold tidy at hx
  split at hx
  · rename_i hg
    simp only [Bool.and_eq_true] at hg
    refine ⟨H, hx, ?_, Fr.refl _⟩
    rcases ho with h | ⟨_, a, k, h, _⟩ | ⟨b, o, c, h, _⟩
    · exact .inl h
    · rw [h] at hg; exact absurd hg.1 (by simp [gr])
    · rw [h] at hg; exact absurd hg.1 (by simp [gr])
  · exact ⟨H', hx, ho, hs⟩

theorem q_RRange (b : Nat) (l : List Pr) (sf st : ByteArray) (n : Nat) (H : AHeap) (r : MdlR H b l) (hsr : Srt l) (hl : l.length ≤ 20000) (hn1 : 1 ≤ n) (hn2 : n ≤ 32) (h1 : ¬ 24 < ((bl sf).length : Int)) (h2 : ¬ 24 < ((bl st).length : Int)) :
    ∃ v' H', CC F.ref24_Model_Range [.pointer (some ⟨b, 0, none⟩), .string sf, .string st, .int .i64 (n : Int)] H = some (.tuple #[v', .int .i64 0], H') ∧ Rd EPr H' v' (rangeP l (posP l sf) (endP l st) n) ∧ Still H H' := by
  have hn1' : ¬ (n : Int) < 1 := by omega
  have hn2' : ¬ (32 : Int) < (n : Int) := by omega
  obtain ⟨v, H1, hp, ho, hs⟩ := q_RPart b l sf st H r hl
  have e : rangeP l (posP l sf) (endP l st) n = (l.filter (inR sf st)).take (min n (l.filter (inR sf st)).length) := by
    rw [filter_inR hsr, rangeP, List.take_take]
    generalize hY : l.drop (posP l sf) = Y
    have hlen : (Y.take (endP l st - posP l sf)).length = min (endP l st - posP l sf) Y.length := by simp
    rw [hlen]
    apply List.ext_getElem?
    intro j
    by_cases hj : j < Y.length
    · by_cases hk : j < min (endP l st) (posP l sf + n) - posP l sf
      · rw [List.getElem?_take_of_lt hk, List.getElem?_take_of_lt (by omega)]
      · rw [List.getElem?_eq_none (by simp only [List.length_take]; omega), List.getElem?_eq_none (by simp only [List.length_take]; omega)]
    · rw [List.getElem?_eq_none (by simp only [List.length_take]; omega), List.getElem?_eq_none (by simp only [List.length_take]; omega)]
  rw [e]
  generalize l.filter (inR sf st) = m at ho ⊢
  have hlen := ho.rd.lenS
  have hm : min (n : Int) (m.length : Int) = ((min n m.length : Nat) : Int) := by omega
  obtain ⟨v34, hs34, hr34⟩ := ho.hi (sz := 2) rfl (i := min n m.length) (by omega) (q := .i64)
  have hone : one v34 = true := by
    rcases hr34 with ⟨_, h⟩ | ⟨_, a, k, h, _⟩ | ⟨b, o, c, h, _⟩ <;> rw [h] <;> rfl
  obtain ⟨H'', h⟩ := rd_tidied2 (n := 0) hr34 hs (d_ref24_Model_Range (.pointer (some ⟨b, 0, none⟩)) (.string sf) (.string st) (.int .i64 (n : Int)) H (r := (.tuple #[v34, .int .i64 0], H1)) (by
    simp (disch := first | with_reducible rfl | assumption | omega | rfl | (simp only [go_sem]; first | done | omega)) only [go_sem, ↓reduceIte, reduceCtorEq, Nat.reduceEqDiff, Nat.reduceAdd, Nat.reduceSub, Nat.reduceMul, Nat.reduceDiv, Nat.reduceMod, Nat.reduceLeDiff, Nat.reduceLT, Nat.reduceBEq, Int.reduceEq, Int.reduceBEq, Int.reduceBNe, Int.reduceLT, Int.reduceLE, Int.reduceAdd, Int.reduceSub, Int.reduceNeg, Int.reduceToNat, Int.reducePow, Nat.reducePow, Int.reduceMul, Int.reduceDiv, ↓s_ref24_Model_Range, decide_eq_false hn1', decide_eq_false hn2', decide_eq_false h1, decide_eq_false h2, enterK_eq hp, hlen, hm, hs34]))
  exact ⟨v34, H'', h⟩

/-! ### Of -/
theorem l_ROf (l : List Pr) (v : Value) (Hz : AHeap) (hr0 : Rd EPr Hz v l) (hl : l.length < 1152921504606846976) (K : K) : ∀ (x : List Pr) (i : Nat) (H : AHeap) (o : Option Pr), l.drop i = x → Still Hz H → i ≤ l.length → (if i = 0 then none else l[i - 1]?) = o → ∃ H', Still Hz H' ∧
    (l_ref24_Of_0 v (.int .i64 i) H (blkK [0] 0 K) = if ofErr o x = 0 then K .normal [(0, v)] H' else K .ret [(2, .pointer none), (3, .int .i64 (ofErr o x))] H')
  | [], i, H, o, hx, hs, hi, ho => by
    have h : l.length ≤ i := List.drop_eq_nil_iff.1 hx
    have hlt : ¬ (i : Int) < (l.length : Int) := by omega
    have hlen := hr0.lenS
    refine ⟨H, hs, ?_⟩
    rw [r_ref24_Of_0]
    simp only [ofErr, if_true]
    simp (disch := first | with_reducible rfl | assumption | omega | rfl | (simp only [go_sem]; first | done | omega)) only [go_sem, ↓reduceIte, reduceCtorEq, Nat.reduceEqDiff, Nat.reduceAdd, Nat.reduceSub, Nat.reduceMul, Nat.reduceDiv, Nat.reduceMod, Nat.reduceLeDiff, Nat.reduceLT, Nat.reduceBEq, Int.reduceEq, Int.reduceBEq, Int.reduceBNe, Int.reduceLT, Int.reduceLE, Int.reduceAdd, Int.reduceSub, Int.reduceNeg, Int.reduceToNat, Int.reducePow, Nat.reducePow, Int.reduceMul, Int.reduceDiv, ↓s_ref24_Of_b0, hlen, hlt]
  | a :: x, i, H, o, hx, hs, hi, ho => by
    obtain ⟨h, hxa, hx'⟩ := drop_cons hx
    have hlt : (i : Int) < (l.length : Int) := by omega
    have hlen := hr0.lenS
    obtain ⟨b1, o1, hix1, hb1, hc1, _⟩ := (hr0.still hs).ix (q := .i64) h
    rw [hxa] at hc1
    have hix1 : ixS 2 v (.int .i64 i) = some (.pointer (some ⟨b1, o1, none⟩)) := hix1
    have hck1 : cellB (H.f b1) o1 = some (.string a.key) := cutB_cell hc1 (i := 0) (by decide)
    have hcv1 : cellB (H.f b1) (o1 + 1) = some (.string a.value) := cutB_cell hc1 (i := 1) (by decide)
    generalize hH2 : H.push (.cells [.string a.value] T.string true) = H2
    have s2 : Still H H2 := by rw [← hH2]; exact (Fr.refl H).push _
    have hck := q_bad a.key [a.value] _ _ (rdOne a.value H) (by simp)
    rw [hH2] at hck
    have st : Still Hz H2 := hs.still.then s2 fun _ _ h => h
    have fb1 : H2.f b1 = H.f b1 := s2.f hb1 (fun h => h)
    by_cases hchk : chk a.key [a.value] = 0
    · rw [hchk] at hck
      cases i with
      | zero =>
        have ho' : o = none := by rw [← ho]; rfl
        subst ho'
        obtain ⟨H', hs', ih⟩ := l_ROf l v Hz hr0 hl K x 1 H2 (some a) hx' st (by omega) (by simp [← hxa])
        refine ⟨H', hs', ?_⟩
        have e : ofErr none (a :: x) = ofErr (some a) x := by simp [ofErr, hchk]
        have hlt : (0 : Int) < (l.length : Int) := hlt
        have hix1 : ixS 2 v (.int .i64 0) = some (.pointer (some ⟨b1, o1, none⟩)) := hix1
        rw [e, r_ref24_Of_0]
        simp (disch := first | with_reducible rfl | assumption | omega | rfl | (simp only [go_sem]; first | done | omega)) only [go_sem, ↓reduceIte, reduceCtorEq, Nat.reduceEqDiff, Nat.reduceAdd, Nat.reduceSub, Nat.reduceMul, Nat.reduceDiv, Nat.reduceMod, Nat.reduceLeDiff, Nat.reduceLT, Nat.reduceBEq, Int.reduceEq, Int.reduceBEq, Int.reduceBNe, Int.reduceLT, Int.reduceLE, Int.reduceAdd, Int.reduceSub, Int.reduceNeg, Int.reduceToNat, Int.reducePow, Nat.reducePow, Int.reduceMul, Int.reduceDiv, ↓s_ref24_Of_b0, hlen, hlt, hix1, hck1, hcv1, hH2, enterK_eq hck]
        exact ih
      | succ k =>
        have hk : k < l.length := by omega
        have ho' : o = some l[k] := by rw [← ho]; simp [hk]
        subst ho'
        obtain ⟨b2, o2, hix2, hb2, hc2, _⟩ := (hr0.still hs).ix (q := .i64) hk
        have hix2 : ixS 2 v (.int .i64 k) = some (.pointer (some ⟨b2, o2, none⟩)) := hix2
        have hc2 : cellB (H.f b2) o2 = some (.string l[k].key) := cutB_cell hc2 (i := 0) (by decide)
        have fb2 : H2.f b2 = H.f b2 := s2.f hb2 (fun h => h)
        obtain ⟨H', hs', ih⟩ := l_ROf l v Hz hr0 hl K x (k + 1 + 1) H2 (some a) hx' st (by omega) (by simp [← hxa])
        have hsub : ((k : Int) + 1 - 1) = (k : Int) := by omega
        have hlt : (k : Int) + 1 < (l.length : Int) := by omega
        have hpos : (0 : Int) < (k : Int) + 1 := by omega
        have hix1 : ixS 2 v (.int .i64 ((k : Int) + 1)) = some (.pointer (some ⟨b1, o1, none⟩)) := hix1
        rw [Int.natCast_add, Int.natCast_add] at ih
        by_cases hge : 0 ≤ cmpS l[k].key a.key
        · have hd : cmpS a.key l[k].key ≤ 0 := by rw [cmpS_swap]; omega
          have e : ofErr (some l[k]) (a :: x) = 13 := by simp [ofErr, hchk, hge]
          refine ⟨H2, st, ?_⟩
          rw [e, r_ref24_Of_0, Int.natCast_add]
          simp (disch := first | with_reducible rfl | assumption | omega | rfl | (simp only [go_sem]; first | done | omega)) only [go_sem, ↓reduceIte, reduceCtorEq, Nat.reduceEqDiff, Nat.reduceAdd, Nat.reduceSub, Nat.reduceMul, Nat.reduceDiv, Nat.reduceMod, Nat.reduceLeDiff, Nat.reduceLT, Nat.reduceBEq, Int.reduceEq, Int.reduceBEq, Int.reduceBNe, Int.reduceLT, Int.reduceLE, Int.reduceAdd, Int.reduceSub, Int.reduceNeg, Int.reduceToNat, Int.reducePow, Nat.reducePow, Int.reduceMul, Int.reduceDiv, ↓s_ref24_Of_b0, hlen, hlt, hix1, hck1, hcv1, hH2, enterK_eq hck, hpos, hsub, hix2, fb1, fb2, hc2, leq_cmpS, decide_eq_true hd]
        · have hd : ¬ cmpS a.key l[k].key ≤ 0 := by rw [cmpS_swap]; omega
          have e : ofErr (some l[k]) (a :: x) = ofErr (some a) x := by simp [ofErr, hchk, hge]
          refine ⟨H', hs', ?_⟩
          rw [e, r_ref24_Of_0, Int.natCast_add]
          simp (disch := first | with_reducible rfl | assumption | omega | rfl | (simp only [go_sem]; first | done | omega)) only [go_sem, ↓reduceIte, reduceCtorEq, Nat.reduceEqDiff, Nat.reduceAdd, Nat.reduceSub, Nat.reduceMul, Nat.reduceDiv, Nat.reduceMod, Nat.reduceLeDiff, Nat.reduceLT, Nat.reduceBEq, Int.reduceEq, Int.reduceBEq, Int.reduceBNe, Int.reduceLT, Int.reduceLE, Int.reduceAdd, Int.reduceSub, Int.reduceNeg, Int.reduceToNat, Int.reducePow, Nat.reducePow, Int.reduceMul, Int.reduceDiv, ↓s_ref24_Of_b0, hlen, hlt, hix1, hck1, hcv1, hH2, enterK_eq hck, hpos, hsub, hix2, fb1, fb2, hc2, leq_cmpS, decide_eq_false hd]
          exact ih
    · have e : ofErr o (a :: x) = chk a.key [a.value] := by simp [ofErr, hchk]
      refine ⟨H2, st, ?_⟩
      rw [e, if_neg hchk]
      generalize chk a.key [a.value] = y at hchk hck
      rw [r_ref24_Of_0]
      simp (disch := first | with_reducible rfl | assumption | omega | rfl | (simp only [go_sem]; first | done | omega)) only [go_sem, ↓reduceIte, reduceCtorEq, Nat.reduceEqDiff, Nat.reduceAdd, Nat.reduceSub, Nat.reduceMul, Nat.reduceDiv, Nat.reduceMod, Nat.reduceLeDiff, Nat.reduceLT, Nat.reduceBEq, Int.reduceEq, Int.reduceBEq, Int.reduceBNe, Int.reduceLT, Int.reduceLE, Int.reduceAdd, Int.reduceSub, Int.reduceNeg, Int.reduceToNat, Int.reducePow, Nat.reducePow, Int.reduceMul, Int.reduceDiv, ↓s_ref24_Of_b0, hlen, hlt, hix1, hck1, hcv1, hH2, enterK_eq hck, hchk]

/-- Of's text behind its loop. -/
noncomputable def ofTail : K := seqK (fun tT h1 =>
  bareK (lenS (get tT 0)) h1 fun t44 h2 =>
  bareK (xbin Try.prog .gtr T.int (.tmp 44) (.const (.int .i64 20000)) t44 (.int .i64 20000)) h2 fun t45 h3 =>
  condL t45 (fun k2 => k2 .ret [(2, (.pointer none)), (3, (.int .i64 7))] h3) (fun k2 =>
  k2 .normal [(0, (get tT 0))] h3) (seqK (fun tT_1 h4 =>
  bothK (app T.api_Pair 2 32 (.slice none 0 0) (srcS 2 (get tT_1 0) h4) h4) fun t47 h5 =>
  bareK (bldS #[(.slice none 0 0)] [(0, 1)] [(0, t47)]) h5 fun t48 h6 =>
  bothK (newv T.ref24_Model t48 h6) fun t49 h7 =>
  endK Try.prog [.tmp 2, .tmp 3] .ret [(2, t49), (3, (.int .i64 0))] h7) (endK Try.prog [.tmp 2, .tmp 3]))) (endK Try.prog [.tmp 2, .tmp 3])

theorem q_ROf_err (l : List Pr) (v : Value) (H : AHeap) (hr : Rd EPr H v l) (hl : l.length < 1152921504606846976) (h : ofErr none l ≠ 0) : CC F.ref24_Of [v] H = some (.tuple #[.pointer none, .int .i64 (ofErr none l)], H) := by
  obtain ⟨H', hs, hloop⟩ := l_ROf l v H hr hl ofTail l 0 H none rfl (Fr.refl H) (by omega) rfl
  rw [if_neg h] at hloop
  generalize ofErr none l = e at hloop h
  unfold ofTail at hloop
  apply pure_of _ (d_ref24_Of _ H) rfl
  rotate_left 2
  · simp (disch := first | with_reducible rfl | assumption | omega | rfl | (simp only [go_sem]; first | done | omega)) only [go_sem, ↓reduceIte, reduceCtorEq, Nat.reduceEqDiff, Nat.reduceAdd, Nat.reduceSub, Nat.reduceMul, Nat.reduceDiv, Nat.reduceMod, Nat.reduceLeDiff, Nat.reduceLT, Nat.reduceBEq, Int.reduceEq, Int.reduceBEq, Int.reduceBNe, Int.reduceLT, Int.reduceLE, Int.reduceAdd, Int.reduceSub, Int.reduceNeg, Int.reduceToNat, Int.reducePow, Nat.reducePow, Int.reduceMul, Int.reduceDiv, ↓s_ref24_Of]
    exact hloop
  · exact hs
theorem q_ROf_full (l : List Pr) (v : Value) (H : AHeap) (hr : Rd EPr H v l) (hl : l.length < 1152921504606846976) (h : ofErr none l = 0) (hf : 20000 < l.length) : CC F.ref24_Of [v] H = some (.tuple #[.pointer none, .int .i64 7], H) := by
  have hlen := hr.lenS
  have hgt : (20000 : Int) < (l.length : Int) := by omega
  obtain ⟨H', hs, hloop⟩ := l_ROf l v H hr hl ofTail l 0 H none rfl (Fr.refl H) (by omega) rfl
  rw [if_pos h] at hloop
  unfold ofTail at hloop
  apply pure_of _ (d_ref24_Of _ H) rfl
  rotate_left 2
  · simp (disch := first | with_reducible rfl | assumption | omega | rfl | (simp only [go_sem]; first | done | omega)) only [go_sem, ↓reduceIte, reduceCtorEq, Nat.reduceEqDiff, Nat.reduceAdd, Nat.reduceSub, Nat.reduceMul, Nat.reduceDiv, Nat.reduceMod, Nat.reduceLeDiff, Nat.reduceLT, Nat.reduceBEq, Int.reduceEq, Int.reduceBEq, Int.reduceBNe, Int.reduceLT, Int.reduceLE, Int.reduceAdd, Int.reduceSub, Int.reduceNeg, Int.reduceToNat, Int.reducePow, Nat.reducePow, Int.reduceMul, Int.reduceDiv, ↓s_ref24_Of]
    refine hloop.trans ?_
    simp (disch := first | with_reducible rfl | assumption | omega | rfl | (simp only [go_sem]; first | done | omega)) only [go_sem, ↓reduceIte, reduceCtorEq, Nat.reduceEqDiff, Nat.reduceAdd, Nat.reduceSub, Nat.reduceMul, Nat.reduceDiv, Nat.reduceMod, Nat.reduceLeDiff, Nat.reduceLT, Nat.reduceBEq, Int.reduceEq, Int.reduceBEq, Int.reduceBNe, Int.reduceLT, Int.reduceLE, Int.reduceAdd, Int.reduceSub, Int.reduceNeg, Int.reduceToNat, Int.reducePow, Nat.reducePow, Int.reduceMul, Int.reduceDiv, hlen, decide_eq_true hgt]
    rfl
  · exact hs
theorem q_ROf (l : List Pr) (v : Value) (H : AHeap) (hr : Rd EPr H v l) (h : ofErr none l = 0) (hf : l.length ≤ 20000) :
    ∃ b H', CC F.ref24_Of [v] H = some (.tuple #[.pointer (some ⟨b, 0, none⟩), .int .i64 0], H') ∧ MdlR H' b l ∧ Still H H' ∧ H.n ≤ b ∧ (∀ c, MBT T.ref24_Model H' b c → H.n ≤ c) := by
  have hlen := hr.lenS
  have hgt : ¬ (20000 : Int) < (l.length : Int) := by omega
  obtain ⟨H1, hs, hloop⟩ := l_ROf l v H hr (by omega) ofTail l 0 H none rfl (Fr.refl H) (by omega) rfl
  rw [if_pos h] at hloop
  unfold ofTail at hloop
  obtain ⟨v5, H2, happ, ho5, fr2, hb2⟩ := (Eng.Own.nil (E := EPr) (H := H1) (e := T.api_Pair)).appE (m := l) (sz := 2) (bytes := 32) rfl (by simp; omega) (by simp; omega) ((hr.still hs).src (sz := 2) rfl)
  have hn5 : ∀ c, blockOf v5 = some c → H1.n ≤ c := fun c h => by
    rcases hb2 with hb | hb
    · rw [hb] at h; cases h
    · rw [hb] at h; cases h; exact Nat.le_refl _
  have s2 : Still H1 H2 := fr2.mono fun c _ h => by unfold OnlyOf at h; cases h
  have n1 : H.n ≤ H1.n := hs.n
  have n2 : H1.n ≤ H2.n := s2.n
  have s12 : Still H H2 := hs.still.then s2 fun _ _ h => h
  refine ⟨H2.n, H2.push (.cells [v5] T.ref24_Model true), (d_ref24_Of _ H (r := (.tuple #[.pointer (some ⟨H2.n, 0, none⟩), .int .i64 0], _)) ?_).trans (congrArg some (tidy_mem rfl)), ?_, s12.push _, by omega, ?_⟩
  · obtain ⟨a, n, c, hv5⟩ : ∃ a n c, v5 = .slice a n c := by
      rcases ho5 with ⟨_, h⟩ | ⟨_, a, h, _⟩ | ⟨b, o, c, xs, h, _⟩ <;> exact ⟨_, _, _, h⟩
    subst hv5
    simp (disch := first | with_reducible rfl | assumption | omega | rfl | (simp only [go_sem]; first | done | omega)) only [go_sem, ↓reduceIte, reduceCtorEq, Nat.reduceEqDiff, Nat.reduceAdd, Nat.reduceSub, Nat.reduceMul, Nat.reduceDiv, Nat.reduceMod, Nat.reduceLeDiff, Nat.reduceLT, Nat.reduceBEq, Int.reduceEq, Int.reduceBEq, Int.reduceBNe, Int.reduceLT, Int.reduceLE, Int.reduceAdd, Int.reduceSub, Int.reduceNeg, Int.reduceToNat, Int.reducePow, Nat.reducePow, Int.reduceMul, Int.reduceDiv, ↓s_ref24_Of]
    refine hloop.trans ?_
    simp (disch := first | with_reducible rfl | assumption | omega | rfl | (simp only [go_sem]; first | done | omega)) only [go_sem, ↓reduceIte, reduceCtorEq, Nat.reduceEqDiff, Nat.reduceAdd, Nat.reduceSub, Nat.reduceMul, Nat.reduceDiv, Nat.reduceMod, Nat.reduceLeDiff, Nat.reduceLT, Nat.reduceBEq, Int.reduceEq, Int.reduceBEq, Int.reduceBNe, Int.reduceLT, Int.reduceLE, Int.reduceAdd, Int.reduceSub, Int.reduceNeg, Int.reduceToNat, Int.reducePow, Nat.reducePow, Int.reduceMul, Int.reduceDiv, hlen, decide_eq_false hgt, happ]
  · refine ⟨v5, push_f_eq rfl, by simp, ho5.still ((Fr.refl _).push _), fun h => by have := ho5.blk h; omega⟩
  · intro c h
    rcases h with h | ⟨u, hu, hb⟩
    · omega
    · rw [push_f_eq rfl] at hu
      cases hu
      have := hn5 c hb
      omega

end Go.Proofs.Ytlagijfkkpbbnaa
