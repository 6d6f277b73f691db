/-
  10 texts in one (merge.py): R4 T Al V ShModelFulls DsModelFulls Eng28 Num Fulls LawModelFulls.
  Conditions: none. By an AI agent.
-/
import Derived.Test.YtlagijfkkpbbnaaLawModelFullsQ4
import Derived.Test.YtlagijfkkpbbnaaChecked
import Derived.KernelRfl
import Derived.Test.YtlagijfkkpbbnaaRows
import Derived.WalkKit
import Derived.ProofKit
import Derived.OpenShut
import Derived.ShutString
import Derived.ChangeOld
import Derived.Below
import Derived.SizedLaws
import Derived.ChangeArms
import Derived.Carry

/-
  Chapter 24: the reference, Part, Range, Of.
  Conditions: none. By an AI agent.
-/
set_option maxRecDepth 10000
set_option linter.unusedSimpArgs false
set_option linter.unusedVariables false
namespace Go.Proofs.Ytlagijfkkpbbnaa
open Go Eng

/-- Is a key in a range? -/
def inR (sf st : ByteArray) (a : Pr) : Bool := !decide (cmpS a.key sf < 0) && (decide (bl st = []) || decide (cmpS a.key st < 0))
/-- Where a range ends. -/
def endP (l : List Pr) (st : ByteArray) : Nat := if bl st = [] then l.length else posP l st

theorem filter_ge : ∀ {l : List Pr} (_ : Srt l) (k : ByteArray), l.filter (fun a => !decide (cmpS a.key k < 0)) = l.drop (posP l k)
  | [], _, _ => rfl
  | a :: l, hs, k => by
    obtain ⟨ha, hl⟩ := List.pairwise_cons.1 hs
    rw [posP]
    by_cases h : cmpS a.key k < 0
    · rw [if_pos h, List.filter_cons_of_neg (by simp [h]), List.drop_succ_cons]
      exact filter_ge hl k
    · rw [if_neg h, List.drop_zero, List.filter_eq_self]
      intro b hb
      rcases List.mem_cons.1 hb with rfl | hb
      · simp [h]
      · have := ha b hb
        simp only [Bool.not_eq_true', decide_eq_false_iff_not]
        exact fun hc => h (cmpS_trans this hc)
theorem filter_lt : ∀ {l : List Pr} (_ : Srt l) (k : ByteArray), l.filter (fun a => decide (cmpS a.key k < 0)) = l.take (posP l k)
  | [], _, _ => rfl
  | a :: l, hs, k => by
    obtain ⟨ha, hl⟩ := List.pairwise_cons.1 hs
    rw [posP]
    by_cases h : cmpS a.key k < 0
    · rw [if_pos h, List.filter_cons_of_pos (by simp [h]), List.take_succ_cons, filter_lt hl k]
    · rw [if_neg h, List.take_zero, List.filter_eq_nil_iff]
      intro b hb
      rcases List.mem_cons.1 hb with rfl | hb
      · simp [h]
      · have := ha b hb
        simp only [decide_eq_true_eq]
        exact fun hc => h (cmpS_trans this hc)
theorem posP_take : ∀ (l : List Pr) (k : ByteArray) (q : Nat), posP (l.take q) k = min (posP l k) q
  | [], k, q => by simp [posP]
  | a :: l, k, 0 => by simp [posP]
  | a :: l, k, q + 1 => by
    rw [List.take_succ_cons, posP, posP, posP_take l k q]
    split <;> omega

theorem filter_inR {l : List Pr} (hs : Srt l) (sf st : ByteArray) : l.filter (inR sf st) = (l.drop (posP l sf)).take (endP l st - posP l sf) := by
  unfold inR endP
  by_cases h : bl st = []
  · simp only [h, decide_true, Bool.true_or, Bool.and_true, if_true]
    rw [filter_ge hs sf, List.take_of_length_le (by simp)]
  · simp only [h, decide_false, Bool.false_or, if_false]
    rw [← List.filter_filter, filter_lt hs st, filter_ge (hs.sublist (List.take_sublist _ _)) sf, posP_take, ← List.drop_take]
    by_cases hle : posP l sf ≤ posP l st
    · rw [Nat.min_eq_left hle]
    · rw [Nat.min_eq_right (by omega), List.drop_eq_nil_of_le (by simp; omega), List.drop_eq_nil_of_le (by simp; omega)]

theorem rdLit (a : Pr) (H : AHeap) : Rd EPr (H.push (.cells [.string a.key, .string a.value] T.api_Pair true)) (.slice (some ⟨H.n, 0, none⟩) 1 2) [a] := by
  refine .inr (.inr ⟨H.n, 0, 2, rfl, by simp, by simp, ?_⟩)
  rw [push_f_eq rfl]
  rfl

theorem l_part (b : Nat) (l : List Pr) (v : Value) (sf st : ByteArray) (Hz : AHeap) (hf : Hz.f b = .cells [v] T.ref24_Model true) (hb : b < Hz.n) (hr0 : Rd EPr Hz v l) (hl : l.length ≤ 20000) (K : K) :
    ∀ (x : List Pr) (i : Nat) (H : AHeap) (o : Value) (acc : List Pr), l.drop i = x → Still Hz H → Own EPr H T.api_Pair o acc → (∀ c, blockOf o = some c → Hz.n ≤ c) → i ≤ l.length → acc.length ≤ i → ∃ o' H', Still Hz H' ∧ Own EPr H' T.api_Pair o' (acc ++ x.filter (inR sf st)) ∧ (∀ c, blockOf o' = some c → Hz.n ≤ c) ∧
    l_ref24_Model_Part_0 (.pointer (some ⟨b, 0, none⟩)) (.string sf) (.string st) o (.int .i64 i) H (blkK [7] 0 K) = K .normal [(7, o')] H'
  | [], i, H, o, acc, hx, hs, ho, hob, hi, hacc => by
    have h : l.length ≤ i := List.drop_eq_nil_iff.1 hx
    have hlt : ¬ (i : Int) < (l.length : Int) := by omega
    have hlen := hr0.lenS
    have hf' : H.f b = .cells [v] T.ref24_Model true := by rw [hs.f hb (fun h => h), hf]
    refine ⟨o, H, hs, by simpa using ho, hob, ?_⟩
    rw [r_ref24_Model_Part_0]
    simp (disch := first | with_reducible rfl | assumption | omega | rfl | (simp only [go_sem]; first | done | omega)) only [go_sem, ↓reduceIte, reduceCtorEq, Nat.reduceEqDiff, Nat.reduceAdd, Nat.reduceSub, Nat.reduceMul, Nat.reduceDiv, Nat.reduceMod, Nat.reduceLeDiff, Nat.reduceLT, Nat.reduceBEq, Int.reduceEq, Int.reduceBEq, Int.reduceBNe, Int.reduceLT, Int.reduceLE, Int.reduceAdd, Int.reduceSub, Int.reduceNeg, Int.reduceToNat, Int.reducePow, Nat.reducePow, Int.reduceMul, Int.reduceDiv, ↓s_ref24_Model_Part_b0, hf', hlen, hlt]
  | a :: x, i, H, o, acc, hx, hs, ho, hob, hi, hacc => by
    obtain ⟨h, hxa, hx'⟩ := drop_cons hx
    have hlt : (i : Int) < (l.length : Int) := by omega
    have hlen := hr0.lenS
    have hf' : H.f b = .cells [v] T.ref24_Model true := by rw [hs.f hb (fun h => h), hf]
    obtain ⟨b1, o1, hix1, hb1, hc1, _⟩ := (hr0.still hs).ix (q := .i64) h
    rw [hxa] at hc1
    have hix1 : ixS 2 v (.int .i64 i) = some (.pointer (some ⟨b1, o1, none⟩)) := hix1
    have hck : cellB (H.f b1) o1 = some (.string a.key) := cutB_cell hc1 (i := 0) (by decide)
    have hc1 : cutB (H.f b1) o1 2 = some [.string a.key, .string a.value] := hc1
    by_cases hin : inR sf st a = true
    · generalize hH1 : H.push (.cells [.string a.key, .string a.value] T.api_Pair true) = H1
      have s1 : Still H H1 := by rw [← hH1]; exact (Fr.refl H).push _
      have n1 : H1.n = H.n + 1 := by rw [← hH1]; rfl
      have hlit := rdLit a H
      rw [hH1] at hlit
      have n0 : Hz.n ≤ H.n := hs.n
      obtain ⟨o', H2, happ, ho2, fr2, hb2⟩ := (ho.still s1).appE (m := [a]) (sz := 2) (bytes := 32) rfl (by simp; omega) (by simp; omega) (hlit.src (sz := 2) rfl)
      have hob' : ∀ c, blockOf o' = some c → Hz.n ≤ c := fun c hc => by
        rcases hb2 with hb | hb
        · rw [hb] at hc; exact hob c hc
        · rw [hb] at hc; cases hc; omega
      have s2 : Still Hz H2 := (hs.then s1 fun _ _ h => h).still.then fr2 fun c hc h => by have := hob c h; omega
      obtain ⟨o'', H', q1, q2, q3, ih⟩ := l_part b l v sf st Hz hf hb hr0 hl K x (i + 1) H2 o' (acc ++ [a]) hx' s2 ho2 hob' h (by simp; omega)
      rw [Int.natCast_add] at ih
      refine ⟨o'', H', q1, by rw [List.filter_cons_of_pos hin]; simpa using q2, q3, ?_⟩
      unfold inR at hin
      rw [Bool.and_eq_true, Bool.or_eq_true] at hin
      obtain ⟨i1, i2⟩ := hin
      rw [Bool.not_eq_true'] at i1
      rw [r_ref24_Model_Part_0]
      by_cases i3 : bl st = []
      · simp (disch := first | with_reducible rfl | assumption | omega | rfl | (simp only [go_sem]; first | done | omega)) only [go_sem, ↓reduceIte, reduceCtorEq, Nat.reduceEqDiff, Nat.reduceAdd, Nat.reduceSub, Nat.reduceMul, Nat.reduceDiv, Nat.reduceMod, Nat.reduceLeDiff, Nat.reduceLT, Nat.reduceBEq, Int.reduceEq, Int.reduceBEq, Int.reduceBNe, Int.reduceLT, Int.reduceLE, Int.reduceAdd, Int.reduceSub, Int.reduceNeg, Int.reduceToNat, Int.reducePow, Nat.reducePow, Int.reduceMul, Int.reduceDiv, ↓s_ref24_Model_Part_b0, hf', hlen, hlt, hix1, hck, less_cmpS, i1, bl_mk, decide_eq_true i3, hc1, hH1, happ]
        exact ih
      · have i4 : decide (cmpS a.key st < 0) = true := by
          rcases i2 with h' | h'
          · exact absurd (of_decide_eq_true h') i3
          · exact h'
        simp (disch := first | with_reducible rfl | assumption | omega | rfl | (simp only [go_sem]; first | done | omega)) only [go_sem, ↓reduceIte, reduceCtorEq, Nat.reduceEqDiff, Nat.reduceAdd, Nat.reduceSub, Nat.reduceMul, Nat.reduceDiv, Nat.reduceMod, Nat.reduceLeDiff, Nat.reduceLT, Nat.reduceBEq, Int.reduceEq, Int.reduceBEq, Int.reduceBNe, Int.reduceLT, Int.reduceLE, Int.reduceAdd, Int.reduceSub, Int.reduceNeg, Int.reduceToNat, Int.reducePow, Nat.reducePow, Int.reduceMul, Int.reduceDiv, ↓s_ref24_Model_Part_b0, hf', hlen, hlt, hix1, hck, less_cmpS, i1, bl_mk, decide_eq_false i3, i4, hc1, hH1, happ]
        exact ih
    · obtain ⟨o'', H', q1, q2, q3, ih⟩ := l_part b l v sf st Hz hf hb hr0 hl K x (i + 1) H o acc hx' hs ho hob h (by omega)
      rw [Int.natCast_add] at ih
      refine ⟨o'', H', q1, by rw [List.filter_cons_of_neg hin]; exact q2, q3, ?_⟩
      rw [r_ref24_Model_Part_0]
      by_cases i1 : cmpS a.key sf < 0
      · simp (disch := first | with_reducible rfl | assumption | omega | rfl | (simp only [go_sem]; first | done | omega)) only [go_sem, ↓reduceIte, reduceCtorEq, Nat.reduceEqDiff, Nat.reduceAdd, Nat.reduceSub, Nat.reduceMul, Nat.reduceDiv, Nat.reduceMod, Nat.reduceLeDiff, Nat.reduceLT, Nat.reduceBEq, Int.reduceEq, Int.reduceBEq, Int.reduceBNe, Int.reduceLT, Int.reduceLE, Int.reduceAdd, Int.reduceSub, Int.reduceNeg, Int.reduceToNat, Int.reducePow, Nat.reducePow, Int.reduceMul, Int.reduceDiv, ↓s_ref24_Model_Part_b0, hf', hlen, hlt, hix1, hck, less_cmpS, decide_eq_true i1]
        exact ih
      · have i2 : ¬ bl st = [] := fun h' => hin (by simp [inR, i1, h'])
        have i3 : ¬ cmpS a.key st < 0 := fun h' => hin (by simp [inR, i1, h'])
        simp (disch := first | with_reducible rfl | assumption | omega | rfl | (simp only [go_sem]; first | done | omega)) only [go_sem, ↓reduceIte, reduceCtorEq, Nat.reduceEqDiff, Nat.reduceAdd, Nat.reduceSub, Nat.reduceMul, Nat.reduceDiv, Nat.reduceMod, Nat.reduceLeDiff, Nat.reduceLT, Nat.reduceBEq, Int.reduceEq, Int.reduceBEq, Int.reduceBNe, Int.reduceLT, Int.reduceLE, Int.reduceAdd, Int.reduceSub, Int.reduceNeg, Int.reduceToNat, Int.reducePow, Nat.reducePow, Int.reduceMul, Int.reduceDiv, ↓s_ref24_Model_Part_b0, hf', hlen, hlt, hix1, hck, less_cmpS, decide_eq_false i1, bl_mk, decide_eq_false i2, decide_eq_false i3]
        exact ih

theorem q_RPart (b : Nat) (l : List Pr) (sf st : ByteArray) (H : AHeap) (r : MdlR H b l) (hl : l.length ≤ 20000) :
    ∃ v' H', CC F.ref24_Model_Part [.pointer (some ⟨b, 0, none⟩), .string sf, .string st] H = some (v', H') ∧ Own EPr H' T.api_Pair v' (l.filter (inR sf st)) ∧ Still H H' := by
  obtain ⟨v, h1, h2, h3, h4⟩ := r
  obtain ⟨o, H', hs, ho, hob, hloop⟩ := l_part b l v sf st H h1 h2 h3.rd hl (seqK (fun tT h1 => endK Try.prog [.tmp 6] .ret [(6, (get tT 7))] h1) (endK Try.prog [.tmp 6])) l 0 H (.slice none 0 0) [] rfl (Fr.refl H) Eng.Own.nil (fun c h => by cases h) (by omega) (by simp)
  obtain ⟨H'', h⟩ := own_tidied ho hs hob (d_ref24_Model_Part (.pointer (some ⟨b, 0, none⟩)) (.string sf) (.string st) H (r := (o, H')) (by
    simp (disch := first | with_reducible rfl | assumption | omega | rfl | (simp only [go_sem]; first | done | omega)) only [go_sem, ↓reduceIte, reduceCtorEq, Nat.reduceEqDiff, Nat.reduceAdd, Nat.reduceSub, Nat.reduceMul, Nat.reduceDiv, Nat.reduceMod, Nat.reduceLeDiff, Nat.reduceLT, Nat.reduceBEq, Int.reduceEq, Int.reduceBEq, Int.reduceBNe, Int.reduceLT, Int.reduceLE, Int.reduceAdd, Int.reduceSub, Int.reduceNeg, Int.reduceToNat, Int.reducePow, Nat.reducePow, Int.reduceMul, Int.reduceDiv, ↓s_ref24_Model_Part]
    refine hloop.trans ?_
    have := ho.cell
    simp (disch := first | with_reducible rfl | assumption | omega | rfl | (simp only [go_sem]; first | done | omega)) only [go_sem, ↓reduceIte, reduceCtorEq, Nat.reduceEqDiff, Nat.reduceAdd, Nat.reduceSub, Nat.reduceMul, Nat.reduceDiv, Nat.reduceMod, Nat.reduceLeDiff, Nat.reduceLT, Nat.reduceBEq, Int.reduceEq, Int.reduceBEq, Int.reduceBNe, Int.reduceLT, Int.reduceLE, Int.reduceAdd, Int.reduceSub, Int.reduceNeg, Int.reduceToNat, Int.reducePow, Nat.reducePow, Int.reduceMul, Int.reduceDiv]))
  exact ⟨o, H'', h.1, h.2.1, h.2.2.1⟩

theorem q_RRange_arg (b : Nat) (sf st : ByteArray) (n : Int) (H : AHeap) (h : n < 1 ∨ 32 < n) :
    CC F.ref24_Model_Range [.pointer (some ⟨b, 0, none⟩), .string sf, .string st, .int .i64 n] H = some (.tuple #[.slice none 0 0, .int .i64 2], H) := by
  by_cases h1 : n < 1
  · apply pure_of _ (d_ref24_Model_Range _ _ _ _ H) rfl
    rotate_left 2
    · simp (disch := first | with_reducible rfl | assumption | omega | rfl | (simp only [go_sem]; first | done | omega)) only [go_sem, ↓reduceIte, reduceCtorEq, Nat.reduceEqDiff, Nat.reduceAdd, Nat.reduceSub, Nat.reduceMul, Nat.reduceDiv, Nat.reduceMod, Nat.reduceLeDiff, Nat.reduceLT, Nat.reduceBEq, Int.reduceEq, Int.reduceBEq, Int.reduceBNe, Int.reduceLT, Int.reduceLE, Int.reduceAdd, Int.reduceSub, Int.reduceNeg, Int.reduceToNat, Int.reducePow, Nat.reducePow, Int.reduceMul, Int.reduceDiv, ↓s_ref24_Model_Range, decide_eq_true h1]
      rfl
    · (repeat (first | exact Fr.refl _ | refine Fr.push ?_ _ | refine Fr.set ?_ _ _ (by intro h; first | omega | (simp only [go_sem] at h; omega))))
  · have h2 : 32 < n := by omega
    apply pure_of _ (d_ref24_Model_Range _ _ _ _ H) rfl
    rotate_left 2
    · simp (disch := first | with_reducible rfl | assumption | omega | rfl | (simp only [go_sem]; first | done | omega)) only [go_sem, ↓reduceIte, reduceCtorEq, Nat.reduceEqDiff, Nat.reduceAdd, Nat.reduceSub, Nat.reduceMul, Nat.reduceDiv, Nat.reduceMod, Nat.reduceLeDiff, Nat.reduceLT, Nat.reduceBEq, Int.reduceEq, Int.reduceBEq, Int.reduceBNe, Int.reduceLT, Int.reduceLE, Int.reduceAdd, Int.reduceSub, Int.reduceNeg, Int.reduceToNat, Int.reducePow, Nat.reducePow, Int.reduceMul, Int.reduceDiv, ↓s_ref24_Model_Range, decide_eq_false h1, decide_eq_true h2]
      rfl
    · (repeat (first | exact Fr.refl _ | refine Fr.push ?_ _ | refine Fr.set ?_ _ _ (by intro h; first | omega | (simp only [go_sem] at h; omega))))
theorem q_RRange_long (b : Nat) (sf st : ByteArray) (n : Int) (H : AHeap) (hn1 : ¬ n < 1) (hn2 : ¬ 32 < n) (h : 24 < ((bl sf).length : Int) ∨ 24 < ((bl st).length : Int)) :
    CC F.ref24_Model_Range [.pointer (some ⟨b, 0, none⟩), .string sf, .string st, .int .i64 n] H = some (.tuple #[.slice none 0 0, .int .i64 5], H) := by
  by_cases h1 : 24 < ((bl sf).length : Int)
  · apply pure_of _ (d_ref24_Model_Range _ _ _ _ H) rfl
    rotate_left 2
    · simp (disch := first | with_reducible rfl | assumption | omega | rfl | (simp only [go_sem]; first | done | omega)) only [go_sem, ↓reduceIte, reduceCtorEq, Nat.reduceEqDiff, Nat.reduceAdd, Nat.reduceSub, Nat.reduceMul, Nat.reduceDiv, Nat.reduceMod, Nat.reduceLeDiff, Nat.reduceLT, Nat.reduceBEq, Int.reduceEq, Int.reduceBEq, Int.reduceBNe, Int.reduceLT, Int.reduceLE, Int.reduceAdd, Int.reduceSub, Int.reduceNeg, Int.reduceToNat, Int.reducePow, Nat.reducePow, Int.reduceMul, Int.reduceDiv, ↓s_ref24_Model_Range, decide_eq_false hn1, decide_eq_false hn2, decide_eq_true h1]
      rfl
    · (repeat (first | exact Fr.refl _ | refine Fr.push ?_ _ | refine Fr.set ?_ _ _ (by intro h; first | omega | (simp only [go_sem] at h; omega))))
  · have h2 : 24 < ((bl st).length : Int) := by omega
    apply pure_of _ (d_ref24_Model_Range _ _ _ _ H) rfl
    rotate_left 2
    · simp (disch := first | with_reducible rfl | assumption | omega | rfl | (simp only [go_sem]; first | done | omega)) only [go_sem, ↓reduceIte, reduceCtorEq, Nat.reduceEqDiff, Nat.reduceAdd, Nat.reduceSub, Nat.reduceMul, Nat.reduceDiv, Nat.reduceMod, Nat.reduceLeDiff, Nat.reduceLT, Nat.reduceBEq, Int.reduceEq, Int.reduceBEq, Int.reduceBNe, Int.reduceLT, Int.reduceLE, Int.reduceAdd, Int.reduceSub, Int.reduceNeg, Int.reduceToNat, Int.reducePow, Nat.reducePow, Int.reduceMul, Int.reduceDiv, ↓s_ref24_Model_Range, decide_eq_false hn1, decide_eq_false hn2, decide_eq_false h1, decide_eq_true h2]
      rfl
    · (repeat (first | exact Fr.refl _ | refine Fr.push ?_ _ | refine Fr.set ?_ _ _ (by intro h; first | omega | (simp only [go_sem] at h; omega))))

theorem rd_tidied2 {H H' : AHeap} {v : Value} {l : List Pr} {n : Int} (ho : Rd EPr H' v l) (hs : Still H H') {x : Res} (hx : x = some (tidy H (.tuple #[v, .int .i64 n], H'))) :
    ∃ H'', x = some (.tuple #[v, .int .i64 n], H'') ∧ Rd EPr H'' v l ∧ Still H H'' := by
  unfold tidy at hx
  split at hx
  · rename_i hg
    simp only [Bool.and_eq_true] at hg
    refine ⟨H, hx, ?_, Fr.refl _⟩
    rcases ho with h | ⟨_, a, k, h, _⟩ | ⟨b, o, c, h, _⟩
    · exact .inl h
    · rw [h] at hg; exact absurd hg.1 (by simp [gr])
    · rw [h] at hg; exact absurd hg.1 (by simp [gr])
  · exact ⟨H', hx, ho, hs⟩

theorem q_RRange (b : Nat) (l : List Pr) (sf st : ByteArray) (n : Nat) (H : AHeap) (r : MdlR H b l) (hsr : Srt l) (hl : l.length ≤ 20000) (hn1 : 1 ≤ n) (hn2 : n ≤ 32) (h1 : ¬ 24 < ((bl sf).length : Int)) (h2 : ¬ 24 < ((bl st).length : Int)) :
    ∃ v' H', CC F.ref24_Model_Range [.pointer (some ⟨b, 0, none⟩), .string sf, .string st, .int .i64 (n : Int)] H = some (.tuple #[v', .int .i64 0], H') ∧ Rd EPr H' v' (rangeP l (posP l sf) (endP l st) n) ∧ Still H H' := by
  have hn1' : ¬ (n : Int) < 1 := by omega
  have hn2' : ¬ (32 : Int) < (n : Int) := by omega
  obtain ⟨v, H1, hp, ho, hs⟩ := q_RPart b l sf st H r hl
  have e : rangeP l (posP l sf) (endP l st) n = (l.filter (inR sf st)).take (min n (l.filter (inR sf st)).length) := by
    rw [filter_inR hsr, rangeP, List.take_take]
    generalize hY : l.drop (posP l sf) = Y
    have hlen : (Y.take (endP l st - posP l sf)).length = min (endP l st - posP l sf) Y.length := by simp
    rw [hlen]
    apply List.ext_getElem?
    intro j
    by_cases hj : j < Y.length
    · by_cases hk : j < min (endP l st) (posP l sf + n) - posP l sf
      · rw [List.getElem?_take_of_lt hk, List.getElem?_take_of_lt (by omega)]
      · rw [List.getElem?_eq_none (by simp only [List.length_take]; omega), List.getElem?_eq_none (by simp only [List.length_take]; omega)]
    · rw [List.getElem?_eq_none (by simp only [List.length_take]; omega), List.getElem?_eq_none (by simp only [List.length_take]; omega)]
  rw [e]
  generalize l.filter (inR sf st) = m at ho ⊢
  have hlen := ho.rd.lenS
  have hm : min (n : Int) (m.length : Int) = ((min n m.length : Nat) : Int) := by omega
  obtain ⟨v34, hs34, hr34⟩ := ho.hi (sz := 2) rfl (i := min n m.length) (by omega) (q := .i64)
  have hone : one v34 = true := by
    rcases hr34 with ⟨_, h⟩ | ⟨_, a, k, h, _⟩ | ⟨b, o, c, h, _⟩ <;> rw [h] <;> rfl
  obtain ⟨H'', h⟩ := rd_tidied2 (n := 0) hr34 hs (d_ref24_Model_Range (.pointer (some ⟨b, 0, none⟩)) (.string sf) (.string st) (.int .i64 (n : Int)) H (r := (.tuple #[v34, .int .i64 0], H1)) (by
    simp (disch := first | with_reducible rfl | assumption | omega | rfl | (simp only [go_sem]; first | done | omega)) only [go_sem, ↓reduceIte, reduceCtorEq, Nat.reduceEqDiff, Nat.reduceAdd, Nat.reduceSub, Nat.reduceMul, Nat.reduceDiv, Nat.reduceMod, Nat.reduceLeDiff, Nat.reduceLT, Nat.reduceBEq, Int.reduceEq, Int.reduceBEq, Int.reduceBNe, Int.reduceLT, Int.reduceLE, Int.reduceAdd, Int.reduceSub, Int.reduceNeg, Int.reduceToNat, Int.reducePow, Nat.reducePow, Int.reduceMul, Int.reduceDiv, ↓s_ref24_Model_Range, decide_eq_false hn1', decide_eq_false hn2', decide_eq_false h1, decide_eq_false h2, enterK_eq hp, hlen, hm, hs34]))
  exact ⟨v34, H'', h⟩

/-! ### Of -/
theorem l_ROf (l : List Pr) (v : Value) (Hz : AHeap) (hr0 : Rd EPr Hz v l) (hl : l.length < 1152921504606846976) (K : K) : ∀ (x : List Pr) (i : Nat) (H : AHeap) (o : Option Pr), l.drop i = x → Still Hz H → i ≤ l.length → (if i = 0 then none else l[i - 1]?) = o → ∃ H', Still Hz H' ∧
    (l_ref24_Of_0 v (.int .i64 i) H (blkK [0] 0 K) = if ofErr o x = 0 then K .normal [(0, v)] H' else K .ret [(2, .pointer none), (3, .int .i64 (ofErr o x))] H')
  | [], i, H, o, hx, hs, hi, ho => by
    have h : l.length ≤ i := List.drop_eq_nil_iff.1 hx
    have hlt : ¬ (i : Int) < (l.length : Int) := by omega
    have hlen := hr0.lenS
    refine ⟨H, hs, ?_⟩
    rw [r_ref24_Of_0]
    simp only [ofErr, if_true]
    simp (disch := first | with_reducible rfl | assumption | omega | rfl | (simp only [go_sem]; first | done | omega)) only [go_sem, ↓reduceIte, reduceCtorEq, Nat.reduceEqDiff, Nat.reduceAdd, Nat.reduceSub, Nat.reduceMul, Nat.reduceDiv, Nat.reduceMod, Nat.reduceLeDiff, Nat.reduceLT, Nat.reduceBEq, Int.reduceEq, Int.reduceBEq, Int.reduceBNe, Int.reduceLT, Int.reduceLE, Int.reduceAdd, Int.reduceSub, Int.reduceNeg, Int.reduceToNat, Int.reducePow, Nat.reducePow, Int.reduceMul, Int.reduceDiv, ↓s_ref24_Of_b0, hlen, hlt]
  | a :: x, i, H, o, hx, hs, hi, ho => by
    obtain ⟨h, hxa, hx'⟩ := drop_cons hx
    have hlt : (i : Int) < (l.length : Int) := by omega
    have hlen := hr0.lenS
    obtain ⟨b1, o1, hix1, hb1, hc1, _⟩ := (hr0.still hs).ix (q := .i64) h
    rw [hxa] at hc1
    have hix1 : ixS 2 v (.int .i64 i) = some (.pointer (some ⟨b1, o1, none⟩)) := hix1
    have hck1 : cellB (H.f b1) o1 = some (.string a.key) := cutB_cell hc1 (i := 0) (by decide)
    have hcv1 : cellB (H.f b1) (o1 + 1) = some (.string a.value) := cutB_cell hc1 (i := 1) (by decide)
    generalize hH2 : H.push (.cells [.string a.value] T.string true) = H2
    have s2 : Still H H2 := by rw [← hH2]; exact (Fr.refl H).push _
    have hck := q_bad a.key [a.value] _ _ (rdOne a.value H) (by simp)
    rw [hH2] at hck
    have st : Still Hz H2 := hs.still.then s2 fun _ _ h => h
    have fb1 : H2.f b1 = H.f b1 := s2.f hb1 (fun h => h)
    by_cases hchk : chk a.key [a.value] = 0
    · rw [hchk] at hck
      cases i with
      | zero =>
        have ho' : o = none := by rw [← ho]; rfl
        subst ho'
        obtain ⟨H', hs', ih⟩ := l_ROf l v Hz hr0 hl K x 1 H2 (some a) hx' st (by omega) (by simp [← hxa])
        refine ⟨H', hs', ?_⟩
        have e : ofErr none (a :: x) = ofErr (some a) x := by simp [ofErr, hchk]
        have hlt : (0 : Int) < (l.length : Int) := hlt
        have hix1 : ixS 2 v (.int .i64 0) = some (.pointer (some ⟨b1, o1, none⟩)) := hix1
        rw [e, r_ref24_Of_0]
        simp (disch := first | with_reducible rfl | assumption | omega | rfl | (simp only [go_sem]; first | done | omega)) only [go_sem, ↓reduceIte, reduceCtorEq, Nat.reduceEqDiff, Nat.reduceAdd, Nat.reduceSub, Nat.reduceMul, Nat.reduceDiv, Nat.reduceMod, Nat.reduceLeDiff, Nat.reduceLT, Nat.reduceBEq, Int.reduceEq, Int.reduceBEq, Int.reduceBNe, Int.reduceLT, Int.reduceLE, Int.reduceAdd, Int.reduceSub, Int.reduceNeg, Int.reduceToNat, Int.reducePow, Nat.reducePow, Int.reduceMul, Int.reduceDiv, ↓s_ref24_Of_b0, hlen, hlt, hix1, hck1, hcv1, hH2, enterK_eq hck]
        exact ih
      | succ k =>
        have hk : k < l.length := by omega
        have ho' : o = some l[k] := by rw [← ho]; simp [hk]
        subst ho'
        obtain ⟨b2, o2, hix2, hb2, hc2, _⟩ := (hr0.still hs).ix (q := .i64) hk
        have hix2 : ixS 2 v (.int .i64 k) = some (.pointer (some ⟨b2, o2, none⟩)) := hix2
        have hc2 : cellB (H.f b2) o2 = some (.string l[k].key) := cutB_cell hc2 (i := 0) (by decide)
        have fb2 : H2.f b2 = H.f b2 := s2.f hb2 (fun h => h)
        obtain ⟨H', hs', ih⟩ := l_ROf l v Hz hr0 hl K x (k + 1 + 1) H2 (some a) hx' st (by omega) (by simp [← hxa])
        have hsub : ((k : Int) + 1 - 1) = (k : Int) := by omega
        have hlt : (k : Int) + 1 < (l.length : Int) := by omega
        have hpos : (0 : Int) < (k : Int) + 1 := by omega
        have hix1 : ixS 2 v (.int .i64 ((k : Int) + 1)) = some (.pointer (some ⟨b1, o1, none⟩)) := hix1
        rw [Int.natCast_add, Int.natCast_add] at ih
        by_cases hge : 0 ≤ cmpS l[k].key a.key
        · have hd : cmpS a.key l[k].key ≤ 0 := by rw [cmpS_swap]; omega
          have e : ofErr (some l[k]) (a :: x) = 13 := by simp [ofErr, hchk, hge]
          refine ⟨H2, st, ?_⟩
          rw [e, r_ref24_Of_0, Int.natCast_add]
          simp (disch := first | with_reducible rfl | assumption | omega | rfl | (simp only [go_sem]; first | done | omega)) only [go_sem, ↓reduceIte, reduceCtorEq, Nat.reduceEqDiff, Nat.reduceAdd, Nat.reduceSub, Nat.reduceMul, Nat.reduceDiv, Nat.reduceMod, Nat.reduceLeDiff, Nat.reduceLT, Nat.reduceBEq, Int.reduceEq, Int.reduceBEq, Int.reduceBNe, Int.reduceLT, Int.reduceLE, Int.reduceAdd, Int.reduceSub, Int.reduceNeg, Int.reduceToNat, Int.reducePow, Nat.reducePow, Int.reduceMul, Int.reduceDiv, ↓s_ref24_Of_b0, hlen, hlt, hix1, hck1, hcv1, hH2, enterK_eq hck, hpos, hsub, hix2, fb1, fb2, hc2, leq_cmpS, decide_eq_true hd]
        · have hd : ¬ cmpS a.key l[k].key ≤ 0 := by rw [cmpS_swap]; omega
          have e : ofErr (some l[k]) (a :: x) = ofErr (some a) x := by simp [ofErr, hchk, hge]
          refine ⟨H', hs', ?_⟩
          rw [e, r_ref24_Of_0, Int.natCast_add]
          simp (disch := first | with_reducible rfl | assumption | omega | rfl | (simp only [go_sem]; first | done | omega)) only [go_sem, ↓reduceIte, reduceCtorEq, Nat.reduceEqDiff, Nat.reduceAdd, Nat.reduceSub, Nat.reduceMul, Nat.reduceDiv, Nat.reduceMod, Nat.reduceLeDiff, Nat.reduceLT, Nat.reduceBEq, Int.reduceEq, Int.reduceBEq, Int.reduceBNe, Int.reduceLT, Int.reduceLE, Int.reduceAdd, Int.reduceSub, Int.reduceNeg, Int.reduceToNat, Int.reducePow, Nat.reducePow, Int.reduceMul, Int.reduceDiv, ↓s_ref24_Of_b0, hlen, hlt, hix1, hck1, hcv1, hH2, enterK_eq hck, hpos, hsub, hix2, fb1, fb2, hc2, leq_cmpS, decide_eq_false hd]
          exact ih
    · have e : ofErr o (a :: x) = chk a.key [a.value] := by simp [ofErr, hchk]
      refine ⟨H2, st, ?_⟩
      rw [e, if_neg hchk]
      generalize chk a.key [a.value] = y at hchk hck
      rw [r_ref24_Of_0]
      simp (disch := first | with_reducible rfl | assumption | omega | rfl | (simp only [go_sem]; first | done | omega)) only [go_sem, ↓reduceIte, reduceCtorEq, Nat.reduceEqDiff, Nat.reduceAdd, Nat.reduceSub, Nat.reduceMul, Nat.reduceDiv, Nat.reduceMod, Nat.reduceLeDiff, Nat.reduceLT, Nat.reduceBEq, Int.reduceEq, Int.reduceBEq, Int.reduceBNe, Int.reduceLT, Int.reduceLE, Int.reduceAdd, Int.reduceSub, Int.reduceNeg, Int.reduceToNat, Int.reducePow, Nat.reducePow, Int.reduceMul, Int.reduceDiv, ↓s_ref24_Of_b0, hlen, hlt, hix1, hck1, hcv1, hH2, enterK_eq hck, hchk]

/-- Of's text behind its loop. -/
noncomputable def ofTail : K := seqK (fun tT h1 =>
  bareK (lenS (get tT 0)) h1 fun t44 h2 =>
  bareK (xbin Try.prog .gtr T.int (.tmp 44) (.const (.int .i64 20000)) t44 (.int .i64 20000)) h2 fun t45 h3 =>
  condL t45 (fun k2 => k2 .ret [(2, (.pointer none)), (3, (.int .i64 7))] h3) (fun k2 =>
  k2 .normal [(0, (get tT 0))] h3) (seqK (fun tT_1 h4 =>
  bothK (app T.api_Pair 2 32 (.slice none 0 0) (srcS 2 (get tT_1 0) h4) h4) fun t47 h5 =>
  bareK (bldS #[(.slice none 0 0)] [(0, 1)] [(0, t47)]) h5 fun t48 h6 =>
  bothK (newv T.ref24_Model t48 h6) fun t49 h7 =>
  endK Try.prog [.tmp 2, .tmp 3] .ret [(2, t49), (3, (.int .i64 0))] h7) (endK Try.prog [.tmp 2, .tmp 3]))) (endK Try.prog [.tmp 2, .tmp 3])

theorem q_ROf_err (l : List Pr) (v : Value) (H : AHeap) (hr : Rd EPr H v l) (hl : l.length < 1152921504606846976) (h : ofErr none l ≠ 0) : CC F.ref24_Of [v] H = some (.tuple #[.pointer none, .int .i64 (ofErr none l)], H) := by
  obtain ⟨H', hs, hloop⟩ := l_ROf l v H hr hl ofTail l 0 H none rfl (Fr.refl H) (by omega) rfl
  rw [if_neg h] at hloop
  generalize ofErr none l = e at hloop h
  unfold ofTail at hloop
  apply pure_of _ (d_ref24_Of _ H) rfl
  rotate_left 2
  · simp (disch := first | with_reducible rfl | assumption | omega | rfl | (simp only [go_sem]; first | done | omega)) only [go_sem, ↓reduceIte, reduceCtorEq, Nat.reduceEqDiff, Nat.reduceAdd, Nat.reduceSub, Nat.reduceMul, Nat.reduceDiv, Nat.reduceMod, Nat.reduceLeDiff, Nat.reduceLT, Nat.reduceBEq, Int.reduceEq, Int.reduceBEq, Int.reduceBNe, Int.reduceLT, Int.reduceLE, Int.reduceAdd, Int.reduceSub, Int.reduceNeg, Int.reduceToNat, Int.reducePow, Nat.reducePow, Int.reduceMul, Int.reduceDiv, ↓s_ref24_Of]
    exact hloop
  · exact hs
theorem q_ROf_full (l : List Pr) (v : Value) (H : AHeap) (hr : Rd EPr H v l) (hl : l.length < 1152921504606846976) (h : ofErr none l = 0) (hf : 20000 < l.length) : CC F.ref24_Of [v] H = some (.tuple #[.pointer none, .int .i64 7], H) := by
  have hlen := hr.lenS
  have hgt : (20000 : Int) < (l.length : Int) := by omega
  obtain ⟨H', hs, hloop⟩ := l_ROf l v H hr hl ofTail l 0 H none rfl (Fr.refl H) (by omega) rfl
  rw [if_pos h] at hloop
  unfold ofTail at hloop
  apply pure_of _ (d_ref24_Of _ H) rfl
  rotate_left 2
  · simp (disch := first | with_reducible rfl | assumption | omega | rfl | (simp only [go_sem]; first | done | omega)) only [go_sem, ↓reduceIte, reduceCtorEq, Nat.reduceEqDiff, Nat.reduceAdd, Nat.reduceSub, Nat.reduceMul, Nat.reduceDiv, Nat.reduceMod, Nat.reduceLeDiff, Nat.reduceLT, Nat.reduceBEq, Int.reduceEq, Int.reduceBEq, Int.reduceBNe, Int.reduceLT, Int.reduceLE, Int.reduceAdd, Int.reduceSub, Int.reduceNeg, Int.reduceToNat, Int.reducePow, Nat.reducePow, Int.reduceMul, Int.reduceDiv, ↓s_ref24_Of]
    refine hloop.trans ?_
    simp (disch := first | with_reducible rfl | assumption | omega | rfl | (simp only [go_sem]; first | done | omega)) only [go_sem, ↓reduceIte, reduceCtorEq, Nat.reduceEqDiff, Nat.reduceAdd, Nat.reduceSub, Nat.reduceMul, Nat.reduceDiv, Nat.reduceMod, Nat.reduceLeDiff, Nat.reduceLT, Nat.reduceBEq, Int.reduceEq, Int.reduceBEq, Int.reduceBNe, Int.reduceLT, Int.reduceLE, Int.reduceAdd, Int.reduceSub, Int.reduceNeg, Int.reduceToNat, Int.reducePow, Nat.reducePow, Int.reduceMul, Int.reduceDiv, hlen, decide_eq_true hgt]
    rfl
  · exact hs
theorem q_ROf (l : List Pr) (v : Value) (H : AHeap) (hr : Rd EPr H v l) (h : ofErr none l = 0) (hf : l.length ≤ 20000) :
    ∃ b H', CC F.ref24_Of [v] H = some (.tuple #[.pointer (some ⟨b, 0, none⟩), .int .i64 0], H') ∧ MdlR H' b l ∧ Still H H' ∧ H.n ≤ b ∧ (∀ c, MBT T.ref24_Model H' b c → H.n ≤ c) := by
  have hlen := hr.lenS
  have hgt : ¬ (20000 : Int) < (l.length : Int) := by omega
  obtain ⟨H1, hs, hloop⟩ := l_ROf l v H hr (by omega) ofTail l 0 H none rfl (Fr.refl H) (by omega) rfl
  rw [if_pos h] at hloop
  unfold ofTail at hloop
  obtain ⟨v5, H2, happ, ho5, fr2, hb2⟩ := (Eng.Own.nil (E := EPr) (H := H1) (e := T.api_Pair)).appE (m := l) (sz := 2) (bytes := 32) rfl (by simp; omega) (by simp; omega) ((hr.still hs).src (sz := 2) rfl)
  have hn5 : ∀ c, blockOf v5 = some c → H1.n ≤ c := fun c h => by
    rcases hb2 with hb | hb
    · rw [hb] at h; cases h
    · rw [hb] at h; cases h; exact Nat.le_refl _
  have s2 : Still H1 H2 := fr2.mono fun c _ h => by unfold OnlyOf at h; cases h
  have n1 : H.n ≤ H1.n := hs.n
  have n2 : H1.n ≤ H2.n := s2.n
  have s12 : Still H H2 := hs.still.then s2 fun _ _ h => h
  refine ⟨H2.n, H2.push (.cells [v5] T.ref24_Model true), (d_ref24_Of _ H (r := (.tuple #[.pointer (some ⟨H2.n, 0, none⟩), .int .i64 0], _)) ?_).trans (congrArg some (tidy_mem rfl)), ?_, s12.push _, by omega, ?_⟩
  · obtain ⟨a, n, c, hv5⟩ : ∃ a n c, v5 = .slice a n c := by
      rcases ho5 with ⟨_, h⟩ | ⟨_, a, h, _⟩ | ⟨b, o, c, xs, h, _⟩ <;> exact ⟨_, _, _, h⟩
    subst hv5
    simp (disch := first | with_reducible rfl | assumption | omega | rfl | (simp only [go_sem]; first | done | omega)) only [go_sem, ↓reduceIte, reduceCtorEq, Nat.reduceEqDiff, Nat.reduceAdd, Nat.reduceSub, Nat.reduceMul, Nat.reduceDiv, Nat.reduceMod, Nat.reduceLeDiff, Nat.reduceLT, Nat.reduceBEq, Int.reduceEq, Int.reduceBEq, Int.reduceBNe, Int.reduceLT, Int.reduceLE, Int.reduceAdd, Int.reduceSub, Int.reduceNeg, Int.reduceToNat, Int.reducePow, Nat.reducePow, Int.reduceMul, Int.reduceDiv, ↓s_ref24_Of]
    refine hloop.trans ?_
    simp (disch := first | with_reducible rfl | assumption | omega | rfl | (simp only [go_sem]; first | done | omega)) only [go_sem, ↓reduceIte, reduceCtorEq, Nat.reduceEqDiff, Nat.reduceAdd, Nat.reduceSub, Nat.reduceMul, Nat.reduceDiv, Nat.reduceMod, Nat.reduceLeDiff, Nat.reduceLT, Nat.reduceBEq, Int.reduceEq, Int.reduceBEq, Int.reduceBNe, Int.reduceLT, Int.reduceLE, Int.reduceAdd, Int.reduceSub, Int.reduceNeg, Int.reduceToNat, Int.reducePow, Nat.reducePow, Int.reduceMul, Int.reduceDiv, hlen, decide_eq_false hgt, happ]
  · refine ⟨v5, push_f_eq rfl, by simp, ho5.still ((Fr.refl _).push _), fun h => by have := ho5.blk h; omega⟩
  · intro c h
    rcases h with h | ⟨u, hu, hb⟩
    · omega
    · rw [push_f_eq rfl] at hu
      cases hu
      have := hn5 c hb
      omega

end Go.Proofs.Ytlagijfkkpbbnaa

/-
  Chapter 24: the map and the reference, side by side.
  Conditions: none. By an AI agent.
-/
set_option maxRecDepth 10000
set_option linter.unusedSimpArgs false
set_option linter.unusedVariables false
namespace Go.Proofs.Ytlagijfkkpbbnaa
open Go Eng

theorem MdlT.blk {t : TypeId} {H : AHeap} {b : Nat} {l : List Pr} (r : MdlT t H b l) {c : Nat} (h : MBT t H b c) : c < H.n := by
  obtain ⟨v, h1, h2, h3, h4⟩ := r
  rcases h with h | ⟨u, hu, hb⟩
  · omega
  · rw [h1] at hu; cases hu; exact h3.blk hb

/-- A call that works on one map leaves another one. -/
theorem sep {t1 t2 : TypeId} {H H' : AHeap} {b1 b2 : Nat} {l2 : List Pr} (r2 : MdlT t2 H b2 l2) (dis : ∀ c, MBT t1 H b1 c → ¬ MBT t2 H b2 c) (u : UpT t1 H b1 H') :
    MdlT t2 H' b2 l2 ∧ (∀ c, MBT t2 H' b2 c → MBT t2 H b2 c) ∧ ∀ c, MBT t1 H' b1 c → ¬ MBT t2 H' b2 c := by
  have hb2 : ¬ MBT t1 H b1 b2 := fun h => dis b2 h (.inl rfl)
  have hlt : b2 < H.n := r2.blk (.inl rfl)
  have hf : H'.f b2 = H.f b2 := u.fr.f hlt hb2
  have hm : ∀ c, MBT t2 H' b2 c → MBT t2 H b2 c := fun c h => h.imp id fun ⟨v, hv, hb⟩ => ⟨v, by rw [← hf]; exact hv, hb⟩
  refine ⟨r2.keep u.fr hb2 fun v hv c hc h => dis c h (.inr ⟨v, hv, hc⟩), hm, fun c h1 h2 => ?_⟩
  have h2 := hm c h2
  rcases u.mb c h1 with h | h
  · exact dis c h h2
  · have := r2.blk h2; omega

/-- The map and the reference have the same pairs; what there was before is as it was. -/
structure Two (Hz H : AHeap) (bm bx : Nat) (l : List Pr) : Prop where
  ok : Ok H
  base : Still Hz H
  m : Mdl H bm l
  x : MdlR H bx l
  dis : ∀ c, MB H bm c → ¬ MBT T.ref24_Model H bx c
  lom : ∀ c, MB H bm c → Hz.n ≤ c
  lox : ∀ c, MBT T.ref24_Model H bx c → Hz.n ≤ c
  srt : Srt l
  len : l.length ≤ 20000

theorem MBT_still {t : TypeId} {H H' : AHeap} {b : Nat} {l : List Pr} (r : MdlT t H b l) (s : Still H H') {c : Nat} (h : MBT t H' b c) : MBT t H b c := by
  obtain ⟨v, h1, h2, _⟩ := r
  exact h.imp id fun ⟨u, hu, hb⟩ => ⟨u, by rw [← s.f h2 (fun h => h)]; exact hu, hb⟩

theorem Two.still {Hz H H' : AHeap} {bm bx : Nat} {l : List Pr} (t : Two Hz H bm bx l) (s : Still H H') : Two Hz H' bm bx l :=
  ⟨t.ok.fr s, t.base.still.then s fun _ _ h => h, t.m.still s, t.x.still s, fun c h1 h2 => t.dis c (MBT_still t.m s h1) (MBT_still t.x s h2), fun c h => t.lom c (MBT_still t.m s h), fun c h => t.lox c (MBT_still t.x s h), t.srt, t.len⟩

/-- One call of each, which make the same of their pairs. -/
theorem Two.step {Hz H H1 H2 : AHeap} {bm bx : Nat} {l l' : List Pr} (t : Two Hz H bm bx l) (m1 : Mdl H1 bm l') (u1 : Up H bm H1) (x2 : MdlR H2 bx l') (u2 : UpT T.ref24_Model H1 bx H2) (hs : Srt l') (hl : l'.length ≤ 20000) : Two Hz H2 bm bx l' := by
  obtain ⟨x1, hx1, d1⟩ := sep t.x t.dis u1
  obtain ⟨m2, hm2, d2⟩ := sep m1 (fun c h1 h2 => d1 c h2 h1) u2
  have b1 : Still Hz H1 := t.base.still.then u1.fr fun c hc h => by have := t.lom c h; omega
  have lox1 : ∀ c, MBT T.ref24_Model H1 bx c → Hz.n ≤ c := fun c h => t.lox c (hx1 c h)
  have n0 : Hz.n ≤ H.n := t.base.n
  have n1 : Hz.n ≤ H1.n := b1.n
  refine ⟨(t.ok.fr u1.fr).fr u2.fr, b1.still.then u2.fr fun c hc h => by have := lox1 c h; omega, m2, x2, fun c h1 h2 => d2 c h2 h1, fun c h => ?_, fun c h => ?_, hs, hl⟩
  · rcases u1.mb c (hm2 c h) with h | h
    · exact t.lom c h
    · omega
  · rcases u2.mb c h with h | h
    · exact lox1 c h
    · omega
/-- The reference is as it was behind a call of the map. -/
theorem Two.midx {Hz H H1 : AHeap} {bm bx : Nat} {l : List Pr} (t : Two Hz H bm bx l) (u1 : Up H bm H1) : MdlR H1 bx l := (sep t.x t.dis u1).1

/-- What Put answers and makes of the pairs. -/
def putE (l : List Pr) (a : Pr) : Int × List Pr := if chk a.key [a.value] = 0 then putP l a (posP l a.key) else (chk a.key [a.value], l)
def insertE (l : List Pr) (a : Pr) : Int × List Pr := if chk a.key [a.value] = 0 then insertP l a (posP l a.key) else (chk a.key [a.value], l)
def swapE (l : List Pr) (key old new : ByteArray) : Int × List Pr := if chk key [old, new] = 0 then swapP l key old new (posP l key) else (chk key [old, new], l)
def getE (l : List Pr) (key : ByteArray) : Value := if chk key [] = 0 then getP l key (posP l key) else .tuple #[.string (mk []), .int .i64 (chk key [])]
def delE (l : List Pr) (key : ByteArray) : List Pr := if chk key [] = 0 then (if isP l key (posP l key) = true then l.take (posP l key) ++ l.drop (posP l key + 1) else l) else l

theorem q_putM (b : Nat) (l : List Pr) (a : Pr) (H : AHeap) (ok : Ok H) (r : Mdl H b l) (hs : Srt l) (hl : l.length ≤ 20000) :
    ∃ H', CC F.model_Model_Put [.pointer (some ⟨b, 0, none⟩), .string a.key, .string a.value] H = some (.int .i64 (putE l a).1, H') ∧ Mdl H' b (putE l a).2 ∧ Up H b H' := by
  unfold putE
  split
  · rename_i h; exact q_Put b l a H ok r hl _ (posP_pos hs a.key) h
  · rename_i h; exact ⟨H, q_Put_bad b l a H r h, r, Up.refl H b⟩
theorem q_putR (b : Nat) (l : List Pr) (a : Pr) (H : AHeap) (ok : Ok H) (r : MdlR H b l) (hs : Srt l) (hl : l.length ≤ 20000) :
    ∃ H', CC F.ref24_Model_Put [.pointer (some ⟨b, 0, none⟩), .string a.key, .string a.value] H = some (.int .i64 (putE l a).1, H') ∧ MdlR H' b (putE l a).2 ∧ UpT T.ref24_Model H b H' := by
  unfold putE
  split
  · rename_i h; exact q_RPut b l a H ok r hs hl h
  · rename_i h; exact ⟨H, q_RPut_bad b a H h, r, UpT.refl H b⟩
theorem q_insM (b : Nat) (l : List Pr) (a : Pr) (H : AHeap) (ok : Ok H) (r : Mdl H b l) (hs : Srt l) (hl : l.length ≤ 20000) :
    ∃ H', CC F.model_Model_Insert [.pointer (some ⟨b, 0, none⟩), .string a.key, .string a.value] H = some (.int .i64 (insertE l a).1, H') ∧ Mdl H' b (insertE l a).2 ∧ Up H b H' := by
  unfold insertE
  split
  · rename_i h; exact q_Insert b l a H ok r hl _ (posP_pos hs a.key) h
  · rename_i h; exact ⟨H, q_Insert_bad b l a H r h, r, Up.refl H b⟩
theorem q_insR (b : Nat) (l : List Pr) (a : Pr) (H : AHeap) (ok : Ok H) (r : MdlR H b l) (hs : Srt l) (hl : l.length ≤ 20000) :
    ∃ H', CC F.ref24_Model_Insert [.pointer (some ⟨b, 0, none⟩), .string a.key, .string a.value] H = some (.int .i64 (insertE l a).1, H') ∧ MdlR H' b (insertE l a).2 ∧ UpT T.ref24_Model H b H' := by
  unfold insertE
  split
  · rename_i h; exact q_RInsert b l a H ok r hs hl h
  · rename_i h; exact ⟨H, q_RInsert_bad b a H h, r, UpT.refl H b⟩
theorem q_swapM (b : Nat) (l : List Pr) (key old new : ByteArray) (H : AHeap) (ok : Ok H) (r : Mdl H b l) (hs : Srt l) (hl : l.length ≤ 20000) :
    ∃ H', CC F.model_Model_Swap [.pointer (some ⟨b, 0, none⟩), .string key, .string old, .string new] H = some (.int .i64 (swapE l key old new).1, H') ∧ Mdl H' b (swapE l key old new).2 ∧ Up H b H' := by
  unfold swapE
  split
  · rename_i h; exact q_Swap b l key old new H ok r hl _ (posP_pos hs key) h
  · rename_i h; exact ⟨H, q_Swap_bad b l key old new H r h, r, Up.refl H b⟩
theorem q_swapR (b : Nat) (l : List Pr) (key old new : ByteArray) (H : AHeap) (ok : Ok H) (r : MdlR H b l) (hs : Srt l) (hl : l.length ≤ 20000) :
    ∃ H', CC F.ref24_Model_Swap [.pointer (some ⟨b, 0, none⟩), .string key, .string old, .string new] H = some (.int .i64 (swapE l key old new).1, H') ∧ MdlR H' b (swapE l key old new).2 ∧ UpT T.ref24_Model H b H' := by
  unfold swapE
  split
  · rename_i h; exact q_RSwap b l key old new H ok r hs hl h
  · rename_i h; exact ⟨H, q_RSwap_bad b key old new H h, r, UpT.refl H b⟩
theorem q_getM (b : Nat) (l : List Pr) (key : ByteArray) (H : AHeap) (r : Mdl H b l) (hs : Srt l) (hl : l.length ≤ 20000) : CC F.model_Model_Get [.pointer (some ⟨b, 0, none⟩), .string key] H = some (getE l key, H) := by
  unfold getE
  split
  · rename_i h; exact q_Get b l key H r (by omega) _ (posP_pos hs key) h
  · rename_i h; exact q_Get_bad b key H h
theorem q_getR (b : Nat) (l : List Pr) (key : ByteArray) (H : AHeap) (r : MdlR H b l) (hs : Srt l) (hl : l.length ≤ 20000) : CC F.ref24_Model_Get [.pointer (some ⟨b, 0, none⟩), .string key] H = some (getE l key, H) := by
  unfold getE
  split
  · rename_i h; exact q_RGet b l key H r hs (by omega) h
  · rename_i h; exact q_RGet_bad b key H h
theorem q_delM (b : Nat) (l : List Pr) (key : ByteArray) (H : AHeap) (ok : Ok H) (r : Mdl H b l) (hs : Srt l) (hl : l.length ≤ 20000) :
    ∃ H', CC F.model_Model_Delete [.pointer (some ⟨b, 0, none⟩), .string key] H = some (getE l key, H') ∧ Mdl H' b (delE l key) ∧ Up H b H' := by
  unfold getE delE
  by_cases h : chk key [] = 0
  · rw [if_pos h, if_pos h]; exact q_Delete b l key H ok r hl _ (posP_pos hs key) h
  · rw [if_neg h, if_neg h]; exact ⟨H, q_Delete_bad b key H h, r, Up.refl H b⟩
theorem q_delR (b : Nat) (l : List Pr) (key : ByteArray) (H : AHeap) (ok : Ok H) (r : MdlR H b l) (hs : Srt l) (hl : l.length ≤ 20000) :
    ∃ H', CC F.ref24_Model_Delete [.pointer (some ⟨b, 0, none⟩), .string key] H = some (getE l key, H') ∧ MdlR H' b (delE l key) ∧ UpT T.ref24_Model H b H' := by
  unfold getE delE
  by_cases h : chk key [] = 0
  · rw [if_pos h, if_pos h]; exact q_RDelete b l key H ok r hs hl h
  · rw [if_neg h, if_neg h]; exact ⟨H, q_RDelete_bad b key H h, r, UpT.refl H b⟩

theorem srt_putE {l : List Pr} (hs : Srt l) (a : Pr) : Srt (putE l a).2 := by
  unfold putE
  split
  · exact srt_put hs a
  · exact hs
theorem len_putE {l : List Pr} (hl : l.length ≤ 20000) (a : Pr) : (putE l a).2.length ≤ 20000 := by
  unfold putE
  split
  · exact len_put hl a
  · exact hl
theorem srt_insertE {l : List Pr} (hs : Srt l) (a : Pr) : Srt (insertE l a).2 := by
  unfold insertE
  split
  · exact srt_insert hs a
  · exact hs
theorem len_insertE {l : List Pr} (hl : l.length ≤ 20000) (a : Pr) : (insertE l a).2.length ≤ 20000 := by
  unfold insertE
  split
  · exact len_insert hl a
  · exact hl
theorem srt_swapE {l : List Pr} (hs : Srt l) (k o n : ByteArray) : Srt (swapE l k o n).2 := by
  unfold swapE
  split
  · exact srt_swap hs k o n
  · exact hs
theorem len_swapE {l : List Pr} (hl : l.length ≤ 20000) (k o n : ByteArray) : (swapE l k o n).2.length ≤ 20000 := by
  unfold swapE
  split
  · exact len_swap hl k o n
  · exact hl
theorem srt_delE {l : List Pr} (hs : Srt l) (k : ByteArray) : Srt (delE l k) := by
  unfold delE
  split
  · split
    · exact srt_del hs _
    · exact hs
  · exact hs
theorem len_delE {l : List Pr} (hl : l.length ≤ 20000) (k : ByteArray) : (delE l k).length ≤ 20000 := by
  unfold delE
  split
  · split
    · simp; omega
    · exact hl
  · exact hl

/-! ### Ranges -/
theorem endP_pos {l : List Pr} (hs : Srt l) (st : ByteArray) : (bl st = [] ∧ endP l st = l.length) ∨ (¬ bl st = [] ∧ PosP l st (endP l st)) := by
  unfold endP
  by_cases h : bl st = []
  · rw [if_pos h]; exact .inl ⟨h, rfl⟩
  · rw [if_neg h]; exact .inr ⟨h, posP_pos hs st⟩

/-- The error and the pairs of a range. -/
def rangeE (l : List Pr) (sf st : ByteArray) (n : Int) : Int × List Pr :=
  if n < 1 ∨ 32 < n then (2, []) else if 24 < ((bl sf).length : Int) ∨ 24 < ((bl st).length : Int) then (5, []) else (0, rangeP l (posP l sf) (endP l st) n.toNat)

theorem rangeE_len (l : List Pr) (sf st : ByteArray) (n : Int) : (rangeE l sf st n).2.length ≤ l.length := by
  unfold rangeE
  split
  · simp
  · split
    · simp
    · unfold rangeP; simp; omega

theorem q_rangeM (b : Nat) (l : List Pr) (sf st : ByteArray) (n : Int) (H : AHeap) (r : Mdl H b l) (hs : Srt l) (hl : l.length ≤ 20000) :
    ∃ v' H', CC F.model_Model_Range [.pointer (some ⟨b, 0, none⟩), .string sf, .string st, .int .i64 n] H = some (.tuple #[v', .int .i64 (rangeE l sf st n).1], H') ∧ Own EPr H' T.api_Pair v' (rangeE l sf st n).2 ∧ Still H H' := by
  unfold rangeE
  split
  · rename_i h; exact ⟨_, H, q_Range_arg b sf st n H h, .inl ⟨rfl, rfl⟩, Fr.refl H⟩
  · rename_i h
    split
    · rename_i h2; exact ⟨_, H, q_Range_long b sf st n H (by omega) (by omega) h2, .inl ⟨rfl, rfl⟩, Fr.refl H⟩
    · rename_i h2
      obtain ⟨k, rfl⟩ : ∃ k : Nat, n = (k : Int) := ⟨n.toNat, by omega⟩
      exact q_Range b l sf st k H r hl _ _ (posP_pos hs sf) (endP_pos hs st) (by omega) (by omega) (by omega) (by omega)
theorem q_rangeR (b : Nat) (l : List Pr) (sf st : ByteArray) (n : Int) (H : AHeap) (r : MdlR H b l) (hs : Srt l) (hl : l.length ≤ 20000) :
    ∃ v' H', CC F.ref24_Model_Range [.pointer (some ⟨b, 0, none⟩), .string sf, .string st, .int .i64 n] H = some (.tuple #[v', .int .i64 (rangeE l sf st n).1], H') ∧ Rd EPr H' v' (rangeE l sf st n).2 ∧ Still H H' := by
  unfold rangeE
  split
  · rename_i h; exact ⟨_, H, q_RRange_arg b sf st n H h, .inl ⟨rfl, rfl⟩, Fr.refl H⟩
  · rename_i h
    split
    · rename_i h2; exact ⟨_, H, q_RRange_long b sf st n H (by omega) (by omega) h2, .inl ⟨rfl, rfl⟩, Fr.refl H⟩
    · rename_i h2
      obtain ⟨k, rfl⟩ : ∃ k : Nat, n = (k : Int) := ⟨n.toNat, by omega⟩
      exact q_RRange b l sf st k H r hs hl (by omega) (by omega) (by omega) (by omega)

theorem q_ranges (b : Nat) (l w : List Pr) (sf st : ByteArray) (n e : Int) (v : Value) (H : AHeap) (r : Mdl H b l) (hs : Srt l) (hl : l.length ≤ 20000) (hw : Rd EPr H v w) (h1 : w = (rangeE l sf st n).2) (h2 : e = (rangeE l sf st n).1) :
    CC F.law_ranges [.pointer (some ⟨b, 0, none⟩), .string sf, .string st, .int .i64 n, v, .int .i64 e] H = some (.bool true, H) := by
  obtain ⟨v', H', hr, ho, hst⟩ := q_rangeM b l sf st n H r hs hl
  have hlen := rangeE_len l sf st n
  have hsame := q_RSame (rangeE l sf st n).2 w v' v H' ho.rd (hw.still hst) (by omega)
  rw [decide_eq_true h1.symm] at hsame
  subst h2
  generalize (rangeE l sf st n).1 = e at hr
  apply pure_of _ (d_law_ranges _ _ _ _ _ _ H) rfl
  rotate_left 2
  · simp (disch := first | with_reducible rfl | assumption | omega | rfl | (simp only [go_sem]; first | done | omega)) only [go_sem, ↓reduceIte, reduceCtorEq, Nat.reduceEqDiff, Nat.reduceAdd, Nat.reduceSub, Nat.reduceMul, Nat.reduceDiv, Nat.reduceMod, Nat.reduceLeDiff, Nat.reduceLT, Nat.reduceBEq, Int.reduceEq, Int.reduceBEq, Int.reduceBNe, Int.reduceLT, Int.reduceLE, Int.reduceAdd, Int.reduceSub, Int.reduceNeg, Int.reduceToNat, Int.reducePow, Nat.reducePow, Int.reduceMul, Int.reduceDiv, ↓s_law_ranges, enterK_eq hr, enterK_eq hsame]
    rfl
  · exact hst

end Go.Proofs.Ytlagijfkkpbbnaa

/-
  Chapter 24: gets, deletes, ends, alike, does.
  Conditions: none. By an AI agent.
-/
set_option maxRecDepth 10000
set_option linter.unusedSimpArgs false
set_option linter.unusedVariables false
namespace Go.Proofs.Ytlagijfkkpbbnaa
open Go Eng

/-- A call. -/
structure Act where
  what : Int
  key : ByteArray
  value : ByteArray
  old : ByteArray
  limit : Int
def EAct : Enc Act := ⟨5, fun a => [.int .i64 a.what, .string a.key, .string a.value, .string a.old, .int .i64 a.limit], fun _ => rfl, by decide, fun _ => rfl⟩

def shortA (a : Act) : Bool := decide (((bl a.key).length : Int) ≤ 60) && decide (((bl a.value).length : Int) ≤ 60) && decide (((bl a.old).length : Int) ≤ 60)
@[go_sem] theorem xload_Act {a : Value} {H : AHeap} : xload Try.prog T.law_Act a H = ldN 5 H a := by kernel_rfl

theorem q_short (a : Act) (H : AHeap) : CC F.law_short [.agg #[.int .i64 a.what, .string a.key, .string a.value, .string a.old, .int .i64 a.limit]] H = some (.bool (shortA a), H) := by
  unfold shortA
  by_cases h1 : ((bl a.key).length : Int) ≤ 60
  · by_cases h2 : ((bl a.value).length : Int) ≤ 60
    · apply pure_of _ (d_law_short _ H) rfl
      rotate_left 2
      · simp (disch := first | with_reducible rfl | assumption | omega | rfl | (simp only [go_sem]; first | done | omega)) only [go_sem, ↓reduceIte, reduceCtorEq, Nat.reduceEqDiff, Nat.reduceAdd, Nat.reduceSub, Nat.reduceMul, Nat.reduceDiv, Nat.reduceMod, Nat.reduceLeDiff, Nat.reduceLT, Nat.reduceBEq, Int.reduceEq, Int.reduceBEq, Int.reduceBNe, Int.reduceLT, Int.reduceLE, Int.reduceAdd, Int.reduceSub, Int.reduceNeg, Int.reduceToNat, Int.reducePow, Nat.reducePow, Int.reduceMul, Int.reduceDiv, ↓s_law_short, decide_eq_true h1, decide_eq_true h2]
        rfl
      · (repeat (first | exact Fr.refl _ | refine Fr.push ?_ _ | refine Fr.set ?_ _ _ (by intro h; first | omega | (simp only [go_sem] at h; omega))))
    · apply pure_of _ (d_law_short _ H) rfl
      rotate_left 2
      · simp (disch := first | with_reducible rfl | assumption | omega | rfl | (simp only [go_sem]; first | done | omega)) only [go_sem, ↓reduceIte, reduceCtorEq, Nat.reduceEqDiff, Nat.reduceAdd, Nat.reduceSub, Nat.reduceMul, Nat.reduceDiv, Nat.reduceMod, Nat.reduceLeDiff, Nat.reduceLT, Nat.reduceBEq, Int.reduceEq, Int.reduceBEq, Int.reduceBNe, Int.reduceLT, Int.reduceLE, Int.reduceAdd, Int.reduceSub, Int.reduceNeg, Int.reduceToNat, Int.reducePow, Nat.reducePow, Int.reduceMul, Int.reduceDiv, ↓s_law_short, decide_eq_true h1, decide_eq_false h2]
        rfl
      · (repeat (first | exact Fr.refl _ | refine Fr.push ?_ _ | refine Fr.set ?_ _ _ (by intro h; first | omega | (simp only [go_sem] at h; omega))))
  · apply pure_of _ (d_law_short _ H) rfl
    rotate_left 2
    · simp (disch := first | with_reducible rfl | assumption | omega | rfl | (simp only [go_sem]; first | done | omega)) only [go_sem, ↓reduceIte, reduceCtorEq, Nat.reduceEqDiff, Nat.reduceAdd, Nat.reduceSub, Nat.reduceMul, Nat.reduceDiv, Nat.reduceMod, Nat.reduceLeDiff, Nat.reduceLT, Nat.reduceBEq, Int.reduceEq, Int.reduceBEq, Int.reduceBNe, Int.reduceLT, Int.reduceLE, Int.reduceAdd, Int.reduceSub, Int.reduceNeg, Int.reduceToNat, Int.reducePow, Nat.reducePow, Int.reduceMul, Int.reduceDiv, ↓s_law_short, decide_eq_false h1]
      rfl
    · (repeat (first | exact Fr.refl _ | refine Fr.push ?_ _ | refine Fr.set ?_ _ _ (by intro h; first | omega | (simp only [go_sem] at h; omega))))

theorem getE_shape (l : List Pr) (key : ByteArray) : ∃ s e, getE l key = .tuple #[.string s, .int .i64 e] := by
  unfold getE getP
  split
  · split <;> exact ⟨_, _, rfl⟩
  · exact ⟨_, _, rfl⟩

theorem q_gets (b : Nat) (l : List Pr) (key s : ByteArray) (e : Int) (H : AHeap) (r : Mdl H b l) (hs : Srt l) (hl : l.length ≤ 20000) (h : getE l key = .tuple #[.string s, .int .i64 e]) :
    CC F.law_gets [.pointer (some ⟨b, 0, none⟩), .string key, .string s, .int .i64 e] H = some (.bool true, H) := by
  have hg := q_getM b l key H r hs hl
  rw [h] at hg
  apply pure_of _ (d_law_gets _ _ _ _ H) rfl
  rotate_left 2
  · simp (disch := first | with_reducible rfl | assumption | omega | rfl | (simp only [go_sem]; first | done | omega)) only [go_sem, ↓reduceIte, reduceCtorEq, Nat.reduceEqDiff, Nat.reduceAdd, Nat.reduceSub, Nat.reduceMul, Nat.reduceDiv, Nat.reduceMod, Nat.reduceLeDiff, Nat.reduceLT, Nat.reduceBEq, Int.reduceEq, Int.reduceBEq, Int.reduceBNe, Int.reduceLT, Int.reduceLE, Int.reduceAdd, Int.reduceSub, Int.reduceNeg, Int.reduceToNat, Int.reducePow, Nat.reducePow, Int.reduceMul, Int.reduceDiv, ↓s_law_gets, enterK_eq hg]
    rfl
  · (repeat (first | exact Fr.refl _ | refine Fr.push ?_ _ | refine Fr.set ?_ _ _ (by intro h; first | omega | (simp only [go_sem] at h; omega))))

theorem q_deletes (b : Nat) (l : List Pr) (key s : ByteArray) (e : Int) (H : AHeap) (ok : Ok H) (r : Mdl H b l) (hs : Srt l) (hl : l.length ≤ 20000) (h : getE l key = .tuple #[.string s, .int .i64 e]) :
    ∃ H', CC F.law_deletes [.pointer (some ⟨b, 0, none⟩), .string key, .string s, .int .i64 e] H = some (.bool true, H') ∧ Mdl H' b (delE l key) ∧ Up H b H' := by
  obtain ⟨H', hd, hm, hu⟩ := q_delM b l key H ok r hs hl
  rw [h] at hd
  obtain ⟨H'', ht, hm', hu'⟩ := Mdl.tidied (v := .bool true) ok r hm hu
  refine ⟨H'', (d_law_deletes _ _ _ _ H (r := (.bool true, H')) ?_).trans (congrArg some ht), hm', hu'⟩
  simp (disch := first | with_reducible rfl | assumption | omega | rfl | (simp only [go_sem]; first | done | omega)) only [go_sem, ↓reduceIte, reduceCtorEq, Nat.reduceEqDiff, Nat.reduceAdd, Nat.reduceSub, Nat.reduceMul, Nat.reduceDiv, Nat.reduceMod, Nat.reduceLeDiff, Nat.reduceLT, Nat.reduceBEq, Int.reduceEq, Int.reduceBEq, Int.reduceBNe, Int.reduceLT, Int.reduceLE, Int.reduceAdd, Int.reduceSub, Int.reduceNeg, Int.reduceToNat, Int.reducePow, Nat.reducePow, Int.reduceMul, Int.reduceDiv, ↓s_law_deletes, enterK_eq hd]

theorem q_ends (b : Nat) (l : List Pr) (lo hi : Pr) (e : Int) (H : AHeap) (r : Mdl H b l) (hl : l.length ≤ 20000) (h1 : endV l.head? = .tuple #[.agg #[.string lo.key, .string lo.value], .int .i64 e]) (h2 : endV l.getLast? = .tuple #[.agg #[.string hi.key, .string hi.value], .int .i64 e]) :
    CC F.law_ends [.pointer (some ⟨b, 0, none⟩), .agg #[.string lo.key, .string lo.value], .agg #[.string hi.key, .string hi.value], .int .i64 e] H = some (.bool true, H) := by
  generalize hH1 : H.push (.cells [.string lo.key, .string lo.value] T.api_Pair true) = H1
  have s1 : Still H H1 := by rw [← hH1]; exact (Fr.refl H).push _
  have n1 : H1.n = H.n + 1 := by rw [← hH1]; rfl
  have f1 : H1.f H.n = .cells [.string lo.key, .string lo.value] T.api_Pair true := by rw [← hH1]; exact push_f_eq rfl
  generalize hH2 : H1.push (.cells [.string hi.key, .string hi.value] T.api_Pair true) = H2
  have s2 : Still H1 H2 := by rw [← hH2]; exact (Fr.refl H1).push _
  have n2 : H2.n = H1.n + 1 := by rw [← hH2]; rfl
  have f2 : H2.f H1.n = .cells [.string hi.key, .string hi.value] T.api_Pair true := by rw [← hH2]; exact push_f_eq rfl
  have f21 : H2.f H.n = .cells [.string lo.key, .string lo.value] T.api_Pair true := by rw [s2.f (by omega) (fun h => h), f1]
  have hmin := q_Min b l H2 ((r.still s1).still s2)
  rw [h1] at hmin
  generalize hH3 : (H2.push (.cells [.string (mk []), .string (mk [])] T.api_Pair true)).set H2.n (.cells [.string lo.key, .string lo.value] T.api_Pair true) = H3
  have s3 : Still H2 H3 := by rw [← hH3]; exact Fr.set ((Fr.refl H2).push _) _ _ (fun h => by omega)
  have n3 : H3.n = H2.n + 1 := by rw [← hH3]; rfl
  have f3 : H3.f H2.n = .cells [.string lo.key, .string lo.value] T.api_Pair true := by rw [← hH3]; exact set_f_eq
  have f31 : H3.f H1.n = .cells [.string hi.key, .string hi.value] T.api_Pair true := by rw [s3.f (by omega) (fun h => h), f2]
  have f30 : H3.f H.n = .cells [.string lo.key, .string lo.value] T.api_Pair true := by rw [s3.f (by omega) (fun h => h), f21]
  have hmax := q_Max b l (by omega) H3 (((r.still s1).still s2).still s3)
  rw [h2] at hmax
  have st : Still H H3 := ((s1.then s2 fun _ _ h => h).still.then s3 fun _ _ h => h)
  apply pure_of _ (d_law_ends _ _ _ _ H) rfl
  rotate_left 2
  · simp (disch := first | with_reducible rfl | assumption | omega | rfl | (simp only [go_sem]; first | done | omega)) only [go_sem, ↓reduceIte, reduceCtorEq, Nat.reduceEqDiff, Nat.reduceAdd, Nat.reduceSub, Nat.reduceMul, Nat.reduceDiv, Nat.reduceMod, Nat.reduceLeDiff, Nat.reduceLT, Nat.reduceBEq, Int.reduceEq, Int.reduceBEq, Int.reduceBNe, Int.reduceLT, Int.reduceLE, Int.reduceAdd, Int.reduceSub, Int.reduceNeg, Int.reduceToNat, Int.reducePow, Nat.reducePow, Int.reduceMul, Int.reduceDiv, ↓s_law_ends, hH1, hH2, enterK_eq hmin, hH3, enterK_eq hmax, f3, f30, f31, pair_eq']
    rfl
  · exact Fr.set (st.push _) _ _ (fun h => by have := st.n; omega)

/-! ### alike -/
theorem l_alike (bm bx : Nat) (Hz : AHeap) : ∀ (d i : Nat) (m : List Pr) (v : Value) (H : AHeap), m.length - i = d → i ≤ m.length → m.length ≤ 20000 → Still Hz H → Own EPr H T.api_Pair v m → (∀ c, blockOf v = some c → Hz.n ≤ c) → ∃ H', Still Hz H' ∧ ∀ K : K,
    l_law_alike_0 (.pointer (some ⟨bm, 0, none⟩)) (.pointer (some ⟨bx, 0, none⟩)) v (.int .i64 i) H (blkK [0, 1] 0 K) = K .normal [(0, .pointer (some ⟨bm, 0, none⟩)), (1, .pointer (some ⟨bx, 0, none⟩))] H'
  | 0, i, m, v, H, hd, hi, hl, hs, ho, hb => by
    have hlt : ¬ (i : Int) < (m.length : Int) := by omega
    have hlen := ho.rd.lenS
    refine ⟨H, hs, fun K => ?_⟩
    rw [r_law_alike_0]
    simp (disch := first | with_reducible rfl | assumption | omega | rfl | (simp only [go_sem]; first | done | omega)) only [go_sem, ↓reduceIte, reduceCtorEq, Nat.reduceEqDiff, Nat.reduceAdd, Nat.reduceSub, Nat.reduceMul, Nat.reduceDiv, Nat.reduceMod, Nat.reduceLeDiff, Nat.reduceLT, Nat.reduceBEq, Int.reduceEq, Int.reduceBEq, Int.reduceBNe, Int.reduceLT, Int.reduceLE, Int.reduceAdd, Int.reduceSub, Int.reduceNeg, Int.reduceToNat, Int.reducePow, Nat.reducePow, Int.reduceMul, Int.reduceDiv, ↓s_law_alike_b0, hlen, hlt]
  | d + 1, i, m, v, H, hd, hi, hl, hs, ho, hb => by
    have h : i < m.length := by omega
    have hlt : (i : Int) < (m.length : Int) := by omega
    have hlen := ho.rd.lenS
    obtain ⟨b, o, H1, hix, hw, ho1, hbv, hbn, hn1, fr1⟩ := ho.writeV h (mk [111, 116, 104, 101, 114])
    have s1 : Still Hz H1 := hs.still.then fr1 fun c hc h => by have := hb b hbv; omega
    obtain ⟨H', s', ih⟩ := l_alike bm bx Hz d (i + 1) _ v H1 (by simp; omega) (by simp; omega) (by simpa using hl) s1 ho1 hb
    refine ⟨H', s', fun K => ?_⟩
    have ih := ih K
    rw [Int.natCast_add] at ih
    rw [r_law_alike_0]
    simp (disch := first | with_reducible rfl | assumption | omega | rfl | (simp only [go_sem]; first | done | omega)) only [go_sem, ↓reduceIte, reduceCtorEq, Nat.reduceEqDiff, Nat.reduceAdd, Nat.reduceSub, Nat.reduceMul, Nat.reduceDiv, Nat.reduceMod, Nat.reduceLeDiff, Nat.reduceLT, Nat.reduceBEq, Int.reduceEq, Int.reduceBEq, Int.reduceBNe, Int.reduceLT, Int.reduceLE, Int.reduceAdd, Int.reduceSub, Int.reduceNeg, Int.reduceToNat, Int.reducePow, Nat.reducePow, Int.reduceMul, Int.reduceDiv, ↓s_law_alike_b0, hlen, hlt, hix, hw]
    exact ih

theorem endV_last {l : List Pr} (h : 0 < l.length) : endV l.getLast? = .tuple #[.agg #[.string (l[l.length - 1]'(by omega)).key, .string (l[l.length - 1]'(by omega)).value], .int .i64 0] := by
  rw [List.getLast?_eq_getElem?, List.getElem?_eq_getElem (by omega)]
  rfl

theorem q_alike (bm bx : Nat) (l : List Pr) (H : AHeap) (m : Mdl H bm l) (x : MdlR H bx l) (hl : l.length ≤ 20000) :
    CC F.law_alike [.pointer (some ⟨bm, 0, none⟩), .pointer (some ⟨bx, 0, none⟩)] H = some (.bool true, H) := by
  have hlen := q_Len bm l H m
  obtain ⟨vx, g1, g2, g3, g4⟩ := id x
  have hlenx := g3.rd.lenS
  obtain ⟨v1, H1, hp1, ho1, s1, hn1⟩ := q_Pairs bm l H m (by omega)
  have f1 : H1.f bx = .cells [vx] T.ref24_Model true := by rw [s1.f g2 (fun h => h), g1]
  have hs1 := q_RSame l l v1 vx H1 ho1.rd (g3.still s1).rd (by omega)
  rw [decide_eq_true rfl] at hs1
  obtain ⟨H2, s2, hloop⟩ := l_alike bm bx H l.length 0 l v1 H1 (by omega) (by omega) hl s1 ho1 hn1
  have f2 : H2.f bx = .cells [vx] T.ref24_Model true := by rw [s2.f g2 (fun h => h), g1]
  obtain ⟨v3, H3, hp3, ho3, s3, hn3⟩ := q_Pairs bm l H2 (m.still s2) (by omega)
  have s23 : Still H H3 := s2.still.then s3 fun _ _ h => h
  have f3 : H3.f bx = .cells [vx] T.ref24_Model true := by rw [s23.f g2 (fun h => h), g1]
  have hs3 := q_RSame l l v3 vx H3 ho3.rd (g3.still s23).rd (by omega)
  rw [decide_eq_true rfl] at hs3
  have hlt2 : bx < H2.n := Nat.lt_of_lt_of_le g2 s2.n
  have hver : H3.ver bx = H2.ver bx := s3.ver hlt2 (fun h => h)
  have hnn : H2.n ≤ H3.n := s3.n
  by_cases h0 : l = []
  · subst h0
    have he := q_ends bm [] ⟨mk [], mk []⟩ ⟨mk [], mk []⟩ 9 H3 (m.still s23) (by simp) rfl rfl
    have hlenx : lenS vx = some (.int .i64 0) := hlenx
    have hlen : CC F.model_Model_Len [.pointer (some ⟨bm, 0, none⟩)] H = some (.int .i64 0, H) := hlen
    apply pure_of _ (d_law_alike _ _ H) rfl
    rotate_left 2
    · simp (disch := first | with_reducible rfl | assumption | omega | rfl | (simp only [go_sem]; first | done | omega)) only [go_sem, ↓reduceIte, reduceCtorEq, Nat.reduceEqDiff, Nat.reduceAdd, Nat.reduceSub, Nat.reduceMul, Nat.reduceDiv, Nat.reduceMod, Nat.reduceLeDiff, Nat.reduceLT, Nat.reduceBEq, Int.reduceEq, Int.reduceBEq, Int.reduceBNe, Int.reduceLT, Int.reduceLE, Int.reduceAdd, Int.reduceSub, Int.reduceNeg, Int.reduceToNat, Int.reducePow, Nat.reducePow, Int.reduceMul, Int.reduceDiv, ↓s_law_alike, mp_some, enterK_eq hlen, g1, hlenx, enterK_eq hp1, f1, enterK_eq hs1]
      refine (hloop _).trans ?_
      simp (disch := first | with_reducible rfl | assumption | omega | rfl | (simp only [go_sem]; first | done | omega)) only [go_sem, ↓reduceIte, reduceCtorEq, Nat.reduceEqDiff, Nat.reduceAdd, Nat.reduceSub, Nat.reduceMul, Nat.reduceDiv, Nat.reduceMod, Nat.reduceLeDiff, Nat.reduceLT, Nat.reduceBEq, Int.reduceEq, Int.reduceBEq, Int.reduceBNe, Int.reduceLT, Int.reduceLE, Int.reduceAdd, Int.reduceSub, Int.reduceNeg, Int.reduceToNat, Int.reducePow, Nat.reducePow, Int.reduceMul, Int.reduceDiv, f2, hlenx, enterK_eq hp3, f3, enterK_eq hs3, enterK_eq he]
      rfl
    · exact s23
  · have hpos : 0 < l.length := List.length_pos_iff.2 h0
    have he := q_ends bm l (l[0]'hpos) (l[l.length - 1]'(by omega)) 0 H3 (m.still s23) hl (by cases l with | nil => exact absurd rfl h0 | cons a l => rfl) (endV_last hpos)
    obtain ⟨b1, o1, hix1, _, hc1, _⟩ := (g3.still s23).rd.ix (q := .i64) hpos
    obtain ⟨b2, o2, hix2, _, hc2, _⟩ := (g3.still s23).rd.ix (q := .i64) (show l.length - 1 < l.length by omega)
    have hix1 : ixS 2 vx (.int .i64 0) = some (.pointer (some ⟨b1, o1, none⟩)) := hix1
    have hi : ((l.length - 1 : Nat) : Int) = (l.length : Int) - 1 := by omega
    rw [hi] at hix2
    have hix2 : ixS 2 vx (.int .i64 ((l.length : Int) - 1)) = some (.pointer (some ⟨b2, o2, none⟩)) := hix2
    have hc1 : cutB (H3.f b1) o1 2 = some [.string (l[0]'hpos).key, .string (l[0]'hpos).value] := hc1
    have hc2 : cutB (H3.f b2) o2 2 = some [.string (l[l.length - 1]'(by omega)).key, .string (l[l.length - 1]'(by omega)).value] := hc2
    have hne : ¬ (l.length : Int) = 0 := by omega
    apply pure_of _ (d_law_alike _ _ H) rfl
    rotate_left 2
    · simp (disch := first | with_reducible rfl | assumption | omega | rfl | (simp only [go_sem]; first | done | omega)) only [go_sem, ↓reduceIte, reduceCtorEq, Nat.reduceEqDiff, Nat.reduceAdd, Nat.reduceSub, Nat.reduceMul, Nat.reduceDiv, Nat.reduceMod, Nat.reduceLeDiff, Nat.reduceLT, Nat.reduceBEq, Int.reduceEq, Int.reduceBEq, Int.reduceBNe, Int.reduceLT, Int.reduceLE, Int.reduceAdd, Int.reduceSub, Int.reduceNeg, Int.reduceToNat, Int.reducePow, Nat.reducePow, Int.reduceMul, Int.reduceDiv, ↓s_law_alike, mp_some, enterK_eq hlen, g1, hlenx, enterK_eq hp1, f1, enterK_eq hs1]
      refine (hloop _).trans ?_
      simp (disch := first | with_reducible rfl | assumption | omega | rfl | (simp only [go_sem]; first | done | omega)) only [go_sem, ↓reduceIte, reduceCtorEq, Nat.reduceEqDiff, Nat.reduceAdd, Nat.reduceSub, Nat.reduceMul, Nat.reduceDiv, Nat.reduceMod, Nat.reduceLeDiff, Nat.reduceLT, Nat.reduceBEq, Int.reduceEq, Int.reduceBEq, Int.reduceBNe, Int.reduceLT, Int.reduceLE, Int.reduceAdd, Int.reduceSub, Int.reduceNeg, Int.reduceToNat, Int.reducePow, Nat.reducePow, Int.reduceMul, Int.reduceDiv, f2, hlenx, decide_eq_false hne, enterK_eq hp3, f3, enterK_eq hs3, hix1, hc1, hix2, hc2, enterK_eq he]
      rfl
    · exact s23

end Go.Proofs.Ytlagijfkkpbbnaa

/-
  What a sorted list of pairs holds for a key, and how calls change it.
  Conditions: none. By an AI agent.
-/
set_option maxRecDepth 10000
set_option linter.unusedSimpArgs false
set_option linter.unusedVariables false
namespace Go.Proofs.Ytlagijfkkpbbnaa
open Go Eng

/-- The value of a key. -/
def val (l : List Pr) (k : ByteArray) : Option ByteArray := (l.find? fun a => decide (a.key = k)).map Pr.value

theorem val_none {l : List Pr} {k : ByteArray} (h : ∀ a ∈ l, ¬ a.key = k) : val l k = none := by
  unfold val
  rw [List.find?_eq_none.2 (by simpa using h)]
  rfl
theorem val_cons (a : Pr) (l : List Pr) (k : ByteArray) : val (a :: l) k = if a.key = k then some a.value else val l k := by
  unfold val
  rw [List.find?_cons]
  by_cases h : a.key = k
  · simp [h]
  · simp [h]
theorem val_append (l m : List Pr) (k : ByteArray) : val (l ++ m) k = (val l k).or (val m k) := by
  unfold val
  rw [List.find?_append]
  cases List.find? (fun a => decide (a.key = k)) l <;> rfl
theorem val_mem : ∀ {l : List Pr} (_ : Srt l) {a : Pr}, a ∈ l → val l a.key = some a.value
  | [], _, _, h => by cases h
  | b :: l, hs, a, h => by
    obtain ⟨hb, hl⟩ := List.pairwise_cons.1 hs
    rw [val_cons]
    rcases List.mem_cons.1 h with rfl | h
    · rw [if_pos rfl]
    · have := hb a h
      rw [if_neg fun he => by rw [he, cmpS_self] at this; omega]
      exact val_mem hl h

theorem val_isP {l : List Pr} (hs : Srt l) (k : ByteArray) : val l k = if isP l k (posP l k) = true then some ((l[posP l k]?).elim (mk []) Pr.value) else none := by
  by_cases h : isP l k (posP l k) = true
  · obtain ⟨hp, he⟩ := isP_eq h
    rw [if_pos h, List.getElem?_eq_getElem hp]
    have := val_mem hs (List.getElem_mem hp)
    rw [he] at this
    exact this
  · rw [if_neg h]
    refine val_none fun a ha hk => h ?_
    obtain ⟨i, hi, rfl⟩ := List.getElem_of_mem ha
    rw [← hk]
    exact isP_self hs hi
theorem getP_val {l : List Pr} (hs : Srt l) (k : ByteArray) : getP l k (posP l k) = match val l k with | some v => .tuple #[.string v, .int .i64 0] | none => .tuple #[.string (mk []), .int .i64 9] := by
  rw [val_isP hs]
  unfold getP
  split <;> rfl

theorem val_set {a : Pr} {k : ByteArray} (hk : ¬ a.key = k) : ∀ (l : List Pr) (p : Nat), (∀ h : p < l.length, l[p].key = a.key) → val (l.set p a) k = val l k
  | [], _, _ => rfl
  | b :: l, 0, h => by
    have := h (by simp)
    rw [List.set_cons_zero, val_cons, val_cons, if_neg hk, if_neg (by rw [show b.key = a.key from this]; exact hk)]
  | b :: l, p + 1, h => by
    rw [List.set_cons_succ, val_cons, val_cons, val_set hk l p fun hp => h (by simpa using hp)]
theorem val_ins {a : Pr} {k : ByteArray} (hk : ¬ a.key = k) (l : List Pr) (p : Nat) : val (l.take p ++ a :: l.drop p) k = val l k := by
  rw [val_append, val_cons, if_neg hk, ← val_append, List.take_append_drop]
theorem val_del {l : List Pr} {k : ByteArray} {p : Nat} (hp : p < l.length) (hk : ¬ l[p].key = k) : val (l.take p ++ l.drop (p + 1)) k = val l k := by
  have e : l = l.take p ++ l[p] :: l.drop (p + 1) := by rw [← List.drop_eq_getElem_cons hp, List.take_append_drop]
  have h2 : val l k = val (l.take p ++ l[p] :: l.drop (p + 1)) k := by rw [← e]
  rw [h2, val_append, val_append, val_cons, if_neg hk]
theorem val_del_self {l : List Pr} (hs : Srt l) {p : Nat} (hp : p < l.length) : val (l.take p ++ l.drop (p + 1)) l[p].key = none := by
  refine val_none fun a ha hk => ?_
  rcases List.mem_append.1 ha with h | h
  · obtain ⟨i, hi, rfl⟩ := List.getElem_of_mem h
    rw [List.getElem_take] at hk
    have hi' : i < p := by simp at hi; omega
    have := List.pairwise_iff_getElem.1 hs i p (by omega) hp hi'
    rw [hk, cmpS_self] at this
    omega
  · obtain ⟨i, hi, rfl⟩ := List.getElem_of_mem h
    rw [List.getElem_drop] at hk
    have hi' : p + 1 + i < l.length := by simp at hi; omega
    have := List.pairwise_iff_getElem.1 hs p (p + 1 + i) hp hi' (by omega)
    rw [hk, cmpS_self] at this
    omega

/-- What a call makes of the value of a key: where there is no error, the key has the new value; nothing else is changed. -/
structure Eff (l l' : List Pr) (e : Int) (key : ByteArray) (v : Option ByteArray) : Prop where
  self : e = 0 → val l' key = v
  other : ∀ k, ¬ key = k → val l' k = val l k
  err : e ≠ 0 → l' = l

theorem eff_put {l : List Pr} (hs : Srt l) (a : Pr) : Eff l (putP l a (posP l a.key)).2 (putP l a (posP l a.key)).1 a.key (some a.value) := by
  have hs' := srt_put hs a
  unfold putP at hs' ⊢
  split
  · rename_i h
    rw [if_pos h] at hs'
    obtain ⟨hp, he⟩ := isP_eq h
    exact ⟨fun _ => val_mem hs' (List.mem_iff_getElem.2 ⟨posP l a.key, by simpa using hp, by simp⟩), fun k hk => val_set hk l _ fun _ => he, fun h => absurd rfl h⟩
  · rename_i h
    rw [if_neg h] at hs'
    split
    · exact ⟨fun h => (by simp at h), fun k _ => rfl, fun _ => rfl⟩
    · rename_i h2
      rw [if_neg h2] at hs'
      exact ⟨fun _ => val_mem hs' (by simp), fun k hk => val_ins hk l _, fun h => absurd rfl h⟩
theorem eff_insert {l : List Pr} (hs : Srt l) (a : Pr) : Eff l (insertP l a (posP l a.key)).2 (insertP l a (posP l a.key)).1 a.key (some a.value) := by
  have hs' := srt_insert hs a
  unfold insertP at hs' ⊢
  split
  · exact ⟨fun h => (by simp at h), fun k _ => rfl, fun _ => rfl⟩
  · rename_i h
    rw [if_neg h] at hs'
    split
    · exact ⟨fun h => (by simp at h), fun k _ => rfl, fun _ => rfl⟩
    · rename_i h2
      rw [if_neg h2] at hs'
      exact ⟨fun _ => val_mem hs' (by simp), fun k hk => val_ins hk l _, fun h => absurd rfl h⟩
theorem eff_swap {l : List Pr} (hs : Srt l) (key old new : ByteArray) : Eff l (swapP l key old new (posP l key)).2 (swapP l key old new (posP l key)).1 key (some new) := by
  have hs' := srt_swap hs key old new
  unfold swapP at hs' ⊢
  split
  · rename_i h
    rw [if_pos h] at hs'
    obtain ⟨hp, he⟩ := isP_eq h
    split
    · rename_i h2
      rw [if_pos h2] at hs'
      exact ⟨fun _ => val_mem (a := ⟨key, new⟩) hs' (List.mem_iff_getElem.2 ⟨posP l key, by simpa using hp, by simp⟩), fun k hk => val_set (a := ⟨key, new⟩) hk l _ fun _ => he, fun h => absurd rfl h⟩
    · exact ⟨fun h => (by simp at h), fun k _ => rfl, fun _ => rfl⟩
  · exact ⟨fun h => (by simp at h), fun k _ => rfl, fun _ => rfl⟩
theorem eff_delete {l : List Pr} (hs : Srt l) (key : ByteArray) : Eff l (if isP l key (posP l key) = true then l.take (posP l key) ++ l.drop (posP l key + 1) else l) (if isP l key (posP l key) = true then 0 else 9) key none := by
  split
  · rename_i h
    obtain ⟨hp, he⟩ := isP_eq h
    refine ⟨fun _ => ?_, fun k hk => val_del hp (by rw [he]; exact hk), fun h => absurd rfl h⟩
    have := val_del_self hs hp
    rw [he] at this
    exact this
  · exact ⟨fun h => (by simp at h), fun k _ => rfl, fun _ => rfl⟩

/-! ### Sorted lists with the same elements -/
theorem srt_ext : ∀ {c l : List Pr} (_ : Srt c) (_ : Srt l), (∀ a, a ∈ c ↔ a ∈ l) → c = l
  | [], [], _, _, _ => rfl
  | [], b :: l, _, _, h => by have := (h b).2 (by simp); cases this
  | a :: c, [], _, _, h => by have := (h a).1 (by simp); cases this
  | a :: c, b :: l, hc, hl, h => by
    obtain ⟨ha, hc'⟩ := List.pairwise_cons.1 hc
    obtain ⟨hb, hl'⟩ := List.pairwise_cons.1 hl
    have e : a = b := by
      rcases List.mem_cons.1 ((h a).1 (by simp)) with h1 | h1
      · exact h1
      · rcases List.mem_cons.1 ((h b).2 (by simp)) with h2 | h2
        · exact h2.symm
        · have := cmpS_trans (ha b h2) (hb a h1)
          rw [cmpS_self] at this
          omega
    subst e
    rw [srt_ext hc' hl' fun x => ?_]
    constructor
    · intro hx
      rcases List.mem_cons.1 ((h x).1 (List.mem_cons_of_mem _ hx)) with h1 | h1
      · have := ha x hx
        rw [h1, cmpS_self] at this
        omega
      · exact h1
    · intro hx
      rcases List.mem_cons.1 ((h x).2 (List.mem_cons_of_mem _ hx)) with h1 | h1
      · have := hb x hx
        rw [h1, cmpS_self] at this
        omega
      · exact h1

/-! ### Allowed pairs -/
def AllOk (l : List Pr) : Prop := ∀ a ∈ l, chk a.key [a.value] = 0
theorem ofErr_ok : ∀ {l : List Pr} (o : Option Pr), Srt l → AllOk l → (∀ b, o = some b → ∀ a ∈ l, cmpS b.key a.key < 0) → ofErr o l = 0
  | [], _, _, _, _ => rfl
  | a :: l, o, hs, hk, ho => by
    obtain ⟨ha, hl⟩ := List.pairwise_cons.1 hs
    have h1 : chk a.key [a.value] = 0 := hk a (by simp)
    have h2 : (o.elim false fun b => decide (0 ≤ cmpS b.key a.key)) = false := by
      cases o with
      | none => rfl
      | some b =>
        have := ho b rfl a (by simp)
        simp; omega
    rw [ofErr, if_neg (by simp [h1]), h2, if_neg (by simp)]
    exact ofErr_ok (some a) hl (fun b hb => hk b (by simp [hb])) fun b hb => by cases hb; exact ha
theorem allOk_put {l : List Pr} (h : AllOk l) {a : Pr} (ha : chk a.key [a.value] = 0) (p : Nat) : AllOk (putP l a p).2 := by
  unfold putP
  split
  · intro b hb
    rcases List.mem_or_eq_of_mem_set hb with hb | rfl
    · exact h b hb
    · exact ha
  · split
    · exact h
    · intro b hb
      rcases List.mem_append.1 hb with hb | hb
      · exact h b (List.mem_of_mem_take hb)
      · rcases List.mem_cons.1 hb with rfl | hb
        · exact ha
        · exact h b (List.mem_of_mem_drop hb)
theorem allOk_insert {l : List Pr} (h : AllOk l) {a : Pr} (ha : chk a.key [a.value] = 0) (p : Nat) : AllOk (insertP l a p).2 := by
  unfold insertP
  split
  · exact h
  · split
    · exact h
    · intro b hb
      rcases List.mem_append.1 hb with hb | hb
      · exact h b (List.mem_of_mem_take hb)
      · rcases List.mem_cons.1 hb with rfl | hb
        · exact ha
        · exact h b (List.mem_of_mem_drop hb)
theorem allOk_swap {l : List Pr} (h : AllOk l) {key old new : ByteArray} (ha : chk key [new] = 0) (p : Nat) : AllOk (swapP l key old new p).2 := by
  unfold swapP
  split
  · split
    · intro b hb
      rcases List.mem_or_eq_of_mem_set hb with hb | rfl
      · exact h b hb
      · exact ha
    · exact h
  · exact h
theorem allOk_sub {l m : List Pr} (h : AllOk l) (hm : ∀ a ∈ m, a ∈ l) : AllOk m := fun a ha => h a (hm a ha)

end Go.Proofs.Ytlagijfkkpbbnaa

/-
  The seat's functions as terms over the engine's combinators (a program of ours printed it).
  Conditions: none. By an AI agent.
-/
set_option linter.unusedVariables false
namespace Go.Proofs.Ytlagijfkkpbbnaa
open Go Eng

/-! ticketline.ticketlinelaw24.ModelFulls -/

noncomputable def s_law_ModelFulls (mg : GT) (mc : CT) (ms : ST) (P : Program) (C : CallF) (L0 : Value → Value → Value → Value → AHeap → K → Res) (a0 : Value) (a1 : Value) (H : AHeap) (K0 : K) : Res :=
bareK (xbin P .lss T.int (.tmp 11) (.const (.int .i64 19998)) a0 (.int .i64 19998)) H fun t12 h1 =>
mg t12 false (fun o1 => o1 a0 h1) h1 fun t14 h2 =>
mg t12 false (fun o2 => bareK (xbin P .gtr T.int (.tmp 14) (.const (.int .i64 20002)) t14 (.int .i64 20002)) h2 o2) h2 fun t15 h3 =>
pickK t12 (.bool true) t15 fun t16 =>
mc t16 (fun k3 => enterK C F.law_known [] h3 fun t17 h4 =>
k3 .ret [(4, t17)] h4) (fun k3 =>
k3 .normal [(0, a0), (1, a1)] h3) (seqK (fun tT h5 =>
bothK (mkS T.api_Pair [(.string (mk [])), (.string (mk []))] 32 (get tT 0) (get tT 0) h5) fun t19 h6 =>
ms (fun k4 =>
L0 (get tT 0) (get tT 1) t19 (.int .i64 0) h6 (blkK [0, 1, 5] 0 k4)) (seqK (fun tT_1 h7 =>
enterK C F.model_Of [(get tT_1 5)] h7 fun t33 h8 =>
bareK (xextract t33 0) h8 fun t34 h9 =>
bareK (xextract t33 1) h9 fun t35 h10 =>
bareK (xbin P .gtr T.int (.tmp 36) (.const (.int .i64 20000)) (get tT_1 0) (.int .i64 20000)) h10 fun t37 h11 =>
mc t37 (fun k5 => bareK (xbin P .eql T.p_model_Model (.tmp 38) (.const (.pointer none)) t34 (.pointer none)) h11 fun t39 h12 =>
mg t39 true (fun o6 => o6 t35 h12) h12 fun t41 h13 =>
mg t39 true (fun o7 => bareK (xbin P .eql T.api_Errno (.tmp 41) (.const (.int .i64 7)) t41 (.int .i64 7)) h13 o7) h13 fun t42 h14 =>
pickK t39 t42 (.bool false) fun t43 =>
mg t43 true (fun o8 => enterK C F.law_known [] h14 o8) h14 fun t45 h15 =>
pickK t43 t45 (.bool false) fun t46 =>
k5 .ret [(4, t46)] h15) (fun k5 =>
k5 .normal [(0, (get tT_1 0)), (1, (get tT_1 1)), (7, t34), (8, t35)] h11) (seqK (fun tT_2 h16 =>
bareK (xbin P .eql T.p_model_Model (.tmp 47) (.const (.pointer none)) (get tT_2 7) (.pointer none)) h16 fun t48 h17 =>
mg t48 false (fun o9 => o9 (get tT_2 8) h17) h17 fun t50 h18 =>
mg t48 false (fun o10 => bareK (xbin P .neq T.api_Errno (.tmp 50) (.const (.int .i64 0)) t50 (.int .i64 0)) h18 o10) h18 fun t51 h19 =>
pickK t48 (.bool true) t51 fun t52 =>
mg t52 false (fun o11 => o11 (get tT_2 7) h19) h19 fun t54 h20 =>
mg t52 false (fun o12 => enterK C F.model_Model_Len [t54] h20 o12) h20 fun t55 h21 =>
mg t52 false (fun o13 => o13 (get tT_2 0) h21) h21 fun t56 h22 =>
mg t52 false (fun o14 => bareK (xbin P .neq T.int (.tmp 55) (.tmp 56) t55 t56) h22 o14) h22 fun t57 h23 =>
pickK t52 (.bool true) t57 fun t58 =>
mc t58 (fun k15 => k15 .ret [(4, (.bool false))] h23) (fun k15 =>
k15 .normal [(0, (get tT_2 0)), (1, (get tT_2 1)), (7, (get tT_2 7))] h23) (seqK (fun tT_3 h24 =>
bothK (xconv P T.uint16 T.int (get tT_3 1) h24) fun t60 h25 =>
bareK (xbin P .rem T.int (.tmp 60) (.tmp 61) t60 (get tT_3 0)) h25 fun t62 h26 =>
enterK C F.law_number [t62] h26 fun t63 h27 =>
bareK (xbin P .eql T.int (.tmp 64) (.const (.int .i64 20000)) (get tT_3 0) (.int .i64 20000)) h27 fun t65 h28 =>
mc t65 (fun k16 => k16 .normal [(7, (get tT_3 7)), (9, t63), (10, (.int .i64 7))] h28) (fun k16 =>
k16 .normal [(7, (get tT_3 7)), (9, t63), (10, (.int .i64 0))] h28) (seqK (fun tT_4 h29 =>
enterK C F.model_Model_Put [(get tT_4 7), (get tT_4 9), (.string (mk [119]))] h29 fun t68 h30 =>
bareK (xbin P .neq T.api_Errno (.tmp 68) (.const (.int .i64 0)) t68 (.int .i64 0)) h30 fun t69 h31 =>
mg t69 false (fun o17 => o17 (get tT_4 7) h31) h31 fun t71 h32 =>
mg t69 false (fun o18 => o18 (get tT_4 9) h32) h32 fun t72 h33 =>
mg t69 false (fun o19 => enterK C F.law_gets [t71, t72, (.string (mk [119])), (.int .i64 0)] h33 o19) h33 fun t73 h34 =>
mg t69 false (fun o20 => bareK (xun P .not t73) h34 o20) h34 fun t74 h35 =>
pickK t69 (.bool true) t74 fun t75 =>
mg t75 false (fun o21 => o21 (get tT_4 7) h35) h35 fun t77 h36 =>
mg t75 false (fun o22 => o22 (get tT_4 9) h36) h36 fun t78 h37 =>
mg t75 false (fun o23 => enterK C F.model_Model_Insert [t77, t78, (.string (mk [120]))] h37 o23) h37 fun t79 h38 =>
mg t75 false (fun o24 => bareK (xbin P .neq T.api_Errno (.tmp 79) (.const (.int .i64 11)) t79 (.int .i64 11)) h38 o24) h38 fun t80 h39 =>
pickK t75 (.bool true) t80 fun t81 =>
mg t81 false (fun o25 => o25 (get tT_4 7) h39) h39 fun t83 h40 =>
mg t81 false (fun o26 => enterK C F.model_Model_Put [t83, (.string (mk [122])), (.string (mk [49]))] h40 o26) h40 fun t84 h41 =>
mg t81 false (fun o27 => o27 (get tT_4 10) h41) h41 fun t85 h42 =>
mg t81 false (fun o28 => bareK (xbin P .neq T.api_Errno (.tmp 84) (.tmp 85) t84 t85) h42 o28) h42 fun t86 h43 =>
pickK t81 (.bool true) t86 fun t87 =>
mg t87 false (fun o29 => o29 (get tT_4 7) h43) h43 fun t89 h44 =>
mg t87 false (fun o30 => o30 (get tT_4 9) h44) h44 fun t90 h45 =>
mg t87 false (fun o31 => enterK C F.law_deletes [t89, t90, (.string (mk [119])), (.int .i64 0)] h45 o31) h45 fun t91 h46 =>
mg t87 false (fun o32 => bareK (xun P .not t91) h46 o32) h46 fun t92 h47 =>
pickK t87 (.bool true) t92 fun t93 =>
mc t93 (fun k33 => k33 .ret [(4, (.bool false))] h47) (fun k33 =>
k33 .normal [(7, (get tT_4 7))] h47) (seqK (fun tT_5 h48 =>
enterK C F.model_Model_Insert [(get tT_5 7), (.string (mk [122, 122])), (.string (mk [50]))] h48 fun t95 h49 =>
bareK (xbin P .eql T.api_Errno (.tmp 95) (.const (.int .i64 0)) t95 (.int .i64 0)) h49 fun t96 h50 =>
mg t96 true (fun o34 => enterK C F.law_known [] h50 o34) h50 fun t98 h51 =>
pickK t96 t98 (.bool false) fun t99 =>
K0 .ret [(4, t99)] h51) K0)) K0)) K0)) K0)) K0)) K0)

noncomputable def s_law_ModelFulls_b0 (mg : GT) (mc : CT) (ms : ST) (P : Program) (C : CallF) (L0 : Value → Value → Value → Value → AHeap → K → Res) (v0 : Value) (v1 : Value) (v5 : Value) (v6 : Value) (H : AHeap) (k : K) : Res :=
bareK (xbin P .lss T.int (.tmp 20) (.tmp 21) v6 v0) H fun t22 h7 =>
mc t22 (fun k5 => k5 .normal [(0, v0), (1, v1), (5, v5), (6, v6)] h7) (fun k5 =>
k5 (.exit 0) [(22, t22), (21, v0), (20, v6), (0, v0), (1, v1), (5, v5), (6, v6)] h7) (seqK (fun tT h8 =>
ms (fun k6 =>
enterK C F.law_number [(get tT 6)] h8 fun t28 h9 =>
enterK C F.law_pair [t28, (.string (mk [118]))] h9 fun t29 h10 =>
bareK (ixS 2 (get tT 5) (get tT 6)) h10 fun t30 h11 =>
quietK (stN 2 h11 t30 t29) fun _ h12 =>
k6 .normal [(0, (get tT 0)), (1, (get tT 1)), (5, (get tT 5)), (6, (get tT 6))] h12) (seqK (fun tT_1 h13 =>
bareK (xbin P .add T.int (.tmp 23) (.const (.int .i64 1)) (get tT_1 6) (.int .i64 1)) h13 fun t24 h14 =>
k .normal [(0, (get tT_1 0)), (1, (get tT_1 1)), (5, (get tT_1 5)), (6, t24)] h14) (afterK [0, 1, 5, 6] k))) (afterK [0, 1, 5, 6] k))

theorem s_law_ModelFulls_eq (M : CombL) (C : CallF) (LP : LoopH) (a0 : Value) (a1 : Value) (H : AHeap) : dBodyL M Try.prog hints C LP F.law_ModelFulls [a0, a1] H = s_law_ModelFulls M.b.g M.c M.s Try.prog C (fun v0 v1 v5 v6 H k => loopL M Try.prog hints C LP F.law_ModelFulls 0 [(0, v0), (1, v1), (5, v5), (6, v6)] H k) a0 a1 H (endK Try.prog [.tmp 4]) := by kernel_rfl

theorem s_law_ModelFulls_b0_eq (M : CombL) (C : CallF) (LP : LoopH) (v0 : Value) (v1 : Value) (v5 : Value) (v6 : Value) (H : AHeap) (k : K) : bodyL M Try.prog hints C LP F.law_ModelFulls 0 [(0, v0), (1, v1), (5, v5), (6, v6)] H (afterK [0, 1, 5, 6] k) = s_law_ModelFulls_b0 M.b.g M.c M.s Try.prog C (fun v0 v1 v5 v6 H k => loopL M Try.prog hints C LP F.law_ModelFulls 0 [(0, v0), (1, v1), (5, v5), (6, v6)] H k) v0 v1 v5 v6 H k := by kernel_rfl

end Go.Proofs.Ytlagijfkkpbbnaa

/-
  The equations of the seat's functions over calls in the limit (a program of ours printed it).
  Conditions: none. By an AI agent.
-/
set_option linter.unusedVariables false
namespace Go.Proofs.Ytlagijfkkpbbnaa
open Go Eng

theorem u_uint16 : Try.prog.underlying T.uint16 = Try.prog.underlying 38 := rfl
@[go_sem] theorem x_uint16_int {n : Int} {H : AHeap} : xconv Try.prog T.uint16 T.int (.int .u16 n) H = some (.int .i64 (IntKind.wrap .i64 n), H) := xconv_int (P := Try.prog) (s := 38) (t := 3) Try.underlying38 Try.underlying3

noncomputable def l_law_ModelFulls_0 (v0 : Value) (v1 : Value) (v5 : Value) (v6 : Value) (H : AHeap) (k : K) : Res := loopL stdL Try.prog hints CC limLP F.law_ModelFulls 0 [(0, v0), (1, v1), (5, v5), (6, v6)] H k
theorem r_law_ModelFulls_0 (v0 : Value) (v1 : Value) (v5 : Value) (v6 : Value) (H : AHeap) (k : K) : l_law_ModelFulls_0 v0 v1 v5 v6 H k = s_law_ModelFulls_b0 guardK condL shareL Try.prog CC l_law_ModelFulls_0 v0 v1 v5 v6 H (seqK (fun T H => l_law_ModelFulls_0 (get T 0) (get T 1) (get T 5) (get T 6) H k) k) := ((loopL_next (by kernel_rfl) rfl H k).trans (s_law_ModelFulls_b0_eq stdL CC limLP v0 v1 v5 v6 H _)).trans (by kernel_rfl)
theorem d_law_ModelFulls (a0 : Value) (a1 : Value) (H : AHeap) {r : Value × AHeap} (h : s_law_ModelFulls guardK condL shareL Try.prog CC l_law_ModelFulls_0 a0 a1 H (endK Try.prog [.tmp 4]) = some r) : CC F.law_ModelFulls [a0, a1] H = some (tidy H r) := D_body (by kernel_rfl) ((s_law_ModelFulls_eq stdL CC limLP a0 a1 H).trans (Eq.trans (show s_law_ModelFulls stdL.b.g stdL.c stdL.s Try.prog CC (fun v0 v1 v5 v6 H k => loopL stdL Try.prog hints CC limLP F.law_ModelFulls 0 [(0, v0), (1, v1), (5, v5), (6, v6)] H k) a0 a1 H (endK Try.prog [.tmp 4]) = s_law_ModelFulls guardK condL shareL Try.prog CC l_law_ModelFulls_0 a0 a1 H (endK Try.prog [.tmp 4]) by kernel_rfl) h))

end Go.Proofs.Ytlagijfkkpbbnaa

/-
  A call that is reckoned with some fuel is one without fuel.
  Conditions: none. By an AI agent.
-/
set_option linter.all false
namespace Go.Proofs.Ytlagijfkkpbbnaa.Eng
open Go
theorem dLoop_body {body body' : Env → AHeap → DRes} (hb : ∀ T H r, body T H = some r → body' T H = some r) {keep : List Nat} : ∀ {m : Nat} {T : Env} {H : AHeap} {r : DExit × Env × AHeap}, dLoop body keep m T H = some r → dLoop body' keep m T H = some r
  | 0, _, _, _, h => by simp [dLoop] at h
  | m + 1, T, H, r, h => by
    rw [dLoop] at h ⊢
    cases hx : body (clr keep T) H with
    | none => rw [hx] at h; cases h
    | some x =>
      rw [hx] at h
      rw [hb _ _ _ hx]
      obtain ⟨e, T', H'⟩ := x
      cases e with
      | normal => exact dLoop_body hb h
      | exit i => exact h
      | ret => exact h

theorem code_fin {P : Program} {N m : Nat} {C : CallF} : ∀ (x : DCode) {T : Env} {H : AHeap} {r : DExit × Env × AHeap}, dCode P N C m x T H = some r → dCodeI P N C x T H = some r
  | .skip, _, _, _, h => h
  | .region id ops draw, T, H, r, h => h
  | .seq a b, T, H, r, h => by
    rw [dCode] at h
    obtain ⟨y, h1, h2⟩ := Option.bind_eq_some_iff.1 h
    rw [dCodeI, code_fin a h1]
    obtain ⟨e, T', H'⟩ := y
    cases e with
    | normal => exact code_fin b h2
    | exit j => exact h2
    | ret => exact h2
  | .cond keep q a b, T, H, r, h => by
    rw [dCode] at h
    rw [dCodeI]
    split at h
    · rename_i v hv
      obtain ⟨y, h1, h2⟩ := Option.map_eq_some_iff.1 h
      have key : (if v then dCodeI P N C a T H else dCodeI P N C b T H) = some y := by
        cases v with
        | true => simp only [if_true] at h1 ⊢; exact code_fin a h1
        | false => simp only [Bool.false_eq_true, if_false] at h1 ⊢; exact code_fin b h1
      rw [hv]
      simp only
      rw [key]
      exact congrArg some h2
    · cases h
  | .block keep id b, T, H, r, h => by
    rw [dCode] at h
    obtain ⟨y, h1, h2⟩ := Option.map_eq_some_iff.1 h
    rw [dCodeI, code_fin b h1]
    exact congrArg some h2
  | .loop keep b, T, H, r, h => by
    rw [dCode] at h
    rw [dCodeI, loopI_some]
    exact ⟨m, dLoop_body (fun T H r h => code_fin b h) h⟩
  | .exit id, _, _, _, h => h
  | .ret keep, _, _, _, h => h
  | .bad _, _, _, _, h => by simp [dCode] at h

theorem dCall_evt {P : Program} {prims : Prims} {hints : Hints} : ∀ (n : Nat), CApx (dCall P prims hints n) (dCall P prims hints)
  | 0 => fun f args H r h => by simp [dCall] at h
  | n + 1 => fun f args H r h => by
    cases hp : prims f with
    | some p =>
      simp only [dCall, hp] at h
      exact lim_some.1 (D_prim hp h)
    | none =>
      simp only [dCall, hp] at h
      obtain ⟨y, h1, rfl⟩ := Option.map_eq_some_iff.1 h
      have key : Evt (fun n => dBody P hints (dCall P prims hints n) n f args H) y := by
        unfold dBody at h1 ⊢
        cases hf : P.funcs[f]? with
        | none => rw [hf] at h1; cases h1
        | some fn =>
          rw [hf] at h1
          simp only at h1 ⊢
          cases hb : fn.body with
          | none => rw [hb] at h1; cases h1
          | some c =>
            rw [hb] at h1
            simp only at h1 ⊢
            obtain ⟨x, h2, h3⟩ := Option.bind_eq_some_iff.1 h1
            exact Evt.bind (code_apx (dCall_evt n) _ (code_fin _ h2)) (Evt.of_eq h3)
      obtain ⟨m, hm⟩ := key
      dsimp only at hm
      refine Evt.succ ⟨m, fun i hi => ?_⟩
      simp only [dCall, hp]
      rw [hm i hi]
      rfl

/-- What is reckoned with fuel is so. -/
theorem D_of {P : Program} {prims : Prims} {hints : Hints} {n : Nat} {f : FuncId} {args : List Value} {H : AHeap} {r : Value × AHeap} (h : dCall P prims hints n f args H = some r) :
    D P prims hints f args H = some r := lim_some.2 (dCall_evt n f args H r h)
/-- The same where only the value is told: a call that answers a bare value and leaves what was there. -/
theorem D_ofv {P : Program} {prims : Prims} {hints : Hints} {n : Nat} {f : FuncId} {args : List Value} {H : AHeap} {v : Value} (h : ((dCall P prims hints n f args H).map fun r => (r.1, gr 9 r.1 && still H r.2)) = some (v, true)) (hp : prims f = none) :
    D P prims hints f args H = some (v, H) := by
  cases n with
  | zero => simp [dCall] at h
  | succ n =>
    obtain ⟨r, h1, h2⟩ := Option.map_eq_some_iff.1 h
    have h0 := h1
    simp only [dCall, hp] at h1
    obtain ⟨y, h3, h4⟩ := Option.map_eq_some_iff.1 h1
    rw [D_of h0]
    obtain ⟨v1, H1⟩ := r
    simp only [Prod.mk.injEq] at h2
    obtain ⟨rfl, h2⟩ := h2
    obtain ⟨v2, H2⟩ := y
    unfold tidy at h4
    split at h4
    · simp only [Prod.mk.injEq] at h4; obtain ⟨rfl, rfl⟩ := h4; rfl
    · rename_i hn
      simp only [Prod.mk.injEq] at h4
      obtain ⟨rfl, rfl⟩ := h4
      exact absurd h2 hn

/-- A call's answer, whatever becomes of the heap. -/
theorem any_of {X : Res} {H H1 : AHeap} {v : Value} (h : X = some (tidy H (v, H1))) : ∃ H', X = some (v, H') := by
  unfold tidy at h
  split at h
  · exact ⟨_, h⟩
  · exact ⟨_, h⟩

end Go.Proofs.Ytlagijfkkpbbnaa.Eng

/-
  Chapter 24: the numbers as keys, and the row of pairs of ModelFulls.
  Conditions: none. By an AI agent.
-/
set_option maxRecDepth 10000
set_option linter.unusedSimpArgs false
set_option linter.unusedVariables false
namespace Go.Proofs.Ytlagijfkkpbbnaa
open Go Eng

@[go_sem] theorem int_remN {t : TypeId} {ox oy : Operand} {q : IntKind} {a : Nat} {b : Int} (h : 0 < b) : xbin Try.prog .rem t ox oy (.int q (a : Int)) (.int q b) = some (.int q ((a % b.toNat : Nat) : Int)) := by
  have hb : b ≠ 0 := by omega
  have e : ((a : Int).tmod b) = ((a % b.toNat : Nat) : Int) := by
    obtain ⟨m, rfl⟩ : ∃ m : Nat, b = (m : Int) := ⟨b.toNat, by omega⟩
    rw [← Int.ofNat_tmod]; rfl
  refine xbin_gr ?_ rfl
  simp [eqGuard, binOp, Op.intDiv, Bind.bind, Sem.bind, Pure.pure, pv, hb, e]
@[go_sem] theorem int_quoN {t : TypeId} {ox oy : Operand} {q : IntKind} {a : Nat} {b : Int} (h : 0 < b) : xbin Try.prog .quo t ox oy (.int q (a : Int)) (.int q b) = some (.int q (q.wrap ((a / b.toNat : Nat) : Int))) := by
  have hb : b ≠ 0 := by omega
  have e : ((a : Int).tdiv b) = ((a / b.toNat : Nat) : Int) := by
    obtain ⟨m, rfl⟩ : ∃ m : Nat, b = (m : Int) := ⟨b.toNat, by omega⟩
    rw [← Int.ofNat_tdiv]; rfl
  refine xbin_gr ?_ rfl
  simp [eqGuard, binOp, Op.intDiv, Bind.bind, Sem.bind, Pure.pure, pv, hb, e]

/-! ### number -/
def dgV (n : Nat) : Value := .int .u8 (48 + ((n % 10 : Nat) : Int))
def dg (n : Nat) : UInt8 := UInt8.ofNat (48 + ((n % 10 : Nat) : Int)).toNat
def num5 (i : Nat) : ByteArray := mk [dg (i / 10 / 10 / 10 / 10), dg (i / 10 / 10 / 10), dg (i / 10 / 10), dg (i / 10), dg i]

theorem s_number (b : Nat) (n j c : Nat) (xs : List Value) (H : AHeap) (hf : H.f b = .cells xs T.uint8 true) (hx : xs.length = 5) (hj : j < 5) (hn : n < 1000000) (K : K) :
    l_law_number_0 (.int .i64 (n : Int)) (.slice (some ⟨b, 0, none⟩) 5 c) (.int .i64 (j : Int)) H (blkK [3] 0 K) =
      l_law_number_0 (.int .i64 ((n / 10 : Nat) : Int)) (.slice (some ⟨b, 0, none⟩) 5 c) (.int .i64 ((j : Int) - 1)) (H.set b (.cells (xs.set j (dgV n)) T.uint8 true)) (blkK [3] 0 K) := by
  have hge : (0 : Int) ≤ (j : Int) := by omega
  have hix : ixS 1 (.slice (some ⟨b, 0, none⟩) 5 c) (.int .i64 (j : Int)) = some (.pointer (some ⟨b, 0 + j * 1, none⟩)) := ixS_nat hj
  have hw : setB H b (wr1 (H.f b) j (.int .u8 (48 + ((n % 10 : Nat) : Int)))) = some (H.set b (.cells (xs.set j (dgV n)) T.uint8 true)) := by
    rw [hf, wr1_c (by omega) rfl, setB_s]; rfl
  have hm : n % 10 < 10 := Nat.mod_lt _ (by omega)
  have hd : n / 10 < 1000000 := by omega
  have h10 : (10 : Int).toNat = 10 := rfl
  have hu : IntKind.wrap .u8 (48 + ((n % 10 : Nat) : Int)) = 48 + ((n % 10 : Nat) : Int) := wrap_u8 (by omega)
  rw [r_law_number_0]
  simp (disch := first | with_reducible rfl | assumption | omega | rfl | (simp only [go_sem]; first | done | omega)) only [go_sem, ↓reduceIte, reduceCtorEq, Nat.reduceEqDiff, Nat.reduceAdd, Nat.reduceSub, Nat.reduceMul, Nat.reduceDiv, Nat.reduceMod, Nat.reduceLeDiff, Nat.reduceLT, Nat.reduceBEq, Int.reduceEq, Int.reduceBEq, Int.reduceBNe, Int.reduceLT, Int.reduceLE, Int.reduceAdd, Int.reduceSub, Int.reduceNeg, Int.reduceToNat, Int.reducePow, Nat.reducePow, Int.reduceMul, Int.reduceDiv, ↓s_law_number_b0, hge, h10, hu, hix, hw]


theorem conv_bytes {b c : Nat} {H : AHeap} : xconv Try.prog T.sl_uint8 T.string (.slice (some ⟨b, 0, none⟩) 5 c) H = (cutB (H.f b) 0 5).bind fun l => (bytesOf l).map fun s => (.string (mk s), H) := by kernel_rfl

theorem q_number (i : Nat) (H : AHeap) (hi : i < 1000000) : CC F.law_number [.int .i64 (i : Int)] H = some (.string (num5 i), H) := by
  generalize hH0 : H.push (.cells (zeros [.int .u8 0] 5) T.uint8 true) = G0
  have s0 : Still H G0 := by rw [← hH0]; exact (Fr.refl H).push _
  have f0 : G0.f H.n = .cells (zeros [.int .u8 0] 5) T.uint8 true := by rw [← hH0]; exact push_f_eq rfl
  have e1 : i / 10 < 1000000 := by omega
  have e2 : i / 10 / 10 < 1000000 := by omega
  have e3 : i / 10 / 10 / 10 < 1000000 := by omega
  have e4 : i / 10 / 10 / 10 / 10 < 1000000 := by omega
  have st4 := s_number H.n i 4 10 _ G0 f0 rfl (by omega) hi
  generalize hH1 : G0.set H.n (.cells ((zeros [.int .u8 0] 5).set 4 (dgV i)) T.uint8 true) = G1 at st4
  have f1 : G1.f H.n = .cells ((zeros [.int .u8 0] 5).set 4 (dgV i)) T.uint8 true := by rw [← hH1]; exact set_f_eq
  have st3 := s_number H.n (i / 10) 3 10 _ G1 f1 (by simp [zeros]) (by omega) e1
  generalize hH2 : G1.set H.n (.cells (((zeros [.int .u8 0] 5).set 4 (dgV i)).set 3 (dgV (i / 10))) T.uint8 true) = G2 at st3
  have f2 : G2.f H.n = .cells (((zeros [.int .u8 0] 5).set 4 (dgV i)).set 3 (dgV (i / 10))) T.uint8 true := by rw [← hH2]; exact set_f_eq
  have st2 := s_number H.n (i / 10 / 10) 2 10 _ G2 f2 (by simp [zeros]) (by omega) e2
  generalize hH3 : G2.set H.n (.cells ((((zeros [.int .u8 0] 5).set 4 (dgV i)).set 3 (dgV (i / 10))).set 2 (dgV (i / 10 / 10))) T.uint8 true) = G3 at st2
  have f3 : G3.f H.n = .cells ((((zeros [.int .u8 0] 5).set 4 (dgV i)).set 3 (dgV (i / 10))).set 2 (dgV (i / 10 / 10))) T.uint8 true := by rw [← hH3]; exact set_f_eq
  have st1 := s_number H.n (i / 10 / 10 / 10) 1 10 _ G3 f3 (by simp [zeros]) (by omega) e3
  generalize hH4 : G3.set H.n (.cells (((((zeros [.int .u8 0] 5).set 4 (dgV i)).set 3 (dgV (i / 10))).set 2 (dgV (i / 10 / 10))).set 1 (dgV (i / 10 / 10 / 10))) T.uint8 true) = G4 at st1
  have f4 : G4.f H.n = .cells (((((zeros [.int .u8 0] 5).set 4 (dgV i)).set 3 (dgV (i / 10))).set 2 (dgV (i / 10 / 10))).set 1 (dgV (i / 10 / 10 / 10))) T.uint8 true := by rw [← hH4]; exact set_f_eq
  have st0 := s_number H.n (i / 10 / 10 / 10 / 10) 0 10 _ G4 f4 (by simp [zeros]) (by omega) e4
  generalize hH5 : G4.set H.n (.cells ((((((zeros [.int .u8 0] 5).set 4 (dgV i)).set 3 (dgV (i / 10))).set 2 (dgV (i / 10 / 10))).set 1 (dgV (i / 10 / 10 / 10))).set 0 (dgV (i / 10 / 10 / 10 / 10))) T.uint8 true) = G5 at st0
  have f5 : G5.f H.n = .cells [dgV (i / 10 / 10 / 10 / 10), dgV (i / 10 / 10 / 10), dgV (i / 10 / 10), dgV (i / 10), dgV i] T.uint8 true := by rw [← hH5]; exact set_f_eq
  have s5 : Still H G5 := by
    rw [← hH5, ← hH4, ← hH3, ← hH2, ← hH1]
    exact Fr.set (Fr.set (Fr.set (Fr.set (Fr.set s0 _ _ (fun h => by omega)) _ _ (fun h => by omega)) _ _ (fun h => by omega)) _ _ (fun h => by omega)) _ _ (fun h => by omega)
  have hloop : ∀ K : K, l_law_number_0 (.int .i64 (i : Int)) (.slice (some ⟨H.n, 0, none⟩) 5 10) (.int .i64 4) G0 (blkK [3] 0 K) = K .normal [(3, .slice (some ⟨H.n, 0, none⟩) 5 10)] G5 := by
    intro K
    refine (st4 K).trans ?_
    refine (st3 K).trans ?_
    refine (st2 K).trans ?_
    refine (st1 K).trans ?_
    refine (st0 K).trans ?_
    rw [r_law_number_0]
    simp (disch := first | with_reducible rfl | assumption | omega | rfl | (simp only [go_sem]; first | done | omega)) only [go_sem, ↓reduceIte, reduceCtorEq, Nat.reduceEqDiff, Nat.reduceAdd, Nat.reduceSub, Nat.reduceMul, Nat.reduceDiv, Nat.reduceMod, Nat.reduceLeDiff, Nat.reduceLT, Nat.reduceBEq, Int.reduceEq, Int.reduceBEq, Int.reduceBNe, Int.reduceLT, Int.reduceLE, Int.reduceAdd, Int.reduceSub, Int.reduceNeg, Int.reduceToNat, Int.reducePow, Nat.reducePow, Int.reduceMul, Int.reduceDiv, ↓s_law_number_b0]
  have hcv : cutB (G5.f H.n) 0 5 = some [dgV (i / 10 / 10 / 10 / 10), dgV (i / 10 / 10 / 10), dgV (i / 10 / 10), dgV (i / 10), dgV i] := by rw [f5]; rfl
  have hbs : bytesOf [dgV (i / 10 / 10 / 10 / 10), dgV (i / 10 / 10 / 10), dgV (i / 10 / 10), dgV (i / 10), dgV i] = some [dg (i / 10 / 10 / 10 / 10), dg (i / 10 / 10 / 10), dg (i / 10 / 10), dg (i / 10), dg i] := rfl
  have hmk : mkS T.uint8 [.int .u8 0] 1 (.int .i64 5) (.int .i64 5) H = some (.slice (some ⟨H.n, 0, none⟩) 5 10, G0) := by rw [← hH0]; rfl
  refine pure_of (H' := G5) ?_ (d_law_number _ H) rfl s5
  simp (disch := first | with_reducible rfl | assumption | omega | rfl | (simp only [go_sem]; first | done | omega)) only [go_sem, ↓reduceIte, reduceCtorEq, Nat.reduceEqDiff, Nat.reduceAdd, Nat.reduceSub, Nat.reduceMul, Nat.reduceDiv, Nat.reduceMod, Nat.reduceLeDiff, Nat.reduceLT, Nat.reduceBEq, Int.reduceEq, Int.reduceBEq, Int.reduceBNe, Int.reduceLT, Int.reduceLE, Int.reduceAdd, Int.reduceSub, Int.reduceNeg, Int.reduceToNat, Int.reducePow, Nat.reducePow, Int.reduceMul, Int.reduceDiv, ↓s_law_number, hmk]
  refine (hloop _).trans ?_
  simp (disch := first | with_reducible rfl | assumption | omega | rfl | (simp only [go_sem]; first | done | omega)) only [go_sem, ↓reduceIte, reduceCtorEq, Nat.reduceEqDiff, Nat.reduceAdd, Nat.reduceSub, Nat.reduceMul, Nat.reduceDiv, Nat.reduceMod, Nat.reduceLeDiff, Nat.reduceLT, Nat.reduceBEq, Int.reduceEq, Int.reduceBEq, Int.reduceBNe, Int.reduceLT, Int.reduceLE, Int.reduceAdd, Int.reduceSub, Int.reduceNeg, Int.reduceToNat, Int.reducePow, Nat.reducePow, Int.reduceMul, Int.reduceDiv, conv_bytes, hcv, hbs]
  rfl

/-! ### The keys rise -/
theorem dg_lt {a b : Nat} : dg a < dg b ↔ a % 10 < b % 10 := by
  have ha : (dg a).toNat = 48 + a % 10 := by unfold dg; rw [UInt8.toNat_ofNat']; omega
  have hb : (dg b).toNat = 48 + b % 10 := by unfold dg; rw [UInt8.toNat_ofNat']; omega
  rw [u8_lt, ha, hb]; omega
theorem num_lt {i j : Nat} (h : i < j) (hj : j < 100000) : cmpS (num5 i) (num5 j) < 0 := by
  show Lib.compareBytes (bl (mk _)) (bl (mk _)) < 0
  rw [bl_mk, bl_mk]
  simp only [Lib.compareBytes, dg_lt]
  repeat (split; · omega)
  repeat' split
  all_goals omega
theorem bl_num (i : Nat) : (bl (num5 i)).length = 5 := by
  show (bl (mk _)).length = 5
  rw [bl_mk]; rfl

/-! ### The row -/
def numP (i : Nat) : Pr := ⟨num5 i, mk [118]⟩
def nl (i n : Nat) : List Pr := (List.range i).map numP ++ List.replicate (n - i) ⟨mk [], mk []⟩
theorem nl_len {i n : Nat} (h : i ≤ n) : (nl i n).length = n := by unfold nl; simp; omega
theorem nl_set {i n : Nat} (h : i < n) : (nl i n).set i (numP i) = nl (i + 1) n := by
  unfold nl
  rw [List.set_append_right _ _ (by simp), List.range_succ, List.map_append, List.append_assoc]
  congr 1
  rw [show n - i = (n - (i + 1)) + 1 by omega, List.replicate_succ]
  simp
theorem srt_nl {n : Nat} (h : n < 100000) : Srt (nl n n) := by
  unfold nl
  rw [Nat.sub_self, List.replicate_zero, List.append_nil]
  refine List.pairwise_map.2 ?_
  refine List.Pairwise.imp_of_mem ?_ List.pairwise_lt_range
  intro a b _ hb hab
  exact num_lt hab (by have := List.mem_range.1 hb; omega)

end Go.Proofs.Ytlagijfkkpbbnaa

/-
  Chapter 24: the law ModelFulls runs to true.
  Conditions: none. By an AI agent.
-/
set_option maxRecDepth 10000
set_option linter.unusedSimpArgs false
set_option linter.unusedVariables false
namespace Go.Proofs.Ytlagijfkkpbbnaa
open Go Eng

/-! ### A row that is written element by element -/
def Rw (H : AHeap) (b n : Nat) (l : List Pr) : Prop := b < H.n ∧ H.f b = .cells (EPr.cells l) T.api_Pair true ∧ l.length = n
theorem spl_cells (a : Pr) : ∀ (l : List Pr) (i : Nat), i < l.length → spl (EPr.cells l) (i * 2) [.string a.key, .string a.value] = EPr.cells (l.set i a)
  | [], _, h => by simp at h
  | b :: l, 0, _ => rfl
  | b :: l, i + 1, h => by
    have ih := spl_cells a l i (by simpa using h)
    have e : EPr.cells (b :: l) = .string b.key :: .string b.value :: EPr.cells l := rfl
    rw [e, List.set_cons_succ, show EPr.cells (b :: l.set i a) = .string b.key :: .string b.value :: EPr.cells (l.set i a) from rfl, ← ih, show (i + 1) * 2 = i * 2 + 1 + 1 by omega]
    simp [spl]
theorem Rw.write {H : AHeap} {b n : Nat} {l : List Pr} (r : Rw H b n l) {i : Nat} (hi : i < n) (a : Pr) (c : Nat) :
    ixS 2 (.slice (some ⟨b, 0, none⟩) n c) (.int .i64 (i : Int)) = some (.pointer (some ⟨b, i * 2, none⟩)) ∧ setB H b (wrL (H.f b) (i * 2) [.string a.key, .string a.value]) = some (H.set b (.cells (EPr.cells (l.set i a)) T.api_Pair true)) ∧
      Rw (H.set b (.cells (EPr.cells (l.set i a)) T.api_Pair true)) b n (l.set i a) := by
  obtain ⟨h1, h2, h3⟩ := r
  have hw : EPr.w = 2 := rfl
  refine ⟨?_, ?_, by simpa using h1, set_f_eq, by simpa using h3⟩
  · have := @ixS_nat 2 b 0 n c i .i64 hi
    rw [Nat.zero_add] at this
    exact this
  · rw [h2, wrL_c (by rw [EPr.cells_len, hw]; simp; omega) rfl, spl_cells a l i (by omega), setB_s]
theorem Rw.rd {H : AHeap} {b n : Nat} {l : List Pr} (r : Rw H b n l) (hn : 0 < n) (c : Nat) : Rd EPr H (.slice (some ⟨b, 0, none⟩) n c) l := by
  obtain ⟨h1, h2, h3⟩ := r
  refine .inr (.inr ⟨b, 0, c, by rw [h3], fun h => by rw [h] at h3; simp at h3; omega, h1, ?_⟩)
  rw [h2]
  rw [cutB_c (by simp), List.drop_zero, List.take_of_length_le (by simp)]

theorem q_pair (k v : ByteArray) (H : AHeap) : CC F.law_pair [.string k, .string v] H = some (.agg #[.string k, .string v], H) := by
  apply pure_of _ (d_law_pair _ _ H) rfl
  rotate_left 2
  · simp (disch := first | with_reducible rfl | assumption | omega | rfl | (simp only [go_sem]; first | done | omega)) only [go_sem, ↓reduceIte, reduceCtorEq, Nat.reduceEqDiff, Nat.reduceAdd, Nat.reduceSub, Nat.reduceMul, Nat.reduceDiv, Nat.reduceMod, Nat.reduceLeDiff, Nat.reduceLT, Nat.reduceBEq, Int.reduceEq, Int.reduceBEq, Int.reduceBNe, Int.reduceLT, Int.reduceLE, Int.reduceAdd, Int.reduceSub, Int.reduceNeg, Int.reduceToNat, Int.reducePow, Nat.reducePow, Int.reduceMul, Int.reduceDiv, ↓s_law_pair]
    rfl
  · (repeat (first | exact Fr.refl _ | refine Fr.push ?_ _ | refine Fr.set ?_ _ _ (by intro h; first | omega | (simp only [go_sem] at h; omega))))

theorem l_Fulls (n b c : Nat) (w : Value) (hn : n ≤ 20002) : ∀ (d i : Nat) (H : AHeap), n - i = d → i ≤ n → Rw H b n (nl i n) → ∃ H', Rw H' b n (nl n n) ∧ Fr (fun c => c = b) H H' ∧ ∀ K : K,
    l_law_ModelFulls_0 (.int .i64 (n : Int)) w (.slice (some ⟨b, 0, none⟩) n c) (.int .i64 (i : Int)) H (blkK [0, 1, 5] 0 K) = K .normal [(0, .int .i64 (n : Int)), (1, w), (5, .slice (some ⟨b, 0, none⟩) n c)] H'
  | 0, i, H, hd, hi, r => by
    have e : i = n := by omega
    subst e
    have hlt : ¬ (i : Int) < (i : Int) := by omega
    refine ⟨H, r, Fr.refl H, fun K => ?_⟩
    rw [r_law_ModelFulls_0]
    simp (disch := first | with_reducible rfl | assumption | omega | rfl | (simp only [go_sem]; first | done | omega)) only [go_sem, ↓reduceIte, reduceCtorEq, Nat.reduceEqDiff, Nat.reduceAdd, Nat.reduceSub, Nat.reduceMul, Nat.reduceDiv, Nat.reduceMod, Nat.reduceLeDiff, Nat.reduceLT, Nat.reduceBEq, Int.reduceEq, Int.reduceBEq, Int.reduceBNe, Int.reduceLT, Int.reduceLE, Int.reduceAdd, Int.reduceSub, Int.reduceNeg, Int.reduceToNat, Int.reducePow, Nat.reducePow, Int.reduceMul, Int.reduceDiv, ↓s_law_ModelFulls_b0, hlt]
  | d + 1, i, H, hd, hi, r => by
    have hlt : (i : Int) < (n : Int) := by omega
    obtain ⟨hix, hw, r1⟩ := r.write (show i < n by omega) (numP i) c
    rw [nl_set (show i < n by omega)] at hw r1
    generalize hH1 : H.set b (.cells (EPr.cells (nl (i + 1) n)) T.api_Pair true) = H1 at hw r1
    have f1 : Fr (fun c => c = b) H H1 := by rw [← hH1]; exact Fr.set (Fr.refl H) _ _ fun _ => rfl
    have hnum := q_number i H (by omega)
    have hp := q_pair (num5 i) (mk [118]) H
    have hw : setB H b (wrL (H.f b) (i * 2) [.string (num5 i), .string (mk [118])]) = some H1 := hw
    obtain ⟨H', r', f', ih⟩ := l_Fulls n b c w hn d (i + 1) H1 (by omega) (by omega) r1
    refine ⟨H', r', f1.then f' fun _ _ h => h, fun K => ?_⟩
    have ih := ih K
    rw [Int.natCast_add] at ih
    rw [r_law_ModelFulls_0]
    simp (disch := first | with_reducible rfl | assumption | omega | rfl | (simp only [go_sem]; first | done | omega)) only [go_sem, ↓reduceIte, reduceCtorEq, Nat.reduceEqDiff, Nat.reduceAdd, Nat.reduceSub, Nat.reduceMul, Nat.reduceDiv, Nat.reduceMod, Nat.reduceLeDiff, Nat.reduceLT, Nat.reduceBEq, Int.reduceEq, Int.reduceBEq, Int.reduceBNe, Int.reduceLT, Int.reduceLE, Int.reduceAdd, Int.reduceSub, Int.reduceNeg, Int.reduceToNat, Int.reducePow, Nat.reducePow, Int.reduceMul, Int.reduceDiv, ↓s_law_ModelFulls_b0, hlt, enterK_eq hnum, enterK_eq hp, hix, hw]
    exact ih

theorem zeros_nl : ∀ (n : Nat), zeros [.string (mk []), .string (mk [])] n = EPr.cells (List.replicate n ⟨mk [], mk []⟩)
  | 0 => rfl
  | n + 1 => by rw [List.replicate_succ, EPr.cells_cons, ← zeros_nl n]; rfl

/-! ### The calls -/
theorem chk_ok {k : ByteArray} {v : List ByteArray} (h1 : 0 < (bl k).length) (h2 : (bl k).length ≤ 24) (h3 : ∀ a ∈ v, (bl a).length ≤ 40) : chk k v = 0 := by
  unfold chk
  rw [if_neg fun h => by rw [h] at h1; simp at h1, if_neg]
  rintro (h | h)
  · omega
  · obtain ⟨a, ha, h⟩ := List.any_eq_true.1 h
    have := h3 a ha
    have := of_decide_eq_true h
    omega
theorem isP_val {l : List Pr} (hs : Srt l) {k v : ByteArray} (h : val l k = some v) : isP l k (posP l k) = true := by
  rw [val_isP hs] at h
  cases hi : isP l k (posP l k) with
  | true => rfl
  | false => rw [hi] at h; simp at h
theorem notP_val {l : List Pr} (hs : Srt l) {k : ByteArray} (h : val l k = none) : isP l k (posP l k) = false := by
  rw [val_isP hs] at h
  cases hi : isP l k (posP l k) with
  | false => rfl
  | true => rw [hi] at h; simp at h
theorem getE_val {l : List Pr} (hs : Srt l) {k v : ByteArray} (hk : chk k [] = 0) (h : val l k = some v) : getE l k = .tuple #[.string v, .int .i64 0] := by
  unfold getE
  rw [if_pos hk, getP_val hs, h]
/-- A key that is there gets a new value. -/
theorem put_is {l : List Pr} (hs : Srt l) {k v w : ByteArray} (hk : chk k [w] = 0) (h : val l k = some v) : ∃ l', putE l ⟨k, w⟩ = (0, l') ∧ l'.length = l.length ∧ val l' k = some w ∧ ∀ j, ¬ k = j → val l' j = val l j := by
  have hi := isP_val hs h
  have he := eff_put hs ⟨k, w⟩
  have e : putP l ⟨k, w⟩ (posP l k) = (0, l.set (posP l k) ⟨k, w⟩) := by unfold putP; rw [if_pos hi]
  refine ⟨l.set (posP l k) ⟨k, w⟩, by unfold putE; rw [if_pos hk]; exact e, by simp, ?_, ?_⟩
  · have := he.self (by rw [e])
    rw [e] at this; exact this
  · intro j hj
    have := he.other j hj
    rw [e] at this; exact this
theorem insert_is {l : List Pr} (hs : Srt l) {k v w : ByteArray} (hk : chk k [w] = 0) (h : val l k = some v) : insertE l ⟨k, w⟩ = (11, l) := by
  have hi := isP_val hs h
  unfold insertE insertP
  rw [if_pos hk, if_pos hi]
theorem put_not {l : List Pr} (hs : Srt l) {k w : ByteArray} (hk : chk k [w] = 0) (h : val l k = none) : ∃ l', putE l ⟨k, w⟩ = (if l.length = 20000 then 7 else 0, l') ∧ ∀ j, ¬ k = j → val l' j = val l j := by
  have hi := notP_val hs h
  have he := eff_put hs ⟨k, w⟩
  refine ⟨(putP l ⟨k, w⟩ (posP l k)).2, ?_, fun j hj => he.other j hj⟩
  unfold putE
  rw [if_pos hk]
  unfold putP
  simp only [hi, Bool.false_eq_true, if_false]
  split <;> rfl
theorem del_is {l : List Pr} (hs : Srt l) {k v : ByteArray} (hk : chk k [] = 0) (h : val l k = some v) : (delE l k).length + 1 = l.length ∧ ∀ j, ¬ k = j → val (delE l k) j = val l j := by
  have hi := isP_val hs h
  have he := eff_delete hs k
  have hp := isP_lt hi
  unfold delE
  rw [if_pos hk]
  refine ⟨?_, fun j hj => he.other j hj⟩
  rw [if_pos hi]
  simp
  omega
theorem insert_not {l : List Pr} (hs : Srt l) {k w : ByteArray} (hk : chk k [w] = 0) (h : val l k = none) (hl : l.length < 20000) : (insertE l ⟨k, w⟩).1 = 0 := by
  have hi := notP_val hs h
  unfold insertE insertP
  rw [if_pos hk]
  simp only [hi, Bool.false_eq_true, if_false]
  rw [if_neg (by omega)]

theorem ne_num {k : ByteArray} (h : (bl k).length ≠ 5) (i : Nat) : ¬ num5 i = k := fun e => by rw [← e, bl_num] at h; exact h rfl
theorem val_nl_none {k : ByteArray} (h : (bl k).length ≠ 5) (n : Nat) : val (nl n n) k = none := by
  refine val_none fun a ha => ?_
  unfold nl at ha
  rw [Nat.sub_self, List.replicate_zero, List.append_nil] at ha
  obtain ⟨i, _, rfl⟩ := List.mem_map.1 ha
  exact ne_num h i
theorem mem_nl {i n : Nat} (h : i < n) : numP i ∈ nl n n := by
  unfold nl
  exact List.mem_append_left _ (List.mem_map.2 ⟨i, List.mem_range.2 h, rfl⟩)
theorem ok_nl (n : Nat) : AllOk (nl n n) := by
  intro a ha
  unfold nl at ha
  rw [Nat.sub_self, List.replicate_zero, List.append_nil] at ha
  obtain ⟨i, _, rfl⟩ := List.mem_map.1 ha
  have := bl_num i
  refine chk_ok (k := num5 i) (by omega) (by omega) fun a ha => ?_
  rw [List.mem_singleton.1 ha]
  show (bl (mk _)).length ≤ 40
  rw [bl_mk]; simp
theorem len_mk (l : List UInt8) : (bl (mk l)).length = l.length := by rw [bl_mk]

theorem conv_u16 {n : Int} {H : AHeap} : xconv Try.prog T.uint16 T.int (.int .u16 n) H = some (.int .i64 (IntKind.wrap .i64 n), H) := xconv_int rfl rfl

theorem q_ModelFulls (a : Int) (w : Nat) (hw : w < 65536) : ∃ H', CC F.law_ModelFulls [.int .i64 a, .int .u16 (w : Int)] H0 = some (.bool true, H') := by
  by_cases h1 : a < 19998
  · refine any_of (H1 := ?_) (d_law_ModelFulls _ _ H0 ?_)
    rotate_left 1
    · simp (disch := first | with_reducible rfl | assumption | omega | rfl | (simp only [go_sem]; first | done | omega)) only [go_sem, ↓reduceIte, reduceCtorEq, Nat.reduceEqDiff, Nat.reduceAdd, Nat.reduceSub, Nat.reduceMul, Nat.reduceDiv, Nat.reduceMod, Nat.reduceLeDiff, Nat.reduceLT, Nat.reduceBEq, Int.reduceEq, Int.reduceBEq, Int.reduceBNe, Int.reduceLT, Int.reduceLE, Int.reduceAdd, Int.reduceSub, Int.reduceNeg, Int.reduceToNat, Int.reducePow, Nat.reducePow, Int.reduceMul, Int.reduceDiv, ↓s_law_ModelFulls, decide_eq_true h1]
      rfl
  by_cases h2 : 20002 < a
  · refine any_of (H1 := ?_) (d_law_ModelFulls _ _ H0 ?_)
    rotate_left 1
    · simp (disch := first | with_reducible rfl | assumption | omega | rfl | (simp only [go_sem]; first | done | omega)) only [go_sem, ↓reduceIte, reduceCtorEq, Nat.reduceEqDiff, Nat.reduceAdd, Nat.reduceSub, Nat.reduceMul, Nat.reduceDiv, Nat.reduceMod, Nat.reduceLeDiff, Nat.reduceLT, Nat.reduceBEq, Int.reduceEq, Int.reduceBEq, Int.reduceBNe, Int.reduceLT, Int.reduceLE, Int.reduceAdd, Int.reduceSub, Int.reduceNeg, Int.reduceToNat, Int.reducePow, Nat.reducePow, Int.reduceMul, Int.reduceDiv, ↓s_law_ModelFulls, decide_eq_false h1, decide_eq_true h2]
      rfl
  obtain ⟨n, rfl⟩ : ∃ n : Nat, a = (n : Int) := ⟨a.toNat, by omega⟩
  have hn : n ≤ 20002 := by omega
  generalize hH1 : H0.push (.cells (zeros [.string (mk []), .string (mk [])] n) T.api_Pair true) = H1
  have s1 : Still H0 H1 := by rw [← hH1]; exact (Fr.refl H0).push _
  have hmk : mkS T.api_Pair [.string (mk []), .string (mk [])] 32 (.int .i64 (n : Int)) (.int .i64 (n : Int)) H0 = some (.slice (some ⟨H0.n, 0, none⟩) n (2 * n), H1) := by
    unfold mkS
    simp only
    rw [if_pos (by omega), ← hH1]
    simp
  have r1 : Rw H1 H0.n n (nl 0 n) := ⟨by rw [← hH1]; simp, by rw [← hH1, push_f_eq rfl, zeros_nl]; rfl, nl_len (by omega)⟩
  obtain ⟨H2, r2, f2, hloop⟩ := l_Fulls n H0.n (2 * n) (.int .u16 (w : Int)) hn n 0 H1 rfl (by omega) r1
  have ok2 : Ok H2 := (H0_ok.fr s1).fr f2
  have rd := r2.rd (by omega) (2 * n)
  have hsr := srt_nl (n := n) (by omega)
  have hll : (nl n n).length = n := nl_len (by omega)
  have hof : ofErr none (nl n n) = 0 := ofErr_ok none hsr (ok_nl n) fun b hb => by cases hb
  by_cases h3 : 20000 < (n : Int)
  · have hOf := q_Of_full (nl n n) _ H2 rd (by omega) hof (by omega)
    refine any_of (H1 := ?_) (d_law_ModelFulls _ _ H0 ?_)
    rotate_left 1
    · simp (disch := first | with_reducible rfl | assumption | omega | rfl | (simp only [go_sem]; first | done | omega)) only [go_sem, ↓reduceIte, reduceCtorEq, Nat.reduceEqDiff, Nat.reduceAdd, Nat.reduceSub, Nat.reduceMul, Nat.reduceDiv, Nat.reduceMod, Nat.reduceLeDiff, Nat.reduceLT, Nat.reduceBEq, Int.reduceEq, Int.reduceBEq, Int.reduceBNe, Int.reduceLT, Int.reduceLE, Int.reduceAdd, Int.reduceSub, Int.reduceNeg, Int.reduceToNat, Int.reducePow, Nat.reducePow, Int.reduceMul, Int.reduceDiv, ↓s_law_ModelFulls, decide_eq_false h1, decide_eq_false h2, hmk]
      refine (hloop _).trans ?_
      simp (disch := first | with_reducible rfl | assumption | omega | rfl | (simp only [go_sem]; first | done | omega)) only [go_sem, ↓reduceIte, reduceCtorEq, Nat.reduceEqDiff, Nat.reduceAdd, Nat.reduceSub, Nat.reduceMul, Nat.reduceDiv, Nat.reduceMod, Nat.reduceLeDiff, Nat.reduceLT, Nat.reduceBEq, Int.reduceEq, Int.reduceBEq, Int.reduceBNe, Int.reduceLT, Int.reduceLE, Int.reduceAdd, Int.reduceSub, Int.reduceNeg, Int.reduceToNat, Int.reducePow, Nat.reducePow, Int.reduceMul, Int.reduceDiv, enterK_eq hOf, decide_eq_true h3]
      rfl
  obtain ⟨bm, H3, hOf, m3, s3, _, _⟩ := q_Of (nl n n) _ H2 rd hof (by omega)
  have ok3 := ok2.fr s3
  generalize hl0 : nl n n = l0 at *
  have hlen := q_Len bm l0 H3 m3
  rw [hll] at hlen
  generalize hi : w % n = i
  have hin : i < n := by rw [← hi]; exact Nat.mod_lt _ (by omega)
  have hrem : w % n = i := hi
  have hnt : (n : Int).toNat = n := Int.toNat_natCast n
  have hnum := q_number i H3 (by omega)
  have c5 := bl_num i
  have ck : ∀ v : List ByteArray, (∀ a ∈ v, (bl a).length ≤ 40) → chk (num5 i) v = 0 := fun v hv => chk_ok (by omega) (by omega) hv
  have v0 : val l0 (num5 i) = some (mk [118]) := by rw [← hl0]; exact val_mem (hl0 ▸ hsr) (mem_nl hin)
  obtain ⟨l1, e1, n1, v1, o1⟩ := put_is hsr (w := mk [119]) (ck _ (by intro a ha; rw [List.mem_singleton.1 ha, len_mk]; decide)) v0
  obtain ⟨H4, hput, m4, u4⟩ := q_putM bm l0 ⟨num5 i, mk [119]⟩ H3 ok3 m3 hsr (by omega)
  have hs1 : Srt l1 := by have := srt_putE hsr ⟨num5 i, mk [119]⟩; rw [e1] at this; exact this
  rw [e1] at hput m4
  have m4 : Mdl H4 bm l1 := m4
  have ok4 := ok3.fr u4.fr
  have hl1 : l1.length ≤ 20000 := by omega
  have hget := q_gets bm l1 (num5 i) (mk [119]) 0 H4 m4 hs1 hl1 (getE_val hs1 (ck [] (by simp)) v1)
  have e2 := insert_is hs1 (w := mk [120]) (ck _ (by intro a ha; rw [List.mem_singleton.1 ha, len_mk]; decide)) v1
  obtain ⟨H5, hins, m5, u5⟩ := q_insM bm l1 ⟨num5 i, mk [120]⟩ H4 ok4 m4 hs1 hl1
  rw [e2] at hins m5
  have m5 : Mdl H5 bm l1 := m5
  have ok5 := ok4.fr u5.fr
  have vz : val l1 (mk [122]) = none := by rw [o1 _ (ne_num (by rw [len_mk]; decide) i), ← hl0]; exact val_nl_none (by rw [len_mk]; decide) n
  obtain ⟨l2, e3, o2⟩ := put_not hs1 (k := mk [122]) (w := mk [49]) (chk_ok (by rw [len_mk]; decide) (by rw [len_mk]; decide) (by intro a ha; rw [List.mem_singleton.1 ha, len_mk]; decide)) vz
  obtain ⟨H6, hput2, m6, u6⟩ := q_putM bm l1 ⟨mk [122], mk [49]⟩ H5 ok5 m5 hs1 hl1
  have hs2 : Srt l2 := by have := srt_putE hs1 ⟨mk [122], mk [49]⟩; rw [e3] at this; exact this
  have hl2 : l2.length ≤ 20000 := by have := len_putE hl1 ⟨mk [122], mk [49]⟩; rw [e3] at this; exact this
  rw [e3] at hput2 m6
  have m6 : Mdl H6 bm l2 := m6
  have ok6 := ok5.fr u6.fr
  have v2 : val l2 (num5 i) = some (mk [119]) := by rw [o2 _ fun h => ne_num (k := mk [122]) (by rw [len_mk]; decide) i h.symm]; exact v1
  obtain ⟨H7, hdel, m7, u7⟩ := q_deletes bm l2 (num5 i) (mk [119]) 0 H6 ok6 m6 hs2 hl2 (getE_val hs2 (ck [] (by simp)) v2)
  obtain ⟨n3, o3⟩ := del_is hs2 (ck [] (by simp)) v2
  have hs3 := srt_delE hs2 (num5 i)
  have ok7 := ok6.fr u7.fr
  have vzz : val (delE l2 (num5 i)) (mk [122, 122]) = none := by
    rw [o3 _ (ne_num (by rw [len_mk]; decide) i), o2 _ (fun h => by have := congrArg (fun x => (bl x).length) h; simp only [len_mk] at this; simp at this), o1 _ (ne_num (by rw [len_mk]; decide) i), ← hl0]
    exact val_nl_none (by rw [len_mk]; decide) n
  have hl3 : (delE l2 (num5 i)).length < 20000 := by omega
  have e4 := insert_not hs3 (k := mk [122, 122]) (w := mk [50]) (chk_ok (by rw [len_mk]; decide) (by rw [len_mk]; decide) (by intro a ha; rw [List.mem_singleton.1 ha, len_mk]; decide)) vzz hl3
  obtain ⟨H8, hins2, m8, u8⟩ := q_insM bm (delE l2 (num5 i)) ⟨mk [122, 122], mk [50]⟩ H7 ok7 m7 hs3 (by omega)
  rw [e4] at hins2
  have hput : CC F.model_Model_Put [.pointer (some ⟨bm, 0, none⟩), .string (num5 i), .string (mk [119])] H3 = some (.int .i64 0, H4) := hput
  have hins : CC F.model_Model_Insert [.pointer (some ⟨bm, 0, none⟩), .string (num5 i), .string (mk [120])] H4 = some (.int .i64 11, H5) := hins
  have hins2 : CC F.model_Model_Insert [.pointer (some ⟨bm, 0, none⟩), .string (mk [122, 122]), .string (mk [50])] H7 = some (.int .i64 0, H8) := hins2
  have hn0 : (0 : Int) < (n : Int) := by omega
  have hwi : IntKind.wrap .i64 (w : Int) = (w : Int) := wrap_i64 (by omega)
  by_cases h4 : (n : Int) = 20000
  · have h4' : l1.length = 20000 := by omega
    rw [if_pos h4'] at hput2
    have hput2 : CC F.model_Model_Put [.pointer (some ⟨bm, 0, none⟩), .string (mk [122]), .string (mk [49])] H5 = some (.int .i64 7, H6) := hput2
    refine any_of (H1 := ?_) (d_law_ModelFulls _ _ H0 ?_)
    rotate_left 1
    · simp (disch := first | with_reducible rfl | assumption | omega | rfl | (simp only [go_sem]; first | done | omega)) only [go_sem, ↓reduceIte, reduceCtorEq, Nat.reduceEqDiff, Nat.reduceAdd, Nat.reduceSub, Nat.reduceMul, Nat.reduceDiv, Nat.reduceMod, Nat.reduceLeDiff, Nat.reduceLT, Nat.reduceBEq, Int.reduceEq, Int.reduceBEq, Int.reduceBNe, Int.reduceLT, Int.reduceLE, Int.reduceAdd, Int.reduceSub, Int.reduceNeg, Int.reduceToNat, Int.reducePow, Nat.reducePow, Int.reduceMul, Int.reduceDiv, ↓s_law_ModelFulls, decide_eq_false h1, decide_eq_false h2, hmk]
      refine (hloop _).trans ?_
      simp (disch := first | with_reducible rfl | assumption | omega | rfl | (simp only [go_sem]; first | done | omega)) only [go_sem, ↓reduceIte, reduceCtorEq, Nat.reduceEqDiff, Nat.reduceAdd, Nat.reduceSub, Nat.reduceMul, Nat.reduceDiv, Nat.reduceMod, Nat.reduceLeDiff, Nat.reduceLT, Nat.reduceBEq, Int.reduceEq, Int.reduceBEq, Int.reduceBNe, Int.reduceLT, Int.reduceLE, Int.reduceAdd, Int.reduceSub, Int.reduceNeg, Int.reduceToNat, Int.reducePow, Nat.reducePow, Int.reduceMul, Int.reduceDiv, enterK_eq hOf, decide_eq_false h3, mp_some, enterK_eq hlen, conv_u16, hwi, int_remN hn0, hnt, hrem, enterK_eq hnum, decide_eq_true h4, enterK_eq hput, enterK_eq hget, enterK_eq hins, enterK_eq hput2, enterK_eq hdel, enterK_eq hins2]
      rfl
  · have h4' : ¬ l1.length = 20000 := by omega
    rw [if_neg h4'] at hput2
    have hput2 : CC F.model_Model_Put [.pointer (some ⟨bm, 0, none⟩), .string (mk [122]), .string (mk [49])] H5 = some (.int .i64 0, H6) := hput2
    refine any_of (H1 := ?_) (d_law_ModelFulls _ _ H0 ?_)
    rotate_left 1
    · simp (disch := first | with_reducible rfl | assumption | omega | rfl | (simp only [go_sem]; first | done | omega)) only [go_sem, ↓reduceIte, reduceCtorEq, Nat.reduceEqDiff, Nat.reduceAdd, Nat.reduceSub, Nat.reduceMul, Nat.reduceDiv, Nat.reduceMod, Nat.reduceLeDiff, Nat.reduceLT, Nat.reduceBEq, Int.reduceEq, Int.reduceBEq, Int.reduceBNe, Int.reduceLT, Int.reduceLE, Int.reduceAdd, Int.reduceSub, Int.reduceNeg, Int.reduceToNat, Int.reducePow, Nat.reducePow, Int.reduceMul, Int.reduceDiv, ↓s_law_ModelFulls, decide_eq_false h1, decide_eq_false h2, hmk]
      refine (hloop _).trans ?_
      simp (disch := first | with_reducible rfl | assumption | omega | rfl | (simp only [go_sem]; first | done | omega)) only [go_sem, ↓reduceIte, reduceCtorEq, Nat.reduceEqDiff, Nat.reduceAdd, Nat.reduceSub, Nat.reduceMul, Nat.reduceDiv, Nat.reduceMod, Nat.reduceLeDiff, Nat.reduceLT, Nat.reduceBEq, Int.reduceEq, Int.reduceBEq, Int.reduceBNe, Int.reduceLT, Int.reduceLE, Int.reduceAdd, Int.reduceSub, Int.reduceNeg, Int.reduceToNat, Int.reducePow, Nat.reducePow, Int.reduceMul, Int.reduceDiv, enterK_eq hOf, decide_eq_false h3, mp_some, enterK_eq hlen, conv_u16, hwi, int_remN hn0, hnt, hrem, enterK_eq hnum, decide_eq_false h4, enterK_eq hput, enterK_eq hget, enterK_eq hins, enterK_eq hput2, enterK_eq hdel, enterK_eq hins2]
      rfl

theorem run_ModelFulls (a w : Int) (_ : (Lit.int .i64 a).wf = true) (h : (Lit.int .u16 w).wf = true) : ∃ k H', dCall Try.prog prims1 hints k F.law_ModelFulls [.int .i64 a, .int .u16 w] H0 = some (.bool true, H') := by
  have hb : 0 ≤ w ∧ w < 65536 := by
    simp [Lit.wf, IntKind.min, IntKind.max, IntKind.signed, IntKind.bits] at h
    omega
  obtain ⟨m, rfl⟩ : ∃ m : Nat, w = (m : Int) := ⟨w.toNat, by omega⟩
  obtain ⟨H', h⟩ := q_ModelFulls a m (by omega)
  obtain ⟨k, h⟩ := D_run h
  exact ⟨k, _, h⟩

end Go.Proofs.Ytlagijfkkpbbnaa

/-
  The law ModelFulls: for every input it returns true, and its input reads as it did.
  Conditions: none. By an AI agent.
-/
namespace Go.Proofs.Ytlagijfkkpbbnaa.modelFulls
open Go.ChangeShapes Go.WideShapes Go.ChangeAt Go.RowKit
open Go.ChangeMaps (open_string shut_string)
set_option linter.unusedVariables false
theorem own : ownKnob Try.prog.godebug = none := by kernel_rfl
set_option maxRecDepth 100000 in
theorem lifted (os : Os) (started : os.Started) (H : Type) (enc : TypeId × Value → H) :
    ReturnsInHanded {} Try.checked os 4 .any (Rows.modelFullsSpec.pre6 enc Try.prog Try.f4 Rows.modelFullsRow.domain false) (Rows.modelFullsSpec.post enc Try.prog Try.f4 false true false false) := by
  refine returnsInHanded_of_change_sized (C := Try.checked) own started (by kernel_rfl) Try.func4
    (ChangeSpec.witness6 (enc := enc) (C := Try.checked) false ⟨#[], #[.int .i64 0, .int .u16 0], []⟩ 8 (by kernel_rfl) (by kernel_rfl) (by kernel_rfl) (by kernel_rfl)) ?_
  intro W base args ds gs before hval0 hW hcnd hsz0 _
  have hsz : (DataW.weightsEach Try.prog (Try.f4.params.toList ++ Rows.modelFullsSpec.plain.varTypes Try.prog) (ds ++ gs)).all (· ≤ reachBytes) = true := hsz0
  have hval : ∀ (j : Nat) t v, Try.f4.params[j]? = some t → args[j]? = some v → Value.okWide Try.prog W .any base t v := hval0
  have hW' := hW
  obtain ⟨p, q, hA0, hV, rfl, hfz, hnd⟩ := hW
  have hA : DataW.TrodAll enc Try.prog W 0 (fun _ => true) true Try.f4.params.toList args.toList ds p := hA0
  rw [Try.params4] at hA hval hsz
  obtain ⟨v0, vs0, d0, ds0, p0, q0, hargs, rfl, rfl, h0, r0⟩ := trodAll_cons hA
  obtain ⟨v1, vs1, d1, ds1, p1, q1, rfl, rfl, rfl, h1, r1⟩ := trodAll_cons r0
  obtain ⟨rfl, rfl, rfl⟩ := trodAll_nil r1
  obtain rfl : args = #[v0, v1] := by cases args; simp_all
  obtain ⟨rfl, rfl⟩ := trodVars_none hV
  obtain ⟨a0, rfl, rfl, rfl, w0⟩ := open_int Try.underlying3 (hval 0 3 v0 rfl rfl) h0
  obtain ⟨a1, rfl, rfl, rfl, w1⟩ := open_int Try.underlying38 (hval 1 38 v1 rfl rfl) h1
  clear hA0 hval0 hsz0 hsz
  refine (Eng.law_calls0 (args := #[.int .i64 a0, .int .u16 a1]) prims1_ok mixed rfl (run_ModelFulls a0 a1 w0 w1)).mono fun e W' ⟨he, bel⟩ => ?_
  subst he
  exact ⟨_, rfl, _, _, _, [], _, [], hW', trodAll_mk1 (shut_bool Try.underlying4 _), (trodAll_cons_mk (shut_int Try.underlying3 w0) (trodAll_cons_mk (shut_int Try.underlying38 w1) trodAll_mk0)), rfl, bel.frame _, fun h => by cases h⟩

theorem over : Rows.modelFullsRow.holds Try.pinned (OpenSpec.ofChange Rows.modelFullsSpec) :=
  OpenClaim.holds_of_wide 4 Try.f4 rfl rfl rfl rfl rfl rfl rfl ⟨rfl, rfl, rfl, rfl, rfl⟩ rfl rfl rfl rfl rfl (by kernel_rfl) Try.func4 (by kernel_rfl)
    (of_decide_eq_true (by kernel_rfl)) (by unfold Func.isWrapper; first | (rw [if_pos (by decide +kernel)]; kernel_rfl) | (rw [if_neg (by decide +kernel)]; exact ⟨rfl, rfl⟩))
    (fun os started H enc _ => lifted os started H enc)
theorem proved : Rows.ModelFullsSaid := over
#print axioms proved
end Go.Proofs.Ytlagijfkkpbbnaa.modelFulls
namespace Go.Proofs.Ytlagijfkkpbbnaa
/-- The row, under a short name, for the claim. -/
theorem modelFulls_holds : Rows.ModelFullsSaid := modelFulls.proved
end Go.Proofs.Ytlagijfkkpbbnaa
