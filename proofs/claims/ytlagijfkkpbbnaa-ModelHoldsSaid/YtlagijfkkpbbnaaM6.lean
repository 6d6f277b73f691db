/-
  The plain map: Equal, Of.
  Conditions: none. By an AI agent.
-/
import Derived.Test.YtlagijfkkpbbnaaM5
set_option maxRecDepth 10000
set_option linter.unusedSimpArgs false
set_option linter.unusedVariables false
namespace Go.Proofs.Ytlagijfkkpbbnaa
open Go Eng

instance : DecidableEq Pr := fun a b => decidable_of_iff (bl a.key = bl b.key ∧ bl a.value = bl b.value) pr_ext.symm
theorem pair_ne' {ox oy : Operand} {a b : Pr} : xbin Try.prog .neq T.api_Pair ox oy (.agg #[.string a.key, .string a.value]) (.agg #[.string b.key, .string b.value]) = some (.bool (!decide (a = b))) := by
  rw [pair_ne, ← Bool.decide_and, decide_eq_decide.2 pr_ext]
theorem pair_eq' {ox oy : Operand} {a b : Pr} : xbin Try.prog .eql T.api_Pair ox oy (.agg #[.string a.key, .string a.value]) (.agg #[.string b.key, .string b.value]) = some (.bool (decide (a = b))) := by
  rw [pair_eq, ← Bool.decide_and, decide_eq_decide.2 pr_ext]

theorem drop_cons {α : Type} {l x : List α} {a : α} {i : Nat} (h : l.drop i = a :: x) : ∃ hi : i < l.length, l[i] = a ∧ l.drop (i + 1) = x := by
  have hi : i < l.length := by
    rcases Nat.lt_or_ge i l.length with h' | h'
    · exact h'
    · rw [List.drop_eq_nil_of_le h'] at h; cases h
  rw [List.drop_eq_getElem_cons hi] at h
  exact ⟨hi, (List.cons.inj h).1, (List.cons.inj h).2⟩

theorem l_eqP (l m : List Pr) (v w : Value) (H : AHeap) (hv : Rd EPr H v l) (hw : Rd EPr H w m) (hlm : l.length = m.length) (hl : l.length < 1152921504606846976) (K : K) : ∀ (x y : List Pr) (i : Nat), l.drop i = x → m.drop i = y →
    l_slices_Equal_Pair_0 v w (.int .i64 l.length) (.int .i64 i) H (blkK [] 0 (seqK (fun _ h2 => K .ret [(4, .bool true)] h2) K)) = K .ret [(4, .bool (decide (x = y)))] H
  | [], y, i, hx, hy => by
    have h : l.length ≤ i := List.drop_eq_nil_iff.1 hx
    have hlt : ¬ (i : Int) < (l.length : Int) := by omega
    have hy0 : y = [] := by rw [← hy]; exact List.drop_eq_nil_of_le (by omega)
    subst hy0
    rw [r_slices_Equal_Pair_0]
    simp (disch := first | with_reducible rfl | assumption | omega | rfl | (simp only [go_sem]; first | done | omega)) only [go_sem, ↓reduceIte, reduceCtorEq, Nat.reduceEqDiff, Nat.reduceAdd, Nat.reduceSub, Nat.reduceMul, Nat.reduceDiv, Nat.reduceMod, Nat.reduceLeDiff, Nat.reduceLT, Nat.reduceBEq, Int.reduceEq, Int.reduceBEq, Int.reduceBNe, Int.reduceLT, Int.reduceLE, Int.reduceAdd, Int.reduceSub, Int.reduceNeg, Int.reduceToNat, Int.reducePow, Nat.reducePow, Int.reduceMul, Int.reduceDiv, ↓s_slices_Equal_Pair_b0, hlt]
  | a :: x, [], i, hx, hy => by
    obtain ⟨h, _⟩ := drop_cons hx
    have h2 : m.length ≤ i := List.drop_eq_nil_iff.1 hy
    omega
  | a :: x, b :: y, i, hx, hy => by
    obtain ⟨h, hxa, hx'⟩ := drop_cons hx
    obtain ⟨h2, hyb, hy'⟩ := drop_cons hy
    have hlt : (i : Int) < (l.length : Int) := by omega
    have ih := l_eqP l m v w H hv hw hlm hl K x y (i + 1) hx' hy'
    obtain ⟨b1, o1, hix1, _, hc1, _⟩ := hv.ix (q := .i64) h
    obtain ⟨b2, o2, hix2, _, hc2, _⟩ := hw.ix (q := .i64) h2
    rw [hxa] at hc1
    rw [hyb] at hc2
    have hix1 : ixS 2 v (.int .i64 i) = some (.pointer (some ⟨b1, o1, none⟩)) := hix1
    have hix2 : ixS 2 w (.int .i64 i) = some (.pointer (some ⟨b2, o2, none⟩)) := hix2
    have hc1 : cutB (H.f b1) o1 2 = some [.string a.key, .string a.value] := hc1
    have hc2 : cutB (H.f b2) o2 2 = some [.string b.key, .string b.value] := hc2
    rw [Int.natCast_add] at ih
    rw [r_slices_Equal_Pair_0]
    by_cases he : a = b
    · have hd : decide (a = b) = true := decide_eq_true he
      have hd2 : decide (a :: x = b :: y) = decide (x = y) := decide_eq_decide.2 (by simp [he])
      rw [hd2]
      simp (disch := first | with_reducible rfl | assumption | omega | rfl | (simp only [go_sem]; first | done | omega)) only [go_sem, ↓reduceIte, reduceCtorEq, Nat.reduceEqDiff, Nat.reduceAdd, Nat.reduceSub, Nat.reduceMul, Nat.reduceDiv, Nat.reduceMod, Nat.reduceLeDiff, Nat.reduceLT, Nat.reduceBEq, Int.reduceEq, Int.reduceBEq, Int.reduceBNe, Int.reduceLT, Int.reduceLE, Int.reduceAdd, Int.reduceSub, Int.reduceNeg, Int.reduceToNat, Int.reducePow, Nat.reducePow, Int.reduceMul, Int.reduceDiv, ↓s_slices_Equal_Pair_b0, hlt, hix1, hc1, hix2, hc2, pair_ne', hd]
      exact ih
    · have hd : decide (a = b) = false := decide_eq_false he
      have hd2 : decide (a :: x = b :: y) = false := decide_eq_false (by simp [he])
      rw [hd2]
      simp (disch := first | with_reducible rfl | assumption | omega | rfl | (simp only [go_sem]; first | done | omega)) only [go_sem, ↓reduceIte, reduceCtorEq, Nat.reduceEqDiff, Nat.reduceAdd, Nat.reduceSub, Nat.reduceMul, Nat.reduceDiv, Nat.reduceMod, Nat.reduceLeDiff, Nat.reduceLT, Nat.reduceBEq, Int.reduceEq, Int.reduceBEq, Int.reduceBNe, Int.reduceLT, Int.reduceLE, Int.reduceAdd, Int.reduceSub, Int.reduceNeg, Int.reduceToNat, Int.reducePow, Nat.reducePow, Int.reduceMul, Int.reduceDiv, ↓s_slices_Equal_Pair_b0, hlt, hix1, hc1, hix2, hc2, pair_ne', hd]

theorem q_eqP (l m : List Pr) (v w : Value) (H : AHeap) (hv : Rd EPr H v l) (hw : Rd EPr H w m) (hl : l.length < 1152921504606846976) :
    CC F.slices_Equal_Pair [v, w] H = some (.bool (decide (l = m)), H) := by
  have l1 := hv.lenS
  have l2 := hw.lenS
  by_cases hlm : l.length = m.length
  · have hne : ¬ ¬ (l.length : Int) = (m.length : Int) := by omega
    have hloop := l_eqP l m v w H hv hw hlm hl (endK Try.prog [.tmp 4]) l m 0 rfl rfl
    have hz : Value.int IntKind.i64 0 = Value.int IntKind.i64 ((0 : Nat) : Int) := rfl
    have he : decide ((l.length : Int) = (m.length : Int)) = true := decide_eq_true (by omega)
    apply pure_of _ (d_slices_Equal_Pair _ _ H) rfl
    rotate_left 2
    · simp (disch := first | with_reducible rfl | assumption | omega | rfl | (simp only [go_sem]; first | done | omega)) only [go_sem, ↓reduceIte, reduceCtorEq, Nat.reduceEqDiff, Nat.reduceAdd, Nat.reduceSub, Nat.reduceMul, Nat.reduceDiv, Nat.reduceMod, Nat.reduceLeDiff, Nat.reduceLT, Nat.reduceBEq, Int.reduceEq, Int.reduceBEq, Int.reduceBNe, Int.reduceLT, Int.reduceLE, Int.reduceAdd, Int.reduceSub, Int.reduceNeg, Int.reduceToNat, Int.reducePow, Nat.reducePow, Int.reduceMul, Int.reduceDiv, ↓s_slices_Equal_Pair, l1, l2, he]
      exact hloop
    · (repeat (first | exact Fr.refl _ | refine Fr.push ?_ _ | refine Fr.set ?_ _ _ (by intro h; first | omega | (simp only [go_sem] at h; omega))))
  · have he : decide ((l.length : Int) = (m.length : Int)) = false := decide_eq_false (by omega)
    have hd : decide (l = m) = false := decide_eq_false fun h => hlm (by rw [h])
    rw [hd]
    apply pure_of _ (d_slices_Equal_Pair _ _ H) rfl
    rotate_left 2
    · simp (disch := first | with_reducible rfl | assumption | omega | rfl | (simp only [go_sem]; first | done | omega)) only [go_sem, ↓reduceIte, reduceCtorEq, Nat.reduceEqDiff, Nat.reduceAdd, Nat.reduceSub, Nat.reduceMul, Nat.reduceDiv, Nat.reduceMod, Nat.reduceLeDiff, Nat.reduceLT, Nat.reduceBEq, Int.reduceEq, Int.reduceBEq, Int.reduceBNe, Int.reduceLT, Int.reduceLE, Int.reduceAdd, Int.reduceSub, Int.reduceNeg, Int.reduceToNat, Int.reducePow, Nat.reducePow, Int.reduceMul, Int.reduceDiv, ↓s_slices_Equal_Pair, l1, l2, he]
      rfl
    · (repeat (first | exact Fr.refl _ | refine Fr.push ?_ _ | refine Fr.set ?_ _ _ (by intro h; first | omega | (simp only [go_sem] at h; omega))))

theorem q_Equal (b c : Nat) (l m : List Pr) (H : AHeap) (r : Mdl H b l) (s : Mdl H c m) (hl : l.length ≤ 1000000000000) (hm : m.length ≤ 1000000000000) :
    CC F.model_Equal [.pointer (some ⟨b, 0, none⟩), .pointer (some ⟨c, 0, none⟩)] H = some (.bool (decide (l = m)), H) := by
  have hl1 := q_Len b l H r
  have hl2 := q_Len c m H s
  by_cases hlm : l.length = m.length
  · obtain ⟨v1, H1, hp1, ho1, s1, _⟩ := q_Pairs b l H r hl
    obtain ⟨v2, H2, hp2, ho2, s2, _⟩ := q_Pairs c m H1 (s.still s1) hm
    have he := q_eqP l m v1 v2 H2 (ho1.still s2).rd ho2.rd (by omega)
    have hd : decide ((l.length : Int) = (m.length : Int)) = true := decide_eq_true (by omega)
    apply pure_of _ (d_model_Equal _ _ H) rfl
    rotate_left 2
    · simp (disch := first | with_reducible rfl | assumption | omega | rfl | (simp only [go_sem]; first | done | omega)) only [go_sem, ↓reduceIte, reduceCtorEq, Nat.reduceEqDiff, Nat.reduceAdd, Nat.reduceSub, Nat.reduceMul, Nat.reduceDiv, Nat.reduceMod, Nat.reduceLeDiff, Nat.reduceLT, Nat.reduceBEq, Int.reduceEq, Int.reduceBEq, Int.reduceBNe, Int.reduceLT, Int.reduceLE, Int.reduceAdd, Int.reduceSub, Int.reduceNeg, Int.reduceToNat, Int.reducePow, Nat.reducePow, Int.reduceMul, Int.reduceDiv, ↓s_model_Equal, mp_some, bne_self_eq_false, c_model_Model_Len, enterK_eq hl1, enterK_eq hl2, hd, enterK_eq hp1, enterK_eq hp2, enterK_eq he]
      rfl
    · exact s1.then s2 fun _ _ h => h
  · have hd : decide ((l.length : Int) = (m.length : Int)) = false := decide_eq_false (by omega)
    have hf : decide (l = m) = false := decide_eq_false fun h => hlm (by rw [h])
    rw [hf]
    apply pure_of _ (d_model_Equal _ _ H) rfl
    rotate_left 2
    · simp (disch := first | with_reducible rfl | assumption | omega | rfl | (simp only [go_sem]; first | done | omega)) only [go_sem, ↓reduceIte, reduceCtorEq, Nat.reduceEqDiff, Nat.reduceAdd, Nat.reduceSub, Nat.reduceMul, Nat.reduceDiv, Nat.reduceMod, Nat.reduceLeDiff, Nat.reduceLT, Nat.reduceBEq, Int.reduceEq, Int.reduceBEq, Int.reduceBNe, Int.reduceLT, Int.reduceLE, Int.reduceAdd, Int.reduceSub, Int.reduceNeg, Int.reduceToNat, Int.reducePow, Nat.reducePow, Int.reduceMul, Int.reduceDiv, ↓s_model_Equal, mp_some, bne_self_eq_false, c_model_Model_Len, enterK_eq hl1, enterK_eq hl2, hd]
      rfl
    · (repeat (first | exact Fr.refl _ | refine Fr.push ?_ _ | refine Fr.set ?_ _ _ (by intro h; first | omega | (simp only [go_sem] at h; omega))))

/-! ### Of -/
/-- The error of a list of pairs: of the pairs behind the one before. -/
def ofErr : Option Pr → List Pr → Int
  | _, [] => 0
  | o, a :: l => if chk a.key [a.value] ≠ 0 then chk a.key [a.value] else if (o.elim false fun b => decide (0 ≤ cmpS b.key a.key)) = true then 13 else ofErr (some a) l


theorem l_ofP (l : List Pr) (v : Value) (Hz : AHeap) (hr0 : Rd EPr Hz v l) (hl : l.length < 1152921504606846976) (K : K) : ∀ (x : List Pr) (i : Nat) (H : AHeap) (o : Option Pr), l.drop i = x → Still Hz H → i ≤ l.length → (if i = 0 then none else l[i - 1]?) = o → ∃ H', Still Hz H' ∧
    (l_model_Of_0 v v (.int .i64 l.length) (.int .i64 i) H (blkK [0] 0 K) = if ofErr o x = 0 then K .normal [(0, v)] H' else K .ret [(2, .pointer none), (3, .int .i64 (ofErr o x))] H')
  | [], i, H, o, hx, hs, hi, ho => by
    have h : l.length ≤ i := List.drop_eq_nil_iff.1 hx
    have hlt : ¬ (i : Int) < (l.length : Int) := by omega
    refine ⟨H, hs, ?_⟩
    rw [r_model_Of_0]
    simp only [ofErr, if_true]
    simp (disch := first | with_reducible rfl | assumption | omega | rfl | (simp only [go_sem]; first | done | omega)) only [go_sem, ↓reduceIte, reduceCtorEq, Nat.reduceEqDiff, Nat.reduceAdd, Nat.reduceSub, Nat.reduceMul, Nat.reduceDiv, Nat.reduceMod, Nat.reduceLeDiff, Nat.reduceLT, Nat.reduceBEq, Int.reduceEq, Int.reduceBEq, Int.reduceBNe, Int.reduceLT, Int.reduceLE, Int.reduceAdd, Int.reduceSub, Int.reduceNeg, Int.reduceToNat, Int.reducePow, Nat.reducePow, Int.reduceMul, Int.reduceDiv, ↓s_model_Of_b0, hlt]
  | a :: x, i, H, o, hx, hs, hi, ho => by
    obtain ⟨h, hxa, hx'⟩ := drop_cons hx
    have hlt : (i : Int) < (l.length : Int) := by omega
    obtain ⟨b1, o1, hix1, hb1, hc1, _⟩ := (hr0.still hs).ix (q := .i64) h
    rw [hxa] at hc1
    have hix1 : ixS 2 v (.int .i64 i) = some (.pointer (some ⟨b1, o1, none⟩)) := hix1
    have hc1 : cutB (H.f b1) o1 2 = some [.string a.key, .string a.value] := hc1
    generalize hH1 : (H.push (.cells [.string (mk []), .string (mk [])] T.api_Pair true)).set H.n (.cells [.string a.key, .string a.value] T.api_Pair true) = H1
    have s1 : Still H H1 := by rw [← hH1]; exact Fr.set ((Fr.refl H).push _) _ _ (fun h => by omega)
    have n1 : H1.n = H.n + 1 := by rw [← hH1]; rfl
    have f1 : H1.f H.n = .cells [.string a.key, .string a.value] T.api_Pair true := by rw [← hH1]; exact set_f_eq
    generalize hH2 : H1.push (.cells [.string a.value] T.string true) = H2
    have s2 : Still H1 H2 := by rw [← hH2]; exact (Fr.refl H1).push _
    have hck := q_check a.key [a.value] _ _ (rdOne a.value H1) (by simp)
    rw [hH2] at hck
    have f2 : H2.f H.n = .cells [.string a.key, .string a.value] T.api_Pair true := by rw [s2.f (by omega) (fun h => h), f1]
    have st : Still Hz H2 := (hs.then s1 fun _ _ h => h).still.then s2 fun _ _ h => h
    by_cases hchk : chk a.key [a.value] = 0
    · rw [hchk] at hck
      cases i with
      | zero =>
        have ho' : o = none := by rw [← ho]; rfl
        subst ho'
        obtain ⟨H', hs', ih⟩ := l_ofP l v Hz hr0 hl K x 1 H2 (some a) hx' st (by omega) (by simp [← hxa])
        refine ⟨H', hs', ?_⟩
        have e : ofErr none (a :: x) = ofErr (some a) x := by simp [ofErr, hchk]
        have hlt : (0 : Int) < (l.length : Int) := hlt
        have hix1 : ixS 2 v (.int .i64 0) = some (.pointer (some ⟨b1, o1, none⟩)) := hix1
        rw [e, r_model_Of_0]
        simp (disch := first | with_reducible rfl | assumption | omega | rfl | (simp only [go_sem]; first | done | omega)) only [go_sem, ↓reduceIte, reduceCtorEq, Nat.reduceEqDiff, Nat.reduceAdd, Nat.reduceSub, Nat.reduceMul, Nat.reduceDiv, Nat.reduceMod, Nat.reduceLeDiff, Nat.reduceLT, Nat.reduceBEq, Int.reduceEq, Int.reduceBEq, Int.reduceBNe, Int.reduceLT, Int.reduceLE, Int.reduceAdd, Int.reduceSub, Int.reduceNeg, Int.reduceToNat, Int.reducePow, Nat.reducePow, Int.reduceMul, Int.reduceDiv, ↓s_model_Of_b0, hlt, hix1, hc1, hH1, f1, hH2, enterK_eq hck]
        exact ih
      | succ k =>
        have hk : k < l.length := by omega
        have ho' : o = some l[k] := by rw [← ho]; simp [hk]
        subst ho'
        obtain ⟨b2, o2, hix2, hb2, hc2, _⟩ := (hr0.still hs).ix (q := .i64) hk
        have hix2 : ixS 2 v (.int .i64 k) = some (.pointer (some ⟨b2, o2, none⟩)) := hix2
        have hc2 : cellB (H.f b2) o2 = some (.string l[k].key) := cutB_cell hc2 (i := 0) (by decide)
        have fb2 : H2.f b2 = H.f b2 := by rw [s2.f (by omega) (fun h => h), s1.f hb2 (fun h => h)]
        obtain ⟨H', hs', ih⟩ := l_ofP l v Hz hr0 hl K x (k + 1 + 1) H2 (some a) hx' st (by omega) (by simp [← hxa])
        have hsub : ((k : Int) + 1 - 1) = (k : Int) := by omega
        have hlt : (k : Int) + 1 < (l.length : Int) := by omega
        have hpos : (0 : Int) < (k : Int) + 1 := by omega
        have hix1 : ixS 2 v (.int .i64 ((k : Int) + 1)) = some (.pointer (some ⟨b1, o1, none⟩)) := hix1
        rw [Int.natCast_add, Int.natCast_add] at ih
        by_cases hge : 0 ≤ cmpS l[k].key a.key
        · have hd : decide (0 ≤ cmpS l[k].key a.key) = true := decide_eq_true hge
          have e : ofErr (some l[k]) (a :: x) = 13 := by simp [ofErr, hchk, hge]
          refine ⟨H2, st, ?_⟩
          rw [e, r_model_Of_0, Int.natCast_add]
          simp (disch := first | with_reducible rfl | assumption | omega | rfl | (simp only [go_sem]; first | done | omega)) only [go_sem, ↓reduceIte, reduceCtorEq, Nat.reduceEqDiff, Nat.reduceAdd, Nat.reduceSub, Nat.reduceMul, Nat.reduceDiv, Nat.reduceMod, Nat.reduceLeDiff, Nat.reduceLT, Nat.reduceBEq, Int.reduceEq, Int.reduceBEq, Int.reduceBNe, Int.reduceLT, Int.reduceLE, Int.reduceAdd, Int.reduceSub, Int.reduceNeg, Int.reduceToNat, Int.reducePow, Nat.reducePow, Int.reduceMul, Int.reduceDiv, ↓s_model_Of_b0, hlt, hix1, hc1, hH1, f1, hH2, enterK_eq hck, hpos, hsub, hix2, fb2, hc2, f2, e_KCompare, hd]
        · have hd : decide (0 ≤ cmpS l[k].key a.key) = false := decide_eq_false hge
          have e : ofErr (some l[k]) (a :: x) = ofErr (some a) x := by simp [ofErr, hchk, hge]
          refine ⟨H', hs', ?_⟩
          rw [e, r_model_Of_0, Int.natCast_add]
          simp (disch := first | with_reducible rfl | assumption | omega | rfl | (simp only [go_sem]; first | done | omega)) only [go_sem, ↓reduceIte, reduceCtorEq, Nat.reduceEqDiff, Nat.reduceAdd, Nat.reduceSub, Nat.reduceMul, Nat.reduceDiv, Nat.reduceMod, Nat.reduceLeDiff, Nat.reduceLT, Nat.reduceBEq, Int.reduceEq, Int.reduceBEq, Int.reduceBNe, Int.reduceLT, Int.reduceLE, Int.reduceAdd, Int.reduceSub, Int.reduceNeg, Int.reduceToNat, Int.reducePow, Nat.reducePow, Int.reduceMul, Int.reduceDiv, ↓s_model_Of_b0, hlt, hix1, hc1, hH1, f1, hH2, enterK_eq hck, hpos, hsub, hix2, fb2, hc2, f2, e_KCompare, hd]
          exact ih
    · have e : ofErr o (a :: x) = chk a.key [a.value] := by simp [ofErr, hchk]
      refine ⟨H2, st, ?_⟩
      rw [e, if_neg hchk]
      generalize chk a.key [a.value] = y at hchk hck
      rw [r_model_Of_0]
      simp (disch := first | with_reducible rfl | assumption | omega | rfl | (simp only [go_sem]; first | done | omega)) only [go_sem, ↓reduceIte, reduceCtorEq, Nat.reduceEqDiff, Nat.reduceAdd, Nat.reduceSub, Nat.reduceMul, Nat.reduceDiv, Nat.reduceMod, Nat.reduceLeDiff, Nat.reduceLT, Nat.reduceBEq, Int.reduceEq, Int.reduceBEq, Int.reduceBNe, Int.reduceLT, Int.reduceLE, Int.reduceAdd, Int.reduceSub, Int.reduceNeg, Int.reduceToNat, Int.reducePow, Nat.reducePow, Int.reduceMul, Int.reduceDiv, ↓s_model_Of_b0, hlt, hix1, hc1, hH1, f1, hH2, enterK_eq hck, hchk]

/-- What Of answers. -/
theorem q_Of_err (l : List Pr) (v : Value) (H : AHeap) (hr : Rd EPr H v l) (hl : l.length < 1152921504606846976) (h : ofErr none l ≠ 0) : CC F.model_Of [v] H = some (.tuple #[.pointer none, .int .i64 (ofErr none l)], H) := by
  have hlen := hr.lenS
  obtain ⟨H', hs, hloop⟩ := l_ofP l v H hr hl (seqK (fun tT h2 => bareK (lenS (get tT 0)) h2 fun t39 h3 =>
    bareK (xbin Try.prog .gtr T.int (.tmp 39) (.const (.int .i64 20000)) t39 (.int .i64 20000)) h3 fun t40 h4 =>
    condL t40 (fun k2 => k2 .ret [(2, (.pointer none)), (3, (.int .i64 7))] h4) (fun k2 =>
    k2 .normal [(0, (get tT 0))] h4) (seqK (fun tT_1 h5 =>
    enterK CC F.slices_Clone_Pair [(get tT_1 0)] h5 fun t42 h6 =>
    bareK (bldS #[(.slice none 0 0)] [(0, 1)] [(0, t42)]) h6 fun t43 h7 =>
    bothK (newv T.model_Model t43 h7) fun t44 h8 =>
    endK Try.prog [.tmp 2, .tmp 3] .ret [(2, t44), (3, (.int .i64 0))] h8) (endK Try.prog [.tmp 2, .tmp 3]))) (endK Try.prog [.tmp 2, .tmp 3])) l 0 H none rfl (Fr.refl H) (by omega) rfl
  rw [if_neg h] at hloop
  generalize ofErr none l = e at hloop h
  apply pure_of _ (d_model_Of _ H) rfl
  rotate_left 2
  · simp (disch := first | with_reducible rfl | assumption | omega | rfl | (simp only [go_sem]; first | done | omega)) only [go_sem, ↓reduceIte, reduceCtorEq, Nat.reduceEqDiff, Nat.reduceAdd, Nat.reduceSub, Nat.reduceMul, Nat.reduceDiv, Nat.reduceMod, Nat.reduceLeDiff, Nat.reduceLT, Nat.reduceBEq, Int.reduceEq, Int.reduceBEq, Int.reduceBNe, Int.reduceLT, Int.reduceLE, Int.reduceAdd, Int.reduceSub, Int.reduceNeg, Int.reduceToNat, Int.reducePow, Nat.reducePow, Int.reduceMul, Int.reduceDiv, ↓s_model_Of, hlen]
    exact hloop
  · exact hs

theorem q_Of_full (l : List Pr) (v : Value) (H : AHeap) (hr : Rd EPr H v l) (hl : l.length < 1152921504606846976) (h : ofErr none l = 0) (hf : 20000 < l.length) : CC F.model_Of [v] H = some (.tuple #[.pointer none, .int .i64 7], H) := by
  have hlen := hr.lenS
  have hgt : (20000 : Int) < (l.length : Int) := by omega
  obtain ⟨H', hs, hloop⟩ := l_ofP l v H hr hl (seqK (fun tT h2 => bareK (lenS (get tT 0)) h2 fun t39 h3 =>
    bareK (xbin Try.prog .gtr T.int (.tmp 39) (.const (.int .i64 20000)) t39 (.int .i64 20000)) h3 fun t40 h4 =>
    condL t40 (fun k2 => k2 .ret [(2, (.pointer none)), (3, (.int .i64 7))] h4) (fun k2 =>
    k2 .normal [(0, (get tT 0))] h4) (seqK (fun tT_1 h5 =>
    enterK CC F.slices_Clone_Pair [(get tT_1 0)] h5 fun t42 h6 =>
    bareK (bldS #[(.slice none 0 0)] [(0, 1)] [(0, t42)]) h6 fun t43 h7 =>
    bothK (newv T.model_Model t43 h7) fun t44 h8 =>
    endK Try.prog [.tmp 2, .tmp 3] .ret [(2, t44), (3, (.int .i64 0))] h8) (endK Try.prog [.tmp 2, .tmp 3]))) (endK Try.prog [.tmp 2, .tmp 3])) l 0 H none rfl (Fr.refl H) (by omega) rfl
  rw [if_pos h] at hloop
  apply pure_of _ (d_model_Of _ H) rfl
  rotate_left 2
  · simp (disch := first | with_reducible rfl | assumption | omega | rfl | (simp only [go_sem]; first | done | omega)) only [go_sem, ↓reduceIte, reduceCtorEq, Nat.reduceEqDiff, Nat.reduceAdd, Nat.reduceSub, Nat.reduceMul, Nat.reduceDiv, Nat.reduceMod, Nat.reduceLeDiff, Nat.reduceLT, Nat.reduceBEq, Int.reduceEq, Int.reduceBEq, Int.reduceBNe, Int.reduceLT, Int.reduceLE, Int.reduceAdd, Int.reduceSub, Int.reduceNeg, Int.reduceToNat, Int.reducePow, Nat.reducePow, Int.reduceMul, Int.reduceDiv, ↓s_model_Of, hlen]
    refine hloop.trans ?_
    simp (disch := first | with_reducible rfl | assumption | omega | rfl | (simp only [go_sem]; first | done | omega)) only [go_sem, ↓reduceIte, reduceCtorEq, Nat.reduceEqDiff, Nat.reduceAdd, Nat.reduceSub, Nat.reduceMul, Nat.reduceDiv, Nat.reduceMod, Nat.reduceLeDiff, Nat.reduceLT, Nat.reduceBEq, Int.reduceEq, Int.reduceBEq, Int.reduceBNe, Int.reduceLT, Int.reduceLE, Int.reduceAdd, Int.reduceSub, Int.reduceNeg, Int.reduceToNat, Int.reducePow, Nat.reducePow, Int.reduceMul, Int.reduceDiv, hlen, decide_eq_true hgt]
    rfl
  · exact hs

theorem q_Of (l : List Pr) (v : Value) (H : AHeap) (hr : Rd EPr H v l) (h : ofErr none l = 0) (hf : l.length ≤ 20000) :
    ∃ b H', CC F.model_Of [v] H = some (.tuple #[.pointer (some ⟨b, 0, none⟩), .int .i64 0], H') ∧ Mdl H' b l ∧ Still H H' ∧ H.n ≤ b ∧ (∀ c, MB H' b c → H.n ≤ c) := by
  have hlen := hr.lenS
  have hgt : ¬ (20000 : Int) < (l.length : Int) := by omega
  obtain ⟨H1, hs, hloop⟩ := l_ofP l v H hr (by omega) (seqK (fun tT h2 => bareK (lenS (get tT 0)) h2 fun t39 h3 =>
    bareK (xbin Try.prog .gtr T.int (.tmp 39) (.const (.int .i64 20000)) t39 (.int .i64 20000)) h3 fun t40 h4 =>
    condL t40 (fun k2 => k2 .ret [(2, (.pointer none)), (3, (.int .i64 7))] h4) (fun k2 =>
    k2 .normal [(0, (get tT 0))] h4) (seqK (fun tT_1 h5 =>
    enterK CC F.slices_Clone_Pair [(get tT_1 0)] h5 fun t42 h6 =>
    bareK (bldS #[(.slice none 0 0)] [(0, 1)] [(0, t42)]) h6 fun t43 h7 =>
    bothK (newv T.model_Model t43 h7) fun t44 h8 =>
    endK Try.prog [.tmp 2, .tmp 3] .ret [(2, t44), (3, (.int .i64 0))] h8) (endK Try.prog [.tmp 2, .tmp 3]))) (endK Try.prog [.tmp 2, .tmp 3])) l 0 H none rfl (Fr.refl H) (by omega) rfl
  rw [if_pos h] at hloop
  obtain ⟨v5, H2, hcl, ho5, s2, hn5⟩ := q_clone_Pair l v H1 (hr.still hs) (by omega)
  have n1 : H.n ≤ H1.n := hs.n
  have n2 : H1.n ≤ H2.n := s2.n
  have s12 : Still H H2 := hs.still.then s2 fun _ _ h => h
  refine ⟨H2.n, H2.push (.cells [v5] T.model_Model true), (d_model_Of _ H (r := (.tuple #[.pointer (some ⟨H2.n, 0, none⟩), .int .i64 0], _)) ?_).trans (congrArg some (tidy_mem rfl)), ?_, s12.push _, by omega, ?_⟩
  · obtain ⟨a, n, c, hv5⟩ : ∃ a n c, v5 = .slice a n c := by
      rcases ho5 with ⟨_, h⟩ | ⟨_, a, h, _⟩ | ⟨b, o, c, xs, h, _⟩ <;> exact ⟨_, _, _, h⟩
    subst hv5
    simp (disch := first | with_reducible rfl | assumption | omega | rfl | (simp only [go_sem]; first | done | omega)) only [go_sem, ↓reduceIte, reduceCtorEq, Nat.reduceEqDiff, Nat.reduceAdd, Nat.reduceSub, Nat.reduceMul, Nat.reduceDiv, Nat.reduceMod, Nat.reduceLeDiff, Nat.reduceLT, Nat.reduceBEq, Int.reduceEq, Int.reduceBEq, Int.reduceBNe, Int.reduceLT, Int.reduceLE, Int.reduceAdd, Int.reduceSub, Int.reduceNeg, Int.reduceToNat, Int.reducePow, Nat.reducePow, Int.reduceMul, Int.reduceDiv, ↓s_model_Of, hlen]
    refine hloop.trans ?_
    simp (disch := first | with_reducible rfl | assumption | omega | rfl | (simp only [go_sem]; first | done | omega)) only [go_sem, ↓reduceIte, reduceCtorEq, Nat.reduceEqDiff, Nat.reduceAdd, Nat.reduceSub, Nat.reduceMul, Nat.reduceDiv, Nat.reduceMod, Nat.reduceLeDiff, Nat.reduceLT, Nat.reduceBEq, Int.reduceEq, Int.reduceBEq, Int.reduceBNe, Int.reduceLT, Int.reduceLE, Int.reduceAdd, Int.reduceSub, Int.reduceNeg, Int.reduceToNat, Int.reducePow, Nat.reducePow, Int.reduceMul, Int.reduceDiv, hlen, decide_eq_false hgt, enterK_eq hcl]
  · refine ⟨v5, push_f_eq rfl, by simp, ho5.still ((Fr.refl _).push _), fun h => by have := ho5.blk h; omega⟩
  · intro c h
    rcases h with h | ⟨u, hu, hb⟩
    · omega
    · rw [push_f_eq rfl] at hu
      cases hu
      have := hn5 c hb
      omega

end Go.Proofs.Ytlagijfkkpbbnaa
