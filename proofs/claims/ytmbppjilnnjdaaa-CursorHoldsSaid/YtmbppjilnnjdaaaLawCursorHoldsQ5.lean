/-
  19 texts in one (merge.py): R S U W X ME Y ShCursorPlays DsCursorPlays ShCursorNew DsCursorNew Eng28 New Eng27 Dec Z V ShCursorHolds DsCursorHolds.
  Conditions: none. By an AI agent.
-/
import Derived.Test.YtmbppjilnnjdaaaLawCursorHoldsQ4
import Derived.Test.YtmbppjilnnjdaaaChecked
import Derived.KernelRfl
import Derived.ChangeArms
import Derived.DataReads
import Derived.ChangeShapes
import Derived.WideShapes

/-
  Chapter 42: the law's own cursor: prev.
  Conditions: none. By an AI agent.
-/
set_option maxRecDepth 10000
set_option linter.unusedSimpArgs false
set_option linter.unusedVariables false
namespace Go.Proofs.Ytmbppjilnnjdaaa
open Go Eng

/-- What came. -/
def prevK (side : Int) (k : ByteArray) (a : Pr) : Bool := decide (0 < side) || (decide (side = 0) && decide (cmpS a.key k < 0))

theorem last_take {l : List Pr} {p : Pr → Bool} {n : Nat} (h : n < l.length) : ((l.take (n + 1)).filter p).getLast? = if p l[n] = true then some l[n] else ((l.take n).filter p).getLast? := by
  rw [List.take_succ_eq_append_getElem h, List.filter_append]
  by_cases hp : p l[n] = true
  · rw [if_pos hp, List.filter_cons_of_pos hp]; simp
  · rw [if_neg hp, List.filter_cons_of_neg hp]; simp

theorem l_prev (b : Nat) (l : List Pr) (v : Value) (t4 : Nat) (sf st k : ByteArray) (side : Int) (H : AHeap) (ok : Ok H) (c : ModL H b sf st k side) (hr : Rd EPr H v l) (hl : l.length ≤ 20000) (h4 : H.f t4 = .cells [.string (mk []), .string (mk [])] T.api_Pair true) (h4n : t4 < H.n) (h4b : t4 ≠ b) :
    ∀ (n : Nat), n ≤ l.length → (((l.take n).filter (prevK side k)).getLast? = none ∧ ∀ K : K, l_law_Model_prev_0 (.pointer (some ⟨b, 0, none⟩)) (.pointer (some ⟨t4, 0, none⟩)) v (.int .i64 ((n : Int) - 1)) H (blkK [0, 4] 0 K) = K .normal [(0, .pointer (some ⟨b, 0, none⟩)), (4, .pointer (some ⟨t4, 0, none⟩))] H)
      ∨ ∃ a H', ((l.take n).filter (prevK side k)).getLast? = some a ∧ ModL H' b sf st a.key 0 ∧ Fr (fun c => c = b ∨ c = t4) H H' ∧ H'.f t4 = .cells [.string a.key, .string a.value] T.api_Pair true ∧
        ∀ K : K, l_law_Model_prev_0 (.pointer (some ⟨b, 0, none⟩)) (.pointer (some ⟨t4, 0, none⟩)) v (.int .i64 ((n : Int) - 1)) H (blkK [0, 4] 0 K) = K .ret [(4, .pointer (some ⟨t4, 0, none⟩)), (5, .int .i64 0)] H'
  | 0, hn => by
    refine .inl ⟨by simp, fun K => ?_⟩
    rw [r_law_Model_prev_0]
    simp (disch := first | with_reducible rfl | assumption | omega | rfl | (simp only [go_sem]; first | done | omega)) only [go_sem, ↓reduceIte, reduceCtorEq, Nat.reduceEqDiff, Nat.reduceAdd, Nat.reduceSub, Nat.reduceMul, Nat.reduceDiv, Nat.reduceMod, Nat.reduceLeDiff, Nat.reduceLT, Nat.reduceBEq, Int.reduceEq, Int.reduceBEq, Int.reduceBNe, Int.reduceLT, Int.reduceLE, Int.reduceAdd, Int.reduceSub, Int.reduceNeg, Int.reduceToNat, Int.reducePow, Nat.reducePow, Int.reduceMul, Int.reduceDiv, ↓s_law_Model_prev_b0]
  | n + 1, hn => by
    have h : n < l.length := hn
    have hge : (0 : Int) ≤ (n : Int) := by omega
    have hsub : ((n + 1 : Nat) : Int) - 1 = (n : Int) := by omega
    have hcm := c.1
    obtain ⟨b1, o1, hix1, hb1, hc1, _⟩ := hr.ix (q := .i64) h
    have hix1 : ixS 2 v (.int .i64 n) = some (.pointer (some ⟨b1, o1, none⟩)) := hix1
    have hck : cellB (H.f b1) o1 = some (.string l[n].key) := cutB_cell hc1 (i := 0) (by decide)
    have hc1 : cutB (H.f b1) o1 2 = some [.string l[n].key, .string l[n].value] := hc1
    rw [last_take h, hsub]
    by_cases hp : prevK side k l[n] = true
    · rw [if_pos hp]
      obtain ⟨H1, hto, c1, fr1⟩ := q_to_some b l[n] (-1) sf st k side H ok c
      have f4 : H1.f t4 = .cells [.string (mk []), .string (mk [])] T.api_Pair true := by rw [fr1.f h4n h4b, h4]
      generalize hH2 : H1.set t4 (.cells [.string l[n].key, .string l[n].value] T.api_Pair true) = H2
      have f2 : H2.f t4 = .cells [.string l[n].key, .string l[n].value] T.api_Pair true := by rw [← hH2]; exact set_f_eq
      have fr2 : Fr (fun c => c = b ∨ c = t4) H H2 := by rw [← hH2]; exact Fr.set (fr1.mono fun c _ h => .inl h) _ _ fun _ => .inr rfl
      refine .inr ⟨l[n], H2, rfl, ⟨by rw [← hH2, set_f_ne (fun h => h4b h.symm)]; exact c1.1, by rw [← hH2]; exact c1.2⟩, fr2, f2, fun K => ?_⟩
      unfold prevK at hp
      rw [r_law_Model_prev_0]
      by_cases e1 : 0 < side
      · simp (disch := first | with_reducible rfl | assumption | omega | rfl | (simp only [go_sem]; first | done | omega)) only [go_sem, ↓reduceIte, reduceCtorEq, Nat.reduceEqDiff, Nat.reduceAdd, Nat.reduceSub, Nat.reduceMul, Nat.reduceDiv, Nat.reduceMod, Nat.reduceLeDiff, Nat.reduceLT, Nat.reduceBEq, Int.reduceEq, Int.reduceBEq, Int.reduceBNe, Int.reduceLT, Int.reduceLE, Int.reduceAdd, Int.reduceSub, Int.reduceNeg, Int.reduceToNat, Int.reducePow, Nat.reducePow, Int.reduceMul, Int.reduceDiv, ↓s_law_Model_prev_b0, hge, hcm, decide_eq_true e1, hix1, hc1, enterK_eq hto, f4, hH2]
      · rw [decide_eq_false e1, Bool.false_or, Bool.and_eq_true] at hp
        have e2 : side = 0 := of_decide_eq_true hp.1
        simp (disch := first | with_reducible rfl | assumption | omega | rfl | (simp only [go_sem]; first | done | omega)) only [go_sem, ↓reduceIte, reduceCtorEq, Nat.reduceEqDiff, Nat.reduceAdd, Nat.reduceSub, Nat.reduceMul, Nat.reduceDiv, Nat.reduceMod, Nat.reduceLeDiff, Nat.reduceLT, Nat.reduceBEq, Int.reduceEq, Int.reduceBEq, Int.reduceBNe, Int.reduceLT, Int.reduceLE, Int.reduceAdd, Int.reduceSub, Int.reduceNeg, Int.reduceToNat, Int.reducePow, Nat.reducePow, Int.reduceMul, Int.reduceDiv, ↓s_law_Model_prev_b0, hge, hcm, decide_eq_false e1, decide_eq_true e2, hix1, hck, less_cmpS, hp.2, hc1, enterK_eq hto, f4, hH2]
    · rw [if_neg hp]
      have step : ∀ K : K, l_law_Model_prev_0 (.pointer (some ⟨b, 0, none⟩)) (.pointer (some ⟨t4, 0, none⟩)) v (.int .i64 (n : Int)) H (blkK [0, 4] 0 K) = l_law_Model_prev_0 (.pointer (some ⟨b, 0, none⟩)) (.pointer (some ⟨t4, 0, none⟩)) v (.int .i64 ((n : Int) - 1)) H (blkK [0, 4] 0 K) := fun K => by
        have hp : prevK side k l[n] = false := by simpa using hp
        unfold prevK at hp
        rw [Bool.or_eq_false_iff] at hp
        have e1 : ¬ 0 < side := of_decide_eq_false hp.1
        rw [r_law_Model_prev_0]
        by_cases e2 : side = 0
        · have e3 : decide (cmpS l[n].key k < 0) = false := by have := hp.2; rw [decide_eq_true e2, Bool.true_and] at this; exact this
          simp (disch := first | with_reducible rfl | assumption | omega | rfl | (simp only [go_sem]; first | done | omega)) only [go_sem, ↓reduceIte, reduceCtorEq, Nat.reduceEqDiff, Nat.reduceAdd, Nat.reduceSub, Nat.reduceMul, Nat.reduceDiv, Nat.reduceMod, Nat.reduceLeDiff, Nat.reduceLT, Nat.reduceBEq, Int.reduceEq, Int.reduceBEq, Int.reduceBNe, Int.reduceLT, Int.reduceLE, Int.reduceAdd, Int.reduceSub, Int.reduceNeg, Int.reduceToNat, Int.reducePow, Nat.reducePow, Int.reduceMul, Int.reduceDiv, ↓s_law_Model_prev_b0, hge, hcm, decide_eq_false e1, decide_eq_true e2, hix1, hck, less_cmpS, e3]
        · simp (disch := first | with_reducible rfl | assumption | omega | rfl | (simp only [go_sem]; first | done | omega)) only [go_sem, ↓reduceIte, reduceCtorEq, Nat.reduceEqDiff, Nat.reduceAdd, Nat.reduceSub, Nat.reduceMul, Nat.reduceDiv, Nat.reduceMod, Nat.reduceLeDiff, Nat.reduceLT, Nat.reduceBEq, Int.reduceEq, Int.reduceBEq, Int.reduceBNe, Int.reduceLT, Int.reduceLE, Int.reduceAdd, Int.reduceSub, Int.reduceNeg, Int.reduceToNat, Int.reducePow, Nat.reducePow, Int.reduceMul, Int.reduceDiv, ↓s_law_Model_prev_b0, hge, hcm, decide_eq_false e1, decide_eq_false e2]
      rcases l_prev b l v t4 sf st k side H ok c hr hl h4 h4n h4b n (by omega) with ⟨q, ih⟩ | ⟨a, H', q, p1, p2, p3, ih⟩
      · exact .inl ⟨q, fun K => (step K).trans (ih K)⟩
      · exact .inr ⟨a, H', q, p1, p2, p3, fun K => (step K).trans (ih K)⟩

theorem q_prev (b bm : Nat) (l : List Pr) (sf st key : ByteArray) (side : Int) (H : AHeap) (ok : Ok H) (c : ModL H b sf st key side) (r : Mdl H bm l) (hl : l.length ≤ 20000) :
    ∃ w H', w = toM (((l.filter (inR sf st)).filter (prevK side key)).getLast?) (-1) ∧ CC F.law_Model_prev [.pointer (some ⟨b, 0, none⟩), .pointer (some ⟨bm, 0, none⟩)] H = some (.tuple #[.agg #[.string w.1.key, .string w.1.value], .int .i64 w.2.1], H') ∧ ModL H' b sf st w.2.2.1 w.2.2.2 ∧ Fr (fun c => c = b) H H' := by
  have hb := c.2
  generalize hH1 : H.push (.cells [.string (mk []), .string (mk [])] T.api_Pair true) = H1
  have s1 : Still H H1 := by rw [← hH1]; exact (Fr.refl H).push _
  have n1 : H1.n = H.n + 1 := by rw [← hH1]; rfl
  have f1 : H1.f H.n = .cells [.string (mk []), .string (mk [])] T.api_Pair true := by rw [← hH1]; exact push_f_eq rfl
  obtain ⟨v, H2, hr, ho, s2, _⟩ := q_list b bm l sf st key side H1 (c.still s1) (r.still s1) hl
  have hlR := len_filter hl (inR sf st)
  generalize l.filter (inR sf st) = R at ho hlR ⊢
  have hlen := ho.rd.lenS
  have st2 : Still H H2 := s1.still.then s2 fun _ _ h => h
  have f2 : H2.f H.n = .cells [.string (mk []), .string (mk [])] T.api_Pair true := by rw [s2.f (by omega) (fun h => h), f1]
  have n2 : H1.n ≤ H2.n := s2.n
  have ok2 := ok.fr st2
  have c2 := c.still st2
  rcases l_prev b R v H.n sf st key side H2 ok2 c2 ho.rd hlR f2 (by omega) (by omega) R.length (Nat.le_refl _) with ⟨q, hloop⟩ | ⟨a, H3, q, c3, fr3, f3, hloop⟩
  · rw [List.take_length] at q
    obtain ⟨H3, hto, c3, fr3⟩ := q_to_none b (-1) sf st key side H2 ok2 c2
    have f3 : H3.f H.n = .cells [.string (mk []), .string (mk [])] T.api_Pair true := by rw [fr3.f (by omega) (by omega), f2]
    have fr : Fr (fun c => c = b) H H3 := st2.still.then fr3 fun c _ h => h
    generalize hH4 : H3.set H.n (.cells [.string (mk []), .string (mk [])] T.api_Pair true) = H4
    have f4 : H4.f H.n = .cells [.string (mk []), .string (mk [])] T.api_Pair true := by rw [← hH4]; exact set_f_eq
    have c4 : ModL H4 b sf st (mk []) (-1) := ⟨by rw [← hH4, set_f_ne (by omega)]; exact c3.1, by rw [← hH4]; exact c3.2⟩
    have fr4 : Fr (fun c => c = b) H H4 := by rw [← hH4]; exact Fr.set fr _ _ fun h => by omega
    obtain ⟨H5, hx, c5, fr5⟩ := ModL.tidied (v := .tuple #[.agg #[.string (mk []), .string (mk [])], .int .i64 17]) ok c c4 fr4
    rw [q]
    refine ⟨_, H5, rfl, (d_law_Model_prev _ _ H (r := (.tuple #[.agg #[.string (mk []), .string (mk [])], .int .i64 17], H4)) ?_).trans (congrArg some hx), c5, fr5⟩
    simp (disch := first | with_reducible rfl | assumption | omega | rfl | (simp only [go_sem]; first | done | omega)) only [go_sem, ↓reduceIte, reduceCtorEq, Nat.reduceEqDiff, Nat.reduceAdd, Nat.reduceSub, Nat.reduceMul, Nat.reduceDiv, Nat.reduceMod, Nat.reduceLeDiff, Nat.reduceLT, Nat.reduceBEq, Int.reduceEq, Int.reduceBEq, Int.reduceBNe, Int.reduceLT, Int.reduceLE, Int.reduceAdd, Int.reduceSub, Int.reduceNeg, Int.reduceToNat, Int.reducePow, Nat.reducePow, Int.reduceMul, Int.reduceDiv, ↓s_law_Model_prev, hH1, enterK_eq hr, hlen]
    refine (hloop _).trans ?_
    simp (disch := first | with_reducible rfl | assumption | omega | rfl | (simp only [go_sem]; first | done | omega)) only [go_sem, ↓reduceIte, reduceCtorEq, Nat.reduceEqDiff, Nat.reduceAdd, Nat.reduceSub, Nat.reduceMul, Nat.reduceDiv, Nat.reduceMod, Nat.reduceLeDiff, Nat.reduceLT, Nat.reduceBEq, Int.reduceEq, Int.reduceBEq, Int.reduceBNe, Int.reduceLT, Int.reduceLE, Int.reduceAdd, Int.reduceSub, Int.reduceNeg, Int.reduceToNat, Int.reducePow, Nat.reducePow, Int.reduceMul, Int.reduceDiv, enterK_eq hto, f3, hH4, f4]
  · rw [List.take_length] at q
    have fr : Fr (fun c => c = b) H H3 := st2.still.then fr3 fun c hc h => by rcases h with h | h; · exact h
                                                                              · omega
    obtain ⟨H5, hx, c5, fr5⟩ := ModL.tidied (v := .tuple #[.agg #[.string a.key, .string a.value], .int .i64 0]) ok c c3 fr
    rw [q]
    refine ⟨_, H5, rfl, (d_law_Model_prev _ _ H (r := (.tuple #[.agg #[.string a.key, .string a.value], .int .i64 0], H3)) ?_).trans (congrArg some hx), c5, fr5⟩
    simp (disch := first | with_reducible rfl | assumption | omega | rfl | (simp only [go_sem]; first | done | omega)) only [go_sem, ↓reduceIte, reduceCtorEq, Nat.reduceEqDiff, Nat.reduceAdd, Nat.reduceSub, Nat.reduceMul, Nat.reduceDiv, Nat.reduceMod, Nat.reduceLeDiff, Nat.reduceLT, Nat.reduceBEq, Int.reduceEq, Int.reduceBEq, Int.reduceBNe, Int.reduceLT, Int.reduceLE, Int.reduceAdd, Int.reduceSub, Int.reduceNeg, Int.reduceToNat, Int.reducePow, Nat.reducePow, Int.reduceMul, Int.reduceDiv, ↓s_law_Model_prev, hH1, enterK_eq hr, hlen]
    refine (hloop _).trans ?_
    simp (disch := first | with_reducible rfl | assumption | omega | rfl | (simp only [go_sem]; first | done | omega)) only [go_sem, ↓reduceIte, reduceCtorEq, Nat.reduceEqDiff, Nat.reduceAdd, Nat.reduceSub, Nat.reduceMul, Nat.reduceDiv, Nat.reduceMod, Nat.reduceLeDiff, Nat.reduceLT, Nat.reduceBEq, Int.reduceEq, Int.reduceBEq, Int.reduceBNe, Int.reduceLT, Int.reduceLE, Int.reduceAdd, Int.reduceSub, Int.reduceNeg, Int.reduceToNat, Int.reducePow, Nat.reducePow, Int.reduceMul, Int.reduceDiv, f3]

end Go.Proofs.Ytmbppjilnnjdaaa

/-
  Chapter 42: the law's own cursor: seek.
  Conditions: none. By an AI agent.
-/
set_option maxRecDepth 10000
set_option linter.unusedSimpArgs false
set_option linter.unusedVariables false
namespace Go.Proofs.Ytmbppjilnnjdaaa
open Go Eng

def geK (k : ByteArray) (a : Pr) : Bool := !decide (cmpS a.key k < 0)

theorem l_seek (b : Nat) (l : List Pr) (v : Value) (t4 : Nat) (sf st k key : ByteArray) (side : Int) (H : AHeap) (ok : Ok H) (c : ModL H b sf st k side) (hr : Rd EPr H v l) (hl : l.length ≤ 20000) (h4 : H.f t4 = .cells [.string (mk []), .string (mk [])] T.api_Pair true) (h4n : t4 < H.n) (h4b : t4 ≠ b) :
    ∀ (x : List Pr) (i : Nat), l.drop i = x → i ≤ l.length → (x.find? (geK key) = none ∧ ∀ K : K, l_law_Model_seek_0 (.pointer (some ⟨b, 0, none⟩)) (.string key) (.pointer (some ⟨t4, 0, none⟩)) v (.int .i64 (i : Int)) H (blkK [0, 6] 1 K) = K .normal [(0, .pointer (some ⟨b, 0, none⟩)), (6, .pointer (some ⟨t4, 0, none⟩))] H)
      ∨ ∃ a H', x.find? (geK key) = some a ∧ ModL H' b sf st a.key 0 ∧ Fr (fun c => c = b ∨ c = t4) H H' ∧ H'.f t4 = .cells [.string a.key, .string a.value] T.api_Pair true ∧
        ∀ K : K, l_law_Model_seek_0 (.pointer (some ⟨b, 0, none⟩)) (.string key) (.pointer (some ⟨t4, 0, none⟩)) v (.int .i64 (i : Int)) H (blkK [0, 6] 1 K) = K .ret [(6, .pointer (some ⟨t4, 0, none⟩)), (7, .int .i64 0)] H'
  | [], i, hx, hi => by
    have h : l.length ≤ i := List.drop_eq_nil_iff.1 hx
    have hlt : ¬ (i : Int) < (l.length : Int) := by omega
    have hlen := hr.lenS
    refine .inl ⟨rfl, fun K => ?_⟩
    rw [r_law_Model_seek_0]
    simp (disch := first | with_reducible rfl | assumption | omega | rfl | (simp only [go_sem]; first | done | omega)) only [go_sem, ↓reduceIte, reduceCtorEq, Nat.reduceEqDiff, Nat.reduceAdd, Nat.reduceSub, Nat.reduceMul, Nat.reduceDiv, Nat.reduceMod, Nat.reduceLeDiff, Nat.reduceLT, Nat.reduceBEq, Int.reduceEq, Int.reduceBEq, Int.reduceBNe, Int.reduceLT, Int.reduceLE, Int.reduceAdd, Int.reduceSub, Int.reduceNeg, Int.reduceToNat, Int.reducePow, Nat.reducePow, Int.reduceMul, Int.reduceDiv, ↓s_law_Model_seek_b0, hlen, hlt]
  | a :: x, i, hx, hi => by
    obtain ⟨h, hxa, hx'⟩ := drop_cons hx
    have hlt : (i : Int) < (l.length : Int) := by omega
    have hlen := hr.lenS
    obtain ⟨b1, o1, hix1, hb1, hc1, _⟩ := hr.ix (q := .i64) h
    rw [hxa] at hc1
    have hix1 : ixS 2 v (.int .i64 i) = some (.pointer (some ⟨b1, o1, none⟩)) := hix1
    have hck : cellB (H.f b1) o1 = some (.string a.key) := cutB_cell hc1 (i := 0) (by decide)
    have hc1 : cutB (H.f b1) o1 2 = some [.string a.key, .string a.value] := hc1
    by_cases hp : cmpS a.key key < 0
    · have hg : geK key a = false := by simp [geK, hp]
      rw [List.find?_cons_of_neg (by simp [hg])]
      have step : ∀ K : K, l_law_Model_seek_0 (.pointer (some ⟨b, 0, none⟩)) (.string key) (.pointer (some ⟨t4, 0, none⟩)) v (.int .i64 (i : Int)) H (blkK [0, 6] 1 K) = l_law_Model_seek_0 (.pointer (some ⟨b, 0, none⟩)) (.string key) (.pointer (some ⟨t4, 0, none⟩)) v (.int .i64 ((i + 1 : Nat) : Int)) H (blkK [0, 6] 1 K) := fun K => by
        rw [r_law_Model_seek_0, Int.natCast_add]
        simp (disch := first | with_reducible rfl | assumption | omega | rfl | (simp only [go_sem]; first | done | omega)) only [go_sem, ↓reduceIte, reduceCtorEq, Nat.reduceEqDiff, Nat.reduceAdd, Nat.reduceSub, Nat.reduceMul, Nat.reduceDiv, Nat.reduceMod, Nat.reduceLeDiff, Nat.reduceLT, Nat.reduceBEq, Int.reduceEq, Int.reduceBEq, Int.reduceBNe, Int.reduceLT, Int.reduceLE, Int.reduceAdd, Int.reduceSub, Int.reduceNeg, Int.reduceToNat, Int.reducePow, Nat.reducePow, Int.reduceMul, Int.reduceDiv, ↓s_law_Model_seek_b0, hlen, hlt, hix1, hck, less_cmpS, decide_eq_true hp]
      rcases l_seek b l v t4 sf st k key side H ok c hr hl h4 h4n h4b x (i + 1) hx' h with ⟨q, ih⟩ | ⟨a', H', q, p1, p2, p3, ih⟩
      · exact .inl ⟨q, fun K => (step K).trans (ih K)⟩
      · exact .inr ⟨a', H', q, p1, p2, p3, fun K => (step K).trans (ih K)⟩
    · have hg : geK key a = true := by simp [geK, hp]
      rw [List.find?_cons_of_pos hg]
      obtain ⟨H1, hto, c1, fr1⟩ := q_to_some b a 1 sf st k side H ok c
      have f4 : H1.f t4 = .cells [.string (mk []), .string (mk [])] T.api_Pair true := by rw [fr1.f h4n h4b, h4]
      generalize hH2 : H1.set t4 (.cells [.string a.key, .string a.value] T.api_Pair true) = H2
      have f2 : H2.f t4 = .cells [.string a.key, .string a.value] T.api_Pair true := by rw [← hH2]; exact set_f_eq
      have fr2 : Fr (fun c => c = b ∨ c = t4) H H2 := by rw [← hH2]; exact Fr.set (fr1.mono fun c _ h => .inl h) _ _ fun _ => .inr rfl
      refine .inr ⟨a, H2, rfl, ⟨by rw [← hH2, set_f_ne (fun h => h4b h.symm)]; exact c1.1, by rw [← hH2]; exact c1.2⟩, fr2, f2, fun K => ?_⟩
      rw [r_law_Model_seek_0]
      simp (disch := first | with_reducible rfl | assumption | omega | rfl | (simp only [go_sem]; first | done | omega)) only [go_sem, ↓reduceIte, reduceCtorEq, Nat.reduceEqDiff, Nat.reduceAdd, Nat.reduceSub, Nat.reduceMul, Nat.reduceDiv, Nat.reduceMod, Nat.reduceLeDiff, Nat.reduceLT, Nat.reduceBEq, Int.reduceEq, Int.reduceBEq, Int.reduceBNe, Int.reduceLT, Int.reduceLE, Int.reduceAdd, Int.reduceSub, Int.reduceNeg, Int.reduceToNat, Int.reducePow, Nat.reducePow, Int.reduceMul, Int.reduceDiv, ↓s_law_Model_seek_b0, hlen, hlt, hix1, hck, less_cmpS, decide_eq_false hp, hc1, enterK_eq hto, f4, hH2]

theorem q_mseek (b bm : Nat) (l : List Pr) (sf st key k : ByteArray) (side : Int) (H : AHeap) (ok : Ok H) (c : ModL H b sf st k side) (hk : seekErr sf st key = 0) (r : Mdl H bm l) (hl : l.length ≤ 20000) :
    ∃ w H', w = toM ((l.filter (inR sf st)).find? (geK key)) 1 ∧ CC F.law_Model_seek [.pointer (some ⟨b, 0, none⟩), .pointer (some ⟨bm, 0, none⟩), .string key] H = some (.tuple #[.agg #[.string w.1.key, .string w.1.value], .int .i64 w.2.1], H') ∧ ModL H' b sf st w.2.2.1 w.2.2.2 ∧ Fr (fun c => c = b) H H' := by
  have hb := c.2
  have e1 : ¬ bl key = [] := fun h => by unfold seekErr at hk; rw [if_pos h] at hk; cases hk
  have e1' : ¬ ((bl key).length : Int) = 0 := fun h => e1 (List.length_eq_zero_iff.1 (by omega))
  have e2 : ¬ 24 < ((bl key).length : Int) := fun h => by unfold seekErr at hk; rw [if_neg e1, if_pos h] at hk; cases hk
  have e3 : inR sf st ⟨key, mk []⟩ = true := by
    unfold seekErr at hk
    rw [if_neg e1, if_neg e2] at hk
    cases h : inR sf st ⟨key, mk []⟩ with
    | true => rfl
    | false => rw [h] at hk; cases hk
  generalize hH1 : H.push (.cells [.string (mk []), .string (mk [])] T.api_Pair true) = H1
  have s1 : Still H H1 := by rw [← hH1]; exact (Fr.refl H).push _
  have n1 : H1.n = H.n + 1 := by rw [← hH1]; rfl
  have f1 : H1.f H.n = .cells [.string (mk []), .string (mk [])] T.api_Pair true := by rw [← hH1]; exact push_f_eq rfl
  have hin := q_in b sf st k key side ⟨key, mk []⟩ H1 (c.still s1)
  rw [e3] at hin
  have hin : CC F.law_Model_in [.pointer (some ⟨b, 0, none⟩), .string key] H1 = some (.bool true, H1) := hin
  obtain ⟨v, H2, hr, ho, s2, _⟩ := q_list b bm l sf st k side H1 (c.still s1) (r.still s1) hl
  have hlR := len_filter hl (inR sf st)
  generalize l.filter (inR sf st) = R at ho hlR ⊢
  have st2 : Still H H2 := s1.still.then s2 fun _ _ h => h
  have f2 : H2.f H.n = .cells [.string (mk []), .string (mk [])] T.api_Pair true := by rw [s2.f (by omega) (fun h => h), f1]
  have n2 : H1.n ≤ H2.n := s2.n
  have ok2 := ok.fr st2
  have c2 := c.still st2
  rcases l_seek b R v H.n sf st k key side H2 ok2 c2 ho.rd hlR f2 (by omega) (by omega) R 0 rfl (by omega) with ⟨q, hloop⟩ | ⟨a, H3, q, c3, fr3, f3, hloop⟩
  · obtain ⟨H3, hto, c3, fr3⟩ := q_to_none b 1 sf st k side H2 ok2 c2
    have f3 : H3.f H.n = .cells [.string (mk []), .string (mk [])] T.api_Pair true := by rw [fr3.f (by omega) (by omega), f2]
    have fr : Fr (fun c => c = b) H H3 := st2.still.then fr3 fun c _ h => h
    generalize hH4 : H3.set H.n (.cells [.string (mk []), .string (mk [])] T.api_Pair true) = H4
    have f4 : H4.f H.n = .cells [.string (mk []), .string (mk [])] T.api_Pair true := by rw [← hH4]; exact set_f_eq
    have c4 : ModL H4 b sf st (mk []) 1 := ⟨by rw [← hH4, set_f_ne (by omega)]; exact c3.1, by rw [← hH4]; exact c3.2⟩
    have fr4 : Fr (fun c => c = b) H H4 := by rw [← hH4]; exact Fr.set fr _ _ fun h => by omega
    obtain ⟨H5, hx, c5, fr5⟩ := ModL.tidied (v := .tuple #[.agg #[.string (mk []), .string (mk [])], .int .i64 17]) ok c c4 fr4
    rw [q]
    refine ⟨_, H5, rfl, (d_law_Model_seek _ _ _ H (r := (.tuple #[.agg #[.string (mk []), .string (mk [])], .int .i64 17], H4)) ?_).trans (congrArg some hx), c5, fr5⟩
    simp (disch := first | with_reducible rfl | assumption | omega | rfl | (simp only [go_sem]; first | done | omega)) only [go_sem, ↓reduceIte, reduceCtorEq, Nat.reduceEqDiff, Nat.reduceAdd, Nat.reduceSub, Nat.reduceMul, Nat.reduceDiv, Nat.reduceMod, Nat.reduceLeDiff, Nat.reduceLT, Nat.reduceBEq, Int.reduceEq, Int.reduceBEq, Int.reduceBNe, Int.reduceLT, Int.reduceLE, Int.reduceAdd, Int.reduceSub, Int.reduceNeg, Int.reduceToNat, Int.reducePow, Nat.reducePow, Int.reduceMul, Int.reduceDiv, ↓s_law_Model_seek, hH1, decide_eq_false e1', decide_eq_false e2, enterK_eq hin, enterK_eq hr]
    refine (hloop _).trans ?_
    simp (disch := first | with_reducible rfl | assumption | omega | rfl | (simp only [go_sem]; first | done | omega)) only [go_sem, ↓reduceIte, reduceCtorEq, Nat.reduceEqDiff, Nat.reduceAdd, Nat.reduceSub, Nat.reduceMul, Nat.reduceDiv, Nat.reduceMod, Nat.reduceLeDiff, Nat.reduceLT, Nat.reduceBEq, Int.reduceEq, Int.reduceBEq, Int.reduceBNe, Int.reduceLT, Int.reduceLE, Int.reduceAdd, Int.reduceSub, Int.reduceNeg, Int.reduceToNat, Int.reducePow, Nat.reducePow, Int.reduceMul, Int.reduceDiv, enterK_eq hto, f3, hH4, f4]
  · have fr : Fr (fun c => c = b) H H3 := st2.still.then fr3 fun c hc h => by rcases h with h | h; · exact h
                                                                              · omega
    obtain ⟨H5, hx, c5, fr5⟩ := ModL.tidied (v := .tuple #[.agg #[.string a.key, .string a.value], .int .i64 0]) ok c c3 fr
    rw [q]
    refine ⟨_, H5, rfl, (d_law_Model_seek _ _ _ H (r := (.tuple #[.agg #[.string a.key, .string a.value], .int .i64 0], H3)) ?_).trans (congrArg some hx), c5, fr5⟩
    simp (disch := first | with_reducible rfl | assumption | omega | rfl | (simp only [go_sem]; first | done | omega)) only [go_sem, ↓reduceIte, reduceCtorEq, Nat.reduceEqDiff, Nat.reduceAdd, Nat.reduceSub, Nat.reduceMul, Nat.reduceDiv, Nat.reduceMod, Nat.reduceLeDiff, Nat.reduceLT, Nat.reduceBEq, Int.reduceEq, Int.reduceBEq, Int.reduceBNe, Int.reduceLT, Int.reduceLE, Int.reduceAdd, Int.reduceSub, Int.reduceNeg, Int.reduceToNat, Int.reducePow, Nat.reducePow, Int.reduceMul, Int.reduceDiv, ↓s_law_Model_seek, hH1, decide_eq_false e1', decide_eq_false e2, enterK_eq hin, enterK_eq hr]
    refine (hloop _).trans ?_
    simp (disch := first | with_reducible rfl | assumption | omega | rfl | (simp only [go_sem]; first | done | omega)) only [go_sem, ↓reduceIte, reduceCtorEq, Nat.reduceEqDiff, Nat.reduceAdd, Nat.reduceSub, Nat.reduceMul, Nat.reduceDiv, Nat.reduceMod, Nat.reduceLeDiff, Nat.reduceLT, Nat.reduceBEq, Int.reduceEq, Int.reduceBEq, Int.reduceBNe, Int.reduceLT, Int.reduceLE, Int.reduceAdd, Int.reduceSub, Int.reduceNeg, Int.reduceToNat, Int.reducePow, Nat.reducePow, Int.reduceMul, Int.reduceDiv, f3]

end Go.Proofs.Ytmbppjilnnjdaaa

/-
  Chapter 42: the law's next, prev, seek (printed by gen_u.py).
  Conditions: none. By an AI agent.
-/
set_option maxRecDepth 10000
set_option linter.unusedSimpArgs false
set_option linter.unusedVariables false
namespace Go.Proofs.Ytmbppjilnnjdaaa
open Go Eng

/-- A call of the law about a call of the cursor that answers w. -/
theorem q_lnext (b bm : Nat) (sf st key : ByteArray) (side : Int) (w : Pr × Int × Int × ByteArray) (H H1 : AHeap) (ok : Ok H) (c : Cur H b sf st side key) (hc : CC F.cursor_Cursor_Next [.pointer (some ⟨b, 0, none⟩), .pointer (some ⟨bm, 0, none⟩)] H = some (.tuple #[.agg #[.string w.1.key, .string w.1.value], .int .i64 w.2.1], H1)) (c1 : Cur H1 b sf st w.2.2.1 w.2.2.2) (fr1 : Fr (fun c => c = b) H H1) :
    ∃ H', CC F.law_next [.pointer (some ⟨b, 0, none⟩), .pointer (some ⟨bm, 0, none⟩), .string w.1.key, .string w.1.value, .int .i64 w.2.1] H = some (.bool true, H') ∧ Cur H' b sf st w.2.2.1 w.2.2.2 ∧ Fr (fun c => c = b) H H' := by
  obtain ⟨⟨wk, wv⟩, we, ws, wkey⟩ := w
  simp only at hc c1 ⊢
  generalize hH2 : (H1.push (.cells [.string (mk []), .string (mk [])] T.api_Pair true)).set H1.n (.cells [.string wk, .string wv] T.api_Pair true) = H2
  have s2 : Still H1 H2 := by rw [← hH2]; exact Fr.set ((Fr.refl H1).push _) _ _ (fun h => by omega)
  have f2 : H2.f H1.n = .cells [.string wk, .string wv] T.api_Pair true := by rw [← hH2]; exact set_f_eq
  have fr2 : Fr (fun c => c = b) H H2 := fr1.then s2 fun _ _ h => h.elim
  obtain ⟨H3, hx, c3, fr3⟩ := Cur.tidied (v := .bool true) ok c (c1.still s2) fr2
  refine ⟨H3, (d_law_next _ _ _ _ _ H (r := (.bool true, H2)) ?_).trans (congrArg some hx), c3, fr3⟩
  simp (disch := first | with_reducible rfl | assumption | omega | rfl | (simp only [go_sem]; first | done | omega)) only [go_sem, ↓reduceIte, reduceCtorEq, Nat.reduceEqDiff, Nat.reduceAdd, Nat.reduceSub, Nat.reduceMul, Nat.reduceDiv, Nat.reduceMod, Nat.reduceLeDiff, Nat.reduceLT, Nat.reduceBEq, Int.reduceEq, Int.reduceBEq, Int.reduceBNe, Int.reduceLT, Int.reduceLE, Int.reduceAdd, Int.reduceSub, Int.reduceNeg, Int.reduceToNat, Int.reducePow, Nat.reducePow, Int.reduceMul, Int.reduceDiv, ↓s_law_next, enterK_eq hc, hH2, f2]

/-- A call of the law about a call of the cursor that answers w. -/
theorem q_lprev (b bm : Nat) (sf st key : ByteArray) (side : Int) (w : Pr × Int × Int × ByteArray) (H H1 : AHeap) (ok : Ok H) (c : Cur H b sf st side key) (hc : CC F.cursor_Cursor_Prev [.pointer (some ⟨b, 0, none⟩), .pointer (some ⟨bm, 0, none⟩)] H = some (.tuple #[.agg #[.string w.1.key, .string w.1.value], .int .i64 w.2.1], H1)) (c1 : Cur H1 b sf st w.2.2.1 w.2.2.2) (fr1 : Fr (fun c => c = b) H H1) :
    ∃ H', CC F.law_prev [.pointer (some ⟨b, 0, none⟩), .pointer (some ⟨bm, 0, none⟩), .string w.1.key, .string w.1.value, .int .i64 w.2.1] H = some (.bool true, H') ∧ Cur H' b sf st w.2.2.1 w.2.2.2 ∧ Fr (fun c => c = b) H H' := by
  obtain ⟨⟨wk, wv⟩, we, ws, wkey⟩ := w
  simp only at hc c1 ⊢
  generalize hH2 : (H1.push (.cells [.string (mk []), .string (mk [])] T.api_Pair true)).set H1.n (.cells [.string wk, .string wv] T.api_Pair true) = H2
  have s2 : Still H1 H2 := by rw [← hH2]; exact Fr.set ((Fr.refl H1).push _) _ _ (fun h => by omega)
  have f2 : H2.f H1.n = .cells [.string wk, .string wv] T.api_Pair true := by rw [← hH2]; exact set_f_eq
  have fr2 : Fr (fun c => c = b) H H2 := fr1.then s2 fun _ _ h => h.elim
  obtain ⟨H3, hx, c3, fr3⟩ := Cur.tidied (v := .bool true) ok c (c1.still s2) fr2
  refine ⟨H3, (d_law_prev _ _ _ _ _ H (r := (.bool true, H2)) ?_).trans (congrArg some hx), c3, fr3⟩
  simp (disch := first | with_reducible rfl | assumption | omega | rfl | (simp only [go_sem]; first | done | omega)) only [go_sem, ↓reduceIte, reduceCtorEq, Nat.reduceEqDiff, Nat.reduceAdd, Nat.reduceSub, Nat.reduceMul, Nat.reduceDiv, Nat.reduceMod, Nat.reduceLeDiff, Nat.reduceLT, Nat.reduceBEq, Int.reduceEq, Int.reduceBEq, Int.reduceBNe, Int.reduceLT, Int.reduceLE, Int.reduceAdd, Int.reduceSub, Int.reduceNeg, Int.reduceToNat, Int.reducePow, Nat.reducePow, Int.reduceMul, Int.reduceDiv, ↓s_law_prev, enterK_eq hc, hH2, f2]

/-- A call of the law about a call of the cursor that answers w. -/
theorem q_lseek (b bm : Nat) (sf st key : ByteArray) (side : Int) (to : ByteArray) (w : Pr × Int × Int × ByteArray) (H H1 : AHeap) (ok : Ok H) (c : Cur H b sf st side key) (hc : CC F.cursor_Cursor_Seek [.pointer (some ⟨b, 0, none⟩), .pointer (some ⟨bm, 0, none⟩), .string to] H = some (.tuple #[.agg #[.string w.1.key, .string w.1.value], .int .i64 w.2.1], H1)) (c1 : Cur H1 b sf st w.2.2.1 w.2.2.2) (fr1 : Fr (fun c => c = b) H H1) :
    ∃ H', CC F.law_seek [.pointer (some ⟨b, 0, none⟩), .pointer (some ⟨bm, 0, none⟩), .string to, .string w.1.key, .string w.1.value, .int .i64 w.2.1] H = some (.bool true, H') ∧ Cur H' b sf st w.2.2.1 w.2.2.2 ∧ Fr (fun c => c = b) H H' := by
  obtain ⟨⟨wk, wv⟩, we, ws, wkey⟩ := w
  simp only at hc c1 ⊢
  generalize hH2 : (H1.push (.cells [.string (mk []), .string (mk [])] T.api_Pair true)).set H1.n (.cells [.string wk, .string wv] T.api_Pair true) = H2
  have s2 : Still H1 H2 := by rw [← hH2]; exact Fr.set ((Fr.refl H1).push _) _ _ (fun h => by omega)
  have f2 : H2.f H1.n = .cells [.string wk, .string wv] T.api_Pair true := by rw [← hH2]; exact set_f_eq
  have fr2 : Fr (fun c => c = b) H H2 := fr1.then s2 fun _ _ h => h.elim
  obtain ⟨H3, hx, c3, fr3⟩ := Cur.tidied (v := .bool true) ok c (c1.still s2) fr2
  refine ⟨H3, (d_law_seek _ _ _ _ _ _ H (r := (.bool true, H2)) ?_).trans (congrArg some hx), c3, fr3⟩
  simp (disch := first | with_reducible rfl | assumption | omega | rfl | (simp only [go_sem]; first | done | omega)) only [go_sem, ↓reduceIte, reduceCtorEq, Nat.reduceEqDiff, Nat.reduceAdd, Nat.reduceSub, Nat.reduceMul, Nat.reduceDiv, Nat.reduceMod, Nat.reduceLeDiff, Nat.reduceLT, Nat.reduceBEq, Int.reduceEq, Int.reduceBEq, Int.reduceBNe, Int.reduceLT, Int.reduceLE, Int.reduceAdd, Int.reduceSub, Int.reduceNeg, Int.reduceToNat, Int.reducePow, Nat.reducePow, Int.reduceMul, Int.reduceDiv, ↓s_law_seek, enterK_eq hc, hH2, f2]

end Go.Proofs.Ytmbppjilnnjdaaa

/-
  Chapter 42: the law's sees, rests.
  Conditions: none. By an AI agent.
-/
set_option maxRecDepth 10000
set_option linter.unusedSimpArgs false
set_option linter.unusedVariables false
namespace Go.Proofs.Ytmbppjilnnjdaaa
open Go Eng

theorem q_sees (b bm : Nat) (k s : ByteArray) (e : Int) (H : AHeap) (hc : CC F.cursor_Cursor_See [.pointer (some ⟨b, 0, none⟩), .pointer (some ⟨bm, 0, none⟩)] H = some (.tuple #[.agg #[.string k, .string s], .int .i64 e], H)) :
    CC F.law_sees [.pointer (some ⟨b, 0, none⟩), .pointer (some ⟨bm, 0, none⟩), .string k, .string s, .int .i64 e] H = some (.bool true, H) := by
  generalize hH2 : (H.push (.cells [.string (mk []), .string (mk [])] T.api_Pair true)).set H.n (.cells [.string k, .string s] T.api_Pair true) = H2
  have s2 : Still H H2 := by rw [← hH2]; exact Fr.set ((Fr.refl H).push _) _ _ (fun h => by omega)
  have f2 : H2.f H.n = .cells [.string k, .string s] T.api_Pair true := by rw [← hH2]; exact set_f_eq
  refine pure_of (H' := H2) ?_ (d_law_sees _ _ _ _ _ H) rfl s2
  simp (disch := first | with_reducible rfl | assumption | omega | rfl | (simp only [go_sem]; first | done | omega)) only [go_sem, ↓reduceIte, reduceCtorEq, Nat.reduceEqDiff, Nat.reduceAdd, Nat.reduceSub, Nat.reduceMul, Nat.reduceDiv, Nat.reduceMod, Nat.reduceLeDiff, Nat.reduceLT, Nat.reduceBEq, Int.reduceEq, Int.reduceBEq, Int.reduceBNe, Int.reduceLT, Int.reduceLE, Int.reduceAdd, Int.reduceSub, Int.reduceNeg, Int.reduceToNat, Int.reducePow, Nat.reducePow, Int.reduceMul, Int.reduceDiv, ↓s_law_sees, enterK_eq hc, hH2, f2]

theorem l_rests (l m : List Pr) (v w : Value) (H : AHeap) (hv : Rd EPr H v l) (hw : Rd EPr H w m) (hlm : l = m) (hl : l.length < 1152921504606846976) (K : K) : ∀ (x : List Pr) (i : Nat), l.drop i = x →
    l_law_rests_0 w v (.int .i64 i) H (blkK [] 0 (seqK (fun _ h2 => K .ret [(8, .bool true)] h2) K)) = K .ret [(8, .bool true)] H
  | [], i, hx => by
    have h : l.length ≤ i := List.drop_eq_nil_iff.1 hx
    have hlt : ¬ (i : Int) < (l.length : Int) := by omega
    have hlen := hv.lenS
    rw [r_law_rests_0]
    simp (disch := first | with_reducible rfl | assumption | omega | rfl | (simp only [go_sem]; first | done | omega)) only [go_sem, ↓reduceIte, reduceCtorEq, Nat.reduceEqDiff, Nat.reduceAdd, Nat.reduceSub, Nat.reduceMul, Nat.reduceDiv, Nat.reduceMod, Nat.reduceLeDiff, Nat.reduceLT, Nat.reduceBEq, Int.reduceEq, Int.reduceBEq, Int.reduceBNe, Int.reduceLT, Int.reduceLE, Int.reduceAdd, Int.reduceSub, Int.reduceNeg, Int.reduceToNat, Int.reducePow, Nat.reducePow, Int.reduceMul, Int.reduceDiv, ↓s_law_rests_b0, hlen, hlt]
  | a :: x, i, hx => by
    obtain ⟨h, hxa, hx'⟩ := drop_cons hx
    subst hlm
    have hlt : (i : Int) < (l.length : Int) := by omega
    have hlen := hv.lenS
    have ih := l_rests l l v w H hv hw rfl hl K x (i + 1) hx'
    obtain ⟨b1, o1, hix1, _, hc1, _⟩ := hv.ix (q := .i64) h
    obtain ⟨b2, o2, hix2, _, hc2, _⟩ := hw.ix (q := .i64) h
    rw [hxa] at hc1 hc2
    have hix1 : ixS 2 v (.int .i64 i) = some (.pointer (some ⟨b1, o1, none⟩)) := hix1
    have hix2 : ixS 2 w (.int .i64 i) = some (.pointer (some ⟨b2, o2, none⟩)) := hix2
    have hc1 : cutB (H.f b1) o1 2 = some [.string a.key, .string a.value] := hc1
    have hc2 : cutB (H.f b2) o2 2 = some [.string a.key, .string a.value] := hc2
    rw [Int.natCast_add] at ih
    rw [r_law_rests_0]
    have hd : decide (a = a) = true := decide_eq_true rfl
    simp (disch := first | with_reducible rfl | assumption | omega | rfl | (simp only [go_sem]; first | done | omega)) only [go_sem, ↓reduceIte, reduceCtorEq, Nat.reduceEqDiff, Nat.reduceAdd, Nat.reduceSub, Nat.reduceMul, Nat.reduceDiv, Nat.reduceMod, Nat.reduceLeDiff, Nat.reduceLT, Nat.reduceBEq, Int.reduceEq, Int.reduceBEq, Int.reduceBNe, Int.reduceLT, Int.reduceLE, Int.reduceAdd, Int.reduceSub, Int.reduceNeg, Int.reduceToNat, Int.reducePow, Nat.reducePow, Int.reduceMul, Int.reduceDiv, ↓s_law_rests_b0, hlen, hlt, hix1, hc1, hix2, hc2, pair_ne', hd]
    exact ih

end Go.Proofs.Ytmbppjilnnjdaaa

/-
  Chapter 42: the cursor and the law's own cursor go alike.
  Conditions: none. By an AI agent.
-/
set_option maxRecDepth 10000
set_option linter.unusedSimpArgs false
set_option linter.unusedVariables false
namespace Go.Proofs.Ytmbppjilnnjdaaa
open Go Eng

/-- The same side. -/
def SameS (side m : Int) : Prop := (side = 1 ∧ m = -1) ∨ (side = 3 ∧ m = 1) ∨ (side = 2 ∧ m = 0)
/-- The same place. -/
def SameW (w : Pr × Int × Int × ByteArray) (u : Pr × Int × ByteArray × Int) : Prop := w.1 = u.1 ∧ w.2.1 = u.2.1 ∧ w.2.2.2 = u.2.2.1 ∧ SameS w.2.2.1 u.2.2.2

theorem rest_eq {R : List Pr} (hs : Srt R) {side m : Int} (h : SameS side m) (key : ByteArray) : R.filter (restK m key) = R.drop (fwd R side key) := by
  rcases h with ⟨rfl, rfl⟩ | ⟨rfl, rfl⟩ | ⟨rfl, rfl⟩
  · rw [show fwd R 1 key = 0 from rfl, List.drop_zero, List.filter_eq_self]
    intro a _; rfl
  · rw [show fwd R 3 key = R.length from rfl, List.drop_length, List.filter_eq_nil_iff]
    intro a _; simp [restK]
  · rw [show fwd R 2 key = posG R key from rfl, ← filter_gt hs]
    congr 1
theorem setC_at {R : List Pr} {i : Nat} (e : Int) : SameW (setC R (i : Int) 3) (toM R[i]? 1) ∧ SameW (setC R (i : Int) 1) (toM R[i]? (-1)) := by
  unfold setC
  by_cases h : i < R.length
  · rw [dif_pos ⟨by omega, by simpa using h⟩, dif_pos ⟨by omega, by simpa using h⟩, List.getElem?_eq_getElem h]
    exact ⟨⟨rfl, rfl, rfl, .inr (.inr ⟨rfl, rfl⟩)⟩, ⟨rfl, rfl, rfl, .inr (.inr ⟨rfl, rfl⟩)⟩⟩
  · rw [dif_neg (fun h' => h (by simpa using h'.2)), dif_neg (fun h' => h (by simpa using h'.2)), List.getElem?_eq_none (by omega)]
    exact ⟨⟨rfl, rfl, rfl, .inr (.inl ⟨rfl, rfl⟩)⟩, ⟨rfl, rfl, rfl, .inl ⟨rfl, rfl⟩⟩⟩
theorem next_eq {R : List Pr} (hs : Srt R) {side m : Int} (h : SameS side m) (key : ByteArray) : SameW (setC R (fwd R side key : Nat) 3) (toM (R.filter (restK m key)).head? 1) := by
  rw [rest_eq hs h, List.head?_drop]
  exact (setC_at 0).1
theorem seek_eq {R : List Pr} (hs : Srt R) (key : ByteArray) : SameW (setC R (posP R key : Nat) 3) (toM (R.find? (geK key)) 1) := by
  have : R.find? (geK key) = R[posP R key]? := by
    rw [← List.head?_filter, show R.filter (geK key) = R.drop (posP R key) from filter_ge hs key, List.head?_drop]
  rw [this]
  exact (setC_at 0).1
theorem setC_neg {R : List Pr} {i : Int} (h : i < 0) : SameW (setC R i 1) (toM none (-1)) := by
  unfold setC
  rw [dif_neg (fun h' => by omega)]
  exact ⟨rfl, rfl, rfl, .inl ⟨rfl, rfl⟩⟩
theorem last_pos (X : List Pr) : X.getLast? = if X.length = 0 then none else X[X.length - 1]? := by
  split
  · rename_i h; rw [List.length_eq_zero_iff.1 h]; rfl
  · rw [List.getLast?_eq_getElem?]
theorem prev_eq {R : List Pr} (hs : Srt R) {side m : Int} (h : SameS side m) (key : ByteArray) : SameW (setC R (bwd R side key) 1) (toM (R.filter (prevK m key)).getLast? (-1)) := by
  rcases h with ⟨rfl, rfl⟩ | ⟨rfl, rfl⟩ | ⟨rfl, rfl⟩
  · have : R.filter (prevK (-1) key) = [] := by rw [List.filter_eq_nil_iff]; intro a _; simp [prevK]
    rw [this]
    exact setC_neg (show (-1 : Int) < 0 by decide)
  · have : R.filter (prevK 1 key) = R := by rw [List.filter_eq_self]; intro a _; rfl
    rw [this, last_pos, show bwd R 3 key = (R.length : Int) - 1 from rfl]
    split
    · rename_i h; rw [h]; exact setC_neg (by decide)
    · rename_i h
      rw [show (R.length : Int) - 1 = ((R.length - 1 : Nat) : Int) by omega]
      exact (setC_at 0).2
  · have : R.filter (prevK 0 key) = R.take (posP R key) := by rw [← filter_lt hs]; congr 1
    rw [this, last_pos, show bwd R 2 key = (posP R key : Int) - 1 from rfl]
    have hle := posP_le R key
    have hlen : (R.take (posP R key)).length = posP R key := by simp; omega
    rw [hlen]
    split
    · rename_i h; rw [h]; exact setC_neg (by decide)
    · rename_i h
      rw [show (posP R key : Int) - 1 = ((posP R key - 1 : Nat) : Int) by omega, List.getElem?_take_of_lt (by omega)]
      exact (setC_at 0).2

end Go.Proofs.Ytmbppjilnnjdaaa

/-
  The plain map's methods for any key, right or not; and two blocks of which only one is turned.
  Conditions: none. By an AI agent.
-/
set_option maxRecDepth 10000
set_option linter.unusedSimpArgs false
set_option linter.unusedVariables false
namespace Go.Proofs.Ytmbppjilnnjdaaa
open Go Eng

theorem MdlT.blk {t : TypeId} {H : AHeap} {b : Nat} {l : List Pr} (r : MdlT t H b l) {c : Nat} (h : MBT t H b c) : c < H.n := by
  obtain ⟨v, h1, h2, h3, h4⟩ := r
  rcases h with h | ⟨u, hu, hb⟩
  · omega
  · rw [h1] at hu; cases hu; exact h3.blk hb


/-- A call that works on one map leaves another one. -/
theorem sep {t1 t2 : TypeId} {H H' : AHeap} {b1 b2 : Nat} {l2 : List Pr} (r2 : MdlT t2 H b2 l2) (dis : ∀ c, MBT t1 H b1 c → ¬ MBT t2 H b2 c) (u : UpT t1 H b1 H') :
    MdlT t2 H' b2 l2 ∧ (∀ c, MBT t2 H' b2 c → MBT t2 H b2 c) ∧ ∀ c, MBT t1 H' b1 c → ¬ MBT t2 H' b2 c := by
  have hb2 : ¬ MBT t1 H b1 b2 := fun h => dis b2 h (.inl rfl)
  have hlt : b2 < H.n := r2.blk (.inl rfl)
  have hf : H'.f b2 = H.f b2 := u.fr.f hlt hb2
  have hm : ∀ c, MBT t2 H' b2 c → MBT t2 H b2 c := fun c h => h.imp id fun ⟨v, hv, hb⟩ => ⟨v, by rw [← hf]; exact hv, hb⟩
  refine ⟨r2.keep u.fr hb2 fun v hv c hc h => dis c h (.inr ⟨v, hv, hc⟩), hm, fun c h1 h2 => ?_⟩
  have h2 := hm c h2
  rcases u.mb c h1 with h | h
  · exact dis c h h2
  · have := r2.blk h2; omega


theorem MBT_still {t : TypeId} {H H' : AHeap} {b : Nat} {l : List Pr} (r : MdlT t H b l) (s : Still H H') {c : Nat} (h : MBT t H' b c) : MBT t H b c := by
  obtain ⟨v, h1, h2, _⟩ := r
  exact h.imp id fun ⟨u, hu, hb⟩ => ⟨u, by rw [← s.f h2 (fun h => h)]; exact hu, hb⟩


def putE (l : List Pr) (a : Pr) : Int × List Pr := if chk a.key [a.value] = 0 then putP l a (posP l a.key) else (chk a.key [a.value], l)
def insertE (l : List Pr) (a : Pr) : Int × List Pr := if chk a.key [a.value] = 0 then insertP l a (posP l a.key) else (chk a.key [a.value], l)
def swapE (l : List Pr) (key old new : ByteArray) : Int × List Pr := if chk key [old, new] = 0 then swapP l key old new (posP l key) else (chk key [old, new], l)
def getE (l : List Pr) (key : ByteArray) : Value := if chk key [] = 0 then getP l key (posP l key) else .tuple #[.string (mk []), .int .i64 (chk key [])]
def delE (l : List Pr) (key : ByteArray) : List Pr := if chk key [] = 0 then (if isP l key (posP l key) = true then l.take (posP l key) ++ l.drop (posP l key + 1) else l) else l

theorem getE_shape (l : List Pr) (key : ByteArray) : ∃ s e, getE l key = .tuple #[.string s, .int .i64 e] := by
  unfold getE getP
  split
  · split <;> exact ⟨_, _, rfl⟩
  · exact ⟨_, _, rfl⟩


theorem q_putM (b : Nat) (l : List Pr) (a : Pr) (H : AHeap) (ok : Ok H) (r : Mdl H b l) (hs : Srt l) (hl : l.length ≤ 20000) :
    ∃ H', CC F.model_Model_Put [.pointer (some ⟨b, 0, none⟩), .string a.key, .string a.value] H = some (.int .i64 (putE l a).1, H') ∧ Mdl H' b (putE l a).2 ∧ Up H b H' := by
  unfold putE
  split
  · rename_i h; exact q_Put b l a H ok r hl _ (posP_pos hs a.key) h
  · rename_i h; exact ⟨H, q_Put_bad b l a H r h, r, Up.refl H b⟩
theorem q_getM (b : Nat) (l : List Pr) (key : ByteArray) (H : AHeap) (r : Mdl H b l) (hs : Srt l) (hl : l.length ≤ 20000) : CC F.model_Model_Get [.pointer (some ⟨b, 0, none⟩), .string key] H = some (getE l key, H) := by
  unfold getE
  split
  · rename_i h; exact q_Get b l key H r (by omega) _ (posP_pos hs key) h
  · rename_i h; exact q_Get_bad b key H h
theorem q_delM (b : Nat) (l : List Pr) (key : ByteArray) (H : AHeap) (ok : Ok H) (r : Mdl H b l) (hs : Srt l) (hl : l.length ≤ 20000) :
    ∃ H', CC F.model_Model_Delete [.pointer (some ⟨b, 0, none⟩), .string key] H = some (getE l key, H') ∧ Mdl H' b (delE l key) ∧ Up H b H' := by
  unfold getE delE
  by_cases h : chk key [] = 0
  · rw [if_pos h, if_pos h]; exact q_Delete b l key H ok r hl _ (posP_pos hs key) h
  · rw [if_neg h, if_neg h]; exact ⟨H, q_Delete_bad b key H h, r, Up.refl H b⟩
theorem srt_putE {l : List Pr} (hs : Srt l) (a : Pr) : Srt (putE l a).2 := by
  unfold putE
  split
  · exact srt_put hs a
  · exact hs
theorem len_putE {l : List Pr} (hl : l.length ≤ 20000) (a : Pr) : (putE l a).2.length ≤ 20000 := by
  unfold putE
  split
  · exact len_put hl a
  · exact hl
theorem srt_insertE {l : List Pr} (hs : Srt l) (a : Pr) : Srt (insertE l a).2 := by
  unfold insertE
  split
  · exact srt_insert hs a
  · exact hs
theorem len_insertE {l : List Pr} (hl : l.length ≤ 20000) (a : Pr) : (insertE l a).2.length ≤ 20000 := by
  unfold insertE
  split
  · exact len_insert hl a
  · exact hl
theorem srt_swapE {l : List Pr} (hs : Srt l) (k o n : ByteArray) : Srt (swapE l k o n).2 := by
  unfold swapE
  split
  · exact srt_swap hs k o n
  · exact hs
theorem len_swapE {l : List Pr} (hl : l.length ≤ 20000) (k o n : ByteArray) : (swapE l k o n).2.length ≤ 20000 := by
  unfold swapE
  split
  · exact len_swap hl k o n
  · exact hl
theorem srt_delE {l : List Pr} (hs : Srt l) (k : ByteArray) : Srt (delE l k) := by
  unfold delE
  split
  · split
    · exact srt_del hs _
    · exact hs
  · exact hs
theorem len_delE {l : List Pr} (hl : l.length ≤ 20000) (k : ByteArray) : (delE l k).length ≤ 20000 := by
  unfold delE
  split
  · split
    · simp; omega
    · exact hl
  · exact hl

end Go.Proofs.Ytmbppjilnnjdaaa

/-
  Chapter 42: the law's rests, alike, seek with any key.
  Conditions: none. By an AI agent.
-/
set_option maxRecDepth 10000
set_option linter.unusedSimpArgs false
set_option linter.unusedVariables false
namespace Go.Proofs.Ytmbppjilnnjdaaa
open Go Eng

theorem q_rests (b bm : Nat) (l m : List Pr) (w : Value) (sf st key : ByteArray) (side : Int) (H : AHeap) (c : Cur H b sf st side key) (h0 : side ≠ 0) (r : Mdl H bm l) (hs : Srt l) (hl : l.length ≤ 20000)
    (hw : Rd EPr H w m) (hm : (l.filter (inR sf st)).drop (fwd (l.filter (inR sf st)) side key) = m) :
    CC F.law_rests [.pointer (some ⟨b, 0, none⟩), .pointer (some ⟨bm, 0, none⟩), w, .int .i64 0] H = some (.bool true, H) := by
  obtain ⟨v', H', hr, ho, hst⟩ := q_Rest b bm l sf st key side H c h0 r hs hl
  rw [hm] at ho
  have hlm : m.length ≤ 20000 := by
    rw [← hm, List.length_drop]
    have := len_filter hl (inR sf st)
    omega
  have hw' := hw.still hst
  have h1 := ho.rd.lenS
  have h2 := hw'.lenS
  refine pure_of (H' := H') ?_ (d_law_rests _ _ _ _ H) rfl hst
  simp (disch := first | with_reducible rfl | assumption | omega | rfl | (simp only [go_sem]; first | done | omega)) only [go_sem, ↓reduceIte, reduceCtorEq, Nat.reduceEqDiff, Nat.reduceAdd, Nat.reduceSub, Nat.reduceMul, Nat.reduceDiv, Nat.reduceMod, Nat.reduceLeDiff, Nat.reduceLT, Nat.reduceBEq, Int.reduceEq, Int.reduceBEq, Int.reduceBNe, Int.reduceLT, Int.reduceLE, Int.reduceAdd, Int.reduceSub, Int.reduceNeg, Int.reduceToNat, Int.reducePow, Nat.reducePow, Int.reduceMul, Int.reduceDiv, ↓s_law_rests, enterK_eq hr, h1, h2]
  exact l_rests m m v' w H' ho.rd hw' rfl (by omega) (endK Try.prog [.tmp 8]) m 0 rfl

@[go_sem] theorem tt_bne : (true != true) = false := by rfl
@[go_sem] theorem ff_bne : (false != false) = false := by rfl
theorem q_alike_1 (b bm bx : Nat) (l : List Pr) (sf st key : ByteArray) (H : AHeap) (c : Cur H b sf st 1 key) (x : ModL H bx sf st key (-1)) (r : Mdl H bm l) (hs : Srt l) (hl : l.length ≤ 20000) :
    CC F.law_alike [.pointer (some ⟨b, 0, none⟩), .pointer (some ⟨bx, 0, none⟩), .pointer (some ⟨bm, 0, none⟩)] H = some (.bool true, H) := by
  have hss : SameS 1 (-1) := .inl ⟨rfl, rfl⟩
  have h0 : (1 : Int) ≠ 0 := by decide
  have hat := q_At b sf st key 1 H c h0
  have hbe : CC F.cursor_Cursor_Before [.pointer (some ⟨b, 0, none⟩)] H = some (.bool true, H) := q_Before b sf st key 1 H c h0
  have hbh : CC F.cursor_Cursor_Behind [.pointer (some ⟨b, 0, none⟩)] H = some (.bool false, H) := q_Behind b sf st key 1 H c h0
  have hx := x.1
  obtain ⟨v, H1, hr, ho, s1, _⟩ := q_rest bx bm l sf st key (-1) H x r hl
  have hrs := q_rests b bm l _ v sf st key 1 H1 (c.still s1) h0 (r.still s1) hs hl ho.rd (rest_eq (srt_filter hs (inR sf st)) hss key).symm
  have hx1 := (x.still s1).1
  have hg : ∀ H', Still H1 H' → CC F.model_Model_Get [.pointer (some ⟨bm, 0, none⟩), .string key] H' = some (getE l key, H') := fun H' h => q_getM bm l key H' ((r.still s1).still h) hs hl
  obtain ⟨s, e, hse⟩ := getE_shape l key
  rw [hse] at hg
  have hg1 := hg H1 (Fr.refl H1)
  have c1 := c.still s1
  refine pure_of (H' := H1) ?_ (d_law_alike _ _ _ H) rfl s1
  have hse := q_sees b bm _ _ _ H1 (q_See_none b bm sf st key 1 H1 c1 h0 (by decide))
  simp (disch := first | with_reducible rfl | assumption | omega | rfl | (simp only [go_sem]; first | done | omega)) only [go_sem, ↓reduceIte, reduceCtorEq, Nat.reduceEqDiff, Nat.reduceAdd, Nat.reduceSub, Nat.reduceMul, Nat.reduceDiv, Nat.reduceMod, Nat.reduceLeDiff, Nat.reduceLT, Nat.reduceBEq, Int.reduceEq, Int.reduceBEq, Int.reduceBNe, Int.reduceLT, Int.reduceLE, Int.reduceAdd, Int.reduceSub, Int.reduceNeg, Int.reduceToNat, Int.reducePow, Nat.reducePow, Int.reduceMul, Int.reduceDiv, ↓s_law_alike, cp_some, enterK_eq hat, hx, enterK_eq hbe, enterK_eq hbh, enterK_eq hr, enterK_eq hrs, hx1, enterK_eq hg1, enterK_eq hse]
theorem q_alike_3 (b bm bx : Nat) (l : List Pr) (sf st key : ByteArray) (H : AHeap) (c : Cur H b sf st 3 key) (x : ModL H bx sf st key 1) (r : Mdl H bm l) (hs : Srt l) (hl : l.length ≤ 20000) :
    CC F.law_alike [.pointer (some ⟨b, 0, none⟩), .pointer (some ⟨bx, 0, none⟩), .pointer (some ⟨bm, 0, none⟩)] H = some (.bool true, H) := by
  have hss : SameS 3 1 := .inr (.inl ⟨rfl, rfl⟩)
  have h0 : (3 : Int) ≠ 0 := by decide
  have hat := q_At b sf st key 3 H c h0
  have hbe : CC F.cursor_Cursor_Before [.pointer (some ⟨b, 0, none⟩)] H = some (.bool false, H) := q_Before b sf st key 3 H c h0
  have hbh : CC F.cursor_Cursor_Behind [.pointer (some ⟨b, 0, none⟩)] H = some (.bool true, H) := q_Behind b sf st key 3 H c h0
  have hx := x.1
  obtain ⟨v, H1, hr, ho, s1, _⟩ := q_rest bx bm l sf st key 1 H x r hl
  have hrs := q_rests b bm l _ v sf st key 3 H1 (c.still s1) h0 (r.still s1) hs hl ho.rd (rest_eq (srt_filter hs (inR sf st)) hss key).symm
  have hx1 := (x.still s1).1
  have hg : ∀ H', Still H1 H' → CC F.model_Model_Get [.pointer (some ⟨bm, 0, none⟩), .string key] H' = some (getE l key, H') := fun H' h => q_getM bm l key H' ((r.still s1).still h) hs hl
  obtain ⟨s, e, hse⟩ := getE_shape l key
  rw [hse] at hg
  have hg1 := hg H1 (Fr.refl H1)
  have c1 := c.still s1
  refine pure_of (H' := H1) ?_ (d_law_alike _ _ _ H) rfl s1
  have hse := q_sees b bm _ _ _ H1 (q_See_none b bm sf st key 3 H1 c1 h0 (by decide))
  simp (disch := first | with_reducible rfl | assumption | omega | rfl | (simp only [go_sem]; first | done | omega)) only [go_sem, ↓reduceIte, reduceCtorEq, Nat.reduceEqDiff, Nat.reduceAdd, Nat.reduceSub, Nat.reduceMul, Nat.reduceDiv, Nat.reduceMod, Nat.reduceLeDiff, Nat.reduceLT, Nat.reduceBEq, Int.reduceEq, Int.reduceBEq, Int.reduceBNe, Int.reduceLT, Int.reduceLE, Int.reduceAdd, Int.reduceSub, Int.reduceNeg, Int.reduceToNat, Int.reducePow, Nat.reducePow, Int.reduceMul, Int.reduceDiv, ↓s_law_alike, cp_some, enterK_eq hat, hx, enterK_eq hbe, enterK_eq hbh, enterK_eq hr, enterK_eq hrs, hx1, enterK_eq hg1, enterK_eq hse]
theorem q_alike_2a (b bm bx : Nat) (l : List Pr) (sf st key : ByteArray) (H : AHeap) (c : Cur H b sf st 2 key) (x : ModL H bx sf st key 0) (r : Mdl H bm l) (hs : Srt l) (hl : l.length ≤ 20000) (s : ByteArray) (e : Int) (hse : getE l key = .tuple #[.string s, .int .i64 e]) (he : e = 0) :
    CC F.law_alike [.pointer (some ⟨b, 0, none⟩), .pointer (some ⟨bx, 0, none⟩), .pointer (some ⟨bm, 0, none⟩)] H = some (.bool true, H) := by
  have hss : SameS 2 0 := .inr (.inr ⟨rfl, rfl⟩)
  have h0 : (2 : Int) ≠ 0 := by decide
  have hat := q_At b sf st key 2 H c h0
  have hbe : CC F.cursor_Cursor_Before [.pointer (some ⟨b, 0, none⟩)] H = some (.bool false, H) := q_Before b sf st key 2 H c h0
  have hbh : CC F.cursor_Cursor_Behind [.pointer (some ⟨b, 0, none⟩)] H = some (.bool false, H) := q_Behind b sf st key 2 H c h0
  have hx := x.1
  obtain ⟨v, H1, hr, ho, s1, _⟩ := q_rest bx bm l sf st key 0 H x r hl
  have hrs := q_rests b bm l _ v sf st key 2 H1 (c.still s1) h0 (r.still s1) hs hl ho.rd (rest_eq (srt_filter hs (inR sf st)) hss key).symm
  have hx1 := (x.still s1).1
  have hg : ∀ H', Still H1 H' → CC F.model_Model_Get [.pointer (some ⟨bm, 0, none⟩), .string key] H' = some (getE l key, H') := fun H' h => q_getM bm l key H' ((r.still s1).still h) hs hl
  rw [hse] at hg
  have hg1 := hg H1 (Fr.refl H1)
  have c1 := c.still s1
  refine pure_of (H' := H1) ?_ (d_law_alike _ _ _ H) rfl s1
  have hsee := q_See b bm sf st key s e H1 c1 hg
  rw [if_pos he] at hsee
  have hse := q_sees b bm _ _ _ H1 hsee
  simp (disch := first | with_reducible rfl | assumption | omega | rfl | (simp only [go_sem]; first | done | omega)) only [go_sem, ↓reduceIte, reduceCtorEq, Nat.reduceEqDiff, Nat.reduceAdd, Nat.reduceSub, Nat.reduceMul, Nat.reduceDiv, Nat.reduceMod, Nat.reduceLeDiff, Nat.reduceLT, Nat.reduceBEq, Int.reduceEq, Int.reduceBEq, Int.reduceBNe, Int.reduceLT, Int.reduceLE, Int.reduceAdd, Int.reduceSub, Int.reduceNeg, Int.reduceToNat, Int.reducePow, Nat.reducePow, Int.reduceMul, Int.reduceDiv, ↓s_law_alike, cp_some, enterK_eq hat, hx, enterK_eq hbe, enterK_eq hbh, enterK_eq hr, enterK_eq hrs, hx1, enterK_eq hg1, decide_eq_true he, enterK_eq hse]
theorem q_alike_2b (b bm bx : Nat) (l : List Pr) (sf st key : ByteArray) (H : AHeap) (c : Cur H b sf st 2 key) (x : ModL H bx sf st key 0) (r : Mdl H bm l) (hs : Srt l) (hl : l.length ≤ 20000) (s : ByteArray) (e : Int) (hse : getE l key = .tuple #[.string s, .int .i64 e]) (he : ¬ e = 0) :
    CC F.law_alike [.pointer (some ⟨b, 0, none⟩), .pointer (some ⟨bx, 0, none⟩), .pointer (some ⟨bm, 0, none⟩)] H = some (.bool true, H) := by
  have hss : SameS 2 0 := .inr (.inr ⟨rfl, rfl⟩)
  have h0 : (2 : Int) ≠ 0 := by decide
  have hat := q_At b sf st key 2 H c h0
  have hbe : CC F.cursor_Cursor_Before [.pointer (some ⟨b, 0, none⟩)] H = some (.bool false, H) := q_Before b sf st key 2 H c h0
  have hbh : CC F.cursor_Cursor_Behind [.pointer (some ⟨b, 0, none⟩)] H = some (.bool false, H) := q_Behind b sf st key 2 H c h0
  have hx := x.1
  obtain ⟨v, H1, hr, ho, s1, _⟩ := q_rest bx bm l sf st key 0 H x r hl
  have hrs := q_rests b bm l _ v sf st key 2 H1 (c.still s1) h0 (r.still s1) hs hl ho.rd (rest_eq (srt_filter hs (inR sf st)) hss key).symm
  have hx1 := (x.still s1).1
  have hg : ∀ H', Still H1 H' → CC F.model_Model_Get [.pointer (some ⟨bm, 0, none⟩), .string key] H' = some (getE l key, H') := fun H' h => q_getM bm l key H' ((r.still s1).still h) hs hl
  rw [hse] at hg
  have hg1 := hg H1 (Fr.refl H1)
  have c1 := c.still s1
  refine pure_of (H' := H1) ?_ (d_law_alike _ _ _ H) rfl s1
  have hsee := q_See b bm sf st key s e H1 c1 hg
  rw [if_neg he] at hsee
  have hse := q_sees b bm _ _ _ H1 hsee
  simp (disch := first | with_reducible rfl | assumption | omega | rfl | (simp only [go_sem]; first | done | omega)) only [go_sem, ↓reduceIte, reduceCtorEq, Nat.reduceEqDiff, Nat.reduceAdd, Nat.reduceSub, Nat.reduceMul, Nat.reduceDiv, Nat.reduceMod, Nat.reduceLeDiff, Nat.reduceLT, Nat.reduceBEq, Int.reduceEq, Int.reduceBEq, Int.reduceBNe, Int.reduceLT, Int.reduceLE, Int.reduceAdd, Int.reduceSub, Int.reduceNeg, Int.reduceToNat, Int.reducePow, Nat.reducePow, Int.reduceMul, Int.reduceDiv, ↓s_law_alike, cp_some, enterK_eq hat, hx, enterK_eq hbe, enterK_eq hbh, enterK_eq hr, enterK_eq hrs, hx1, enterK_eq hg1, decide_eq_false he, enterK_eq hse]
theorem q_alike (b bm bx : Nat) (l : List Pr) (sf st key : ByteArray) (side msd : Int) (H : AHeap) (c : Cur H b sf st side key) (x : ModL H bx sf st key msd) (hss : SameS side msd) (r : Mdl H bm l) (hs : Srt l) (hl : l.length ≤ 20000) :
    CC F.law_alike [.pointer (some ⟨b, 0, none⟩), .pointer (some ⟨bx, 0, none⟩), .pointer (some ⟨bm, 0, none⟩)] H = some (.bool true, H) := by
  rcases hss with ⟨rfl, rfl⟩ | ⟨rfl, rfl⟩ | ⟨rfl, rfl⟩
  · exact q_alike_1 b bm bx l sf st key H c x r hs hl
  · exact q_alike_3 b bm bx l sf st key H c x r hs hl
  · obtain ⟨s, e, hse⟩ := getE_shape l key
    by_cases he : e = 0
    · exact q_alike_2a b bm bx l sf st key H c x r hs hl s e hse he
    · exact q_alike_2b b bm bx l sf st key H c x r hs hl s e hse he

/-- The law's seek with any key. -/
def seekM (l : List Pr) (sf st to key : ByteArray) (side : Int) : Pr × Int × ByteArray × Int :=
  if seekErr sf st to = 0 then toM ((l.filter (inR sf st)).find? (geK to)) 1 else (⟨mk [], mk []⟩, seekErr sf st to, key, side)
def seekW (l : List Pr) (sf st to key : ByteArray) (side : Int) : Pr × Int × Int × ByteArray :=
  if seekErr sf st to = 0 then setC (l.filter (inR sf st)) (posP (l.filter (inR sf st)) to : Nat) 3 else (⟨mk [], mk []⟩, seekErr sf st to, side, key)
theorem seekx_eq {l : List Pr} (hs : Srt l) (sf st to key : ByteArray) {side msd : Int} (h : SameS side msd) : SameW (seekW l sf st to key side) (seekM l sf st to key msd) := by
  unfold seekW seekM
  split
  · exact seek_eq (srt_filter hs _) to
  · exact ⟨rfl, rfl, rfl, h⟩

theorem q_mseek_bad (b bm : Nat) (sf st key k : ByteArray) (side : Int) (H : AHeap) (c : ModL H b sf st k side) (hk : seekErr sf st key ≠ 0) :
    CC F.law_Model_seek [.pointer (some ⟨b, 0, none⟩), .pointer (some ⟨bm, 0, none⟩), .string key] H = some (.tuple #[.agg #[.string (mk []), .string (mk [])], .int .i64 (seekErr sf st key)], H) := by
  generalize hH1 : H.push (.cells [.string (mk []), .string (mk [])] T.api_Pair true) = H1
  have s1 : Still H H1 := by rw [← hH1]; exact (Fr.refl H).push _
  have f1 : H1.f H.n = .cells [.string (mk []), .string (mk [])] T.api_Pair true := by rw [← hH1]; exact push_f_eq rfl
  have hin := q_in b sf st k key side ⟨key, mk []⟩ H1 (c.still s1)
  have fin : Still H (H1.set H.n (.cells [.string (mk []), .string (mk [])] T.api_Pair true)) := Fr.set s1 _ _ fun h => by omega
  unfold seekErr at hk ⊢
  by_cases e1 : bl key = []
  · have e1' : ((bl key).length : Int) = 0 := by rw [e1]; rfl
    rw [if_pos e1]
    refine pure_of (H' := H1.set H.n (.cells [.string (mk []), .string (mk [])] T.api_Pair true)) ?_ (d_law_Model_seek _ _ _ H) rfl fin
    simp (disch := first | with_reducible rfl | assumption | omega | rfl | (simp only [go_sem]; first | done | omega)) only [go_sem, ↓reduceIte, reduceCtorEq, Nat.reduceEqDiff, Nat.reduceAdd, Nat.reduceSub, Nat.reduceMul, Nat.reduceDiv, Nat.reduceMod, Nat.reduceLeDiff, Nat.reduceLT, Nat.reduceBEq, Int.reduceEq, Int.reduceBEq, Int.reduceBNe, Int.reduceLT, Int.reduceLE, Int.reduceAdd, Int.reduceSub, Int.reduceNeg, Int.reduceToNat, Int.reducePow, Nat.reducePow, Int.reduceMul, Int.reduceDiv, ↓s_law_Model_seek, hH1, decide_eq_true e1', f1]
  · have e1' : ¬ ((bl key).length : Int) = 0 := fun h => e1 (List.length_eq_zero_iff.1 (by omega))
    rw [if_neg e1] at hk ⊢
    by_cases e2 : 24 < ((bl key).length : Int)
    · rw [if_pos e2]
      refine pure_of (H' := H1.set H.n (.cells [.string (mk []), .string (mk [])] T.api_Pair true)) ?_ (d_law_Model_seek _ _ _ H) rfl fin
      simp (disch := first | with_reducible rfl | assumption | omega | rfl | (simp only [go_sem]; first | done | omega)) only [go_sem, ↓reduceIte, reduceCtorEq, Nat.reduceEqDiff, Nat.reduceAdd, Nat.reduceSub, Nat.reduceMul, Nat.reduceDiv, Nat.reduceMod, Nat.reduceLeDiff, Nat.reduceLT, Nat.reduceBEq, Int.reduceEq, Int.reduceBEq, Int.reduceBNe, Int.reduceLT, Int.reduceLE, Int.reduceAdd, Int.reduceSub, Int.reduceNeg, Int.reduceToNat, Int.reducePow, Nat.reducePow, Int.reduceMul, Int.reduceDiv, ↓s_law_Model_seek, hH1, decide_eq_false e1', decide_eq_true e2, f1]
    · rw [if_neg e2] at hk ⊢
      have e3 : inR sf st ⟨key, mk []⟩ = false := by
        cases h : inR sf st ⟨key, mk []⟩ with
        | false => rfl
        | true => rw [h] at hk; exact absurd rfl hk
      rw [e3] at hin
      have hin : CC F.law_Model_in [.pointer (some ⟨b, 0, none⟩), .string key] H1 = some (.bool false, H1) := hin
      rw [e3, if_neg (by simp)]
      refine pure_of (H' := H1.set H.n (.cells [.string (mk []), .string (mk [])] T.api_Pair true)) ?_ (d_law_Model_seek _ _ _ H) rfl fin
      simp (disch := first | with_reducible rfl | assumption | omega | rfl | (simp only [go_sem]; first | done | omega)) only [go_sem, ↓reduceIte, reduceCtorEq, Nat.reduceEqDiff, Nat.reduceAdd, Nat.reduceSub, Nat.reduceMul, Nat.reduceDiv, Nat.reduceMod, Nat.reduceLeDiff, Nat.reduceLT, Nat.reduceBEq, Int.reduceEq, Int.reduceBEq, Int.reduceBNe, Int.reduceLT, Int.reduceLE, Int.reduceAdd, Int.reduceSub, Int.reduceNeg, Int.reduceToNat, Int.reducePow, Nat.reducePow, Int.reduceMul, Int.reduceDiv, ↓s_law_Model_seek, hH1, decide_eq_false e1', decide_eq_false e2, enterK_eq hin, f1]

theorem q_mseekx (b bm : Nat) (l : List Pr) (sf st to key : ByteArray) (side : Int) (H : AHeap) (ok : Ok H) (c : ModL H b sf st key side) (r : Mdl H bm l) (hl : l.length ≤ 20000) :
    ∃ w H', w = seekM l sf st to key side ∧ CC F.law_Model_seek [.pointer (some ⟨b, 0, none⟩), .pointer (some ⟨bm, 0, none⟩), .string to] H = some (.tuple #[.agg #[.string w.1.key, .string w.1.value], .int .i64 w.2.1], H') ∧ ModL H' b sf st w.2.2.1 w.2.2.2 ∧ Fr (fun c => c = b) H H' := by
  unfold seekM
  by_cases h : seekErr sf st to = 0
  · rw [if_pos h]; exact q_mseek b bm l sf st to key side H ok c h r hl
  · rw [if_neg h]; exact ⟨_, H, rfl, q_mseek_bad b bm sf st to key side H c h, c, Fr.refl H⟩
theorem q_Seekx (b bm : Nat) (l : List Pr) (sf st to key : ByteArray) (side : Int) (H : AHeap) (ok : Ok H) (c : Cur H b sf st side key) (h0 : side ≠ 0) (r : Mdl H bm l) (hs : Srt l) (hl : l.length ≤ 20000) :
    ∃ w H', w = seekW l sf st to key side ∧ CC F.cursor_Cursor_Seek [.pointer (some ⟨b, 0, none⟩), .pointer (some ⟨bm, 0, none⟩), .string to] H = some (.tuple #[.agg #[.string w.1.key, .string w.1.value], .int .i64 w.2.1], H') ∧ Cur H' b sf st w.2.2.1 w.2.2.2 ∧ Fr (fun c => c = b) H H' := by
  unfold seekW
  by_cases h : seekErr sf st to = 0
  · rw [if_pos h]; exact q_Seek b bm l sf st to key side H ok c h0 h r hs hl
  · rw [if_neg h]; exact ⟨_, H, rfl, q_Seek_bad b bm sf st to key side H c h0 h, c, Fr.refl H⟩

/-! ### A map, a cursor, the law's cursor -/
structure Cy (Hz H : AHeap) (bm bc bx : Nat) (l : List Pr) (sf st : ByteArray) (side : Int) (key : ByteArray) (msd : Int) (mkey : ByteArray) : Prop where
  ok : Ok H
  base : Still Hz H
  m : Mdl H bm l
  c : Cur H bc sf st side key
  x : ModL H bx sf st mkey msd
  cx : bc ≠ bx
  mc : ¬ MB H bm bc
  mx : ¬ MB H bm bx
  lom : ∀ d, MB H bm d → Hz.n ≤ d
  loc : Hz.n ≤ bc
  lox : Hz.n ≤ bx
  srt : Srt l
  len : l.length ≤ 20000

section
variable {Hz H H' : AHeap} {bm bc bx : Nat} {l l' : List Pr} {sf st key mkey key' : ByteArray} {side msd side' : Int}
theorem Cy.still (t : Cy Hz H bm bc bx l sf st side key msd mkey) (s : Still H H') : Cy Hz H' bm bc bx l sf st side key msd mkey :=
  ⟨t.ok.fr s, t.base.still.then s fun _ _ h => h, t.m.still s, t.c.still s, t.x.still s, t.cx, fun h => t.mc (MBT_still t.m s h), fun h => t.mx (MBT_still t.m s h), fun d h => t.lom d (MBT_still t.m s h), t.loc, t.lox, t.srt, t.len⟩
theorem mdl_off {b : Nat} (m : Mdl H bm l) (h : ¬ MB H bm b) (fr : Fr (fun c => c = b) H H') : Mdl H' bm l ∧ ∀ d, MB H' bm d → MB H bm d := by
  have hb : bm ≠ b := fun e => h (.inl e.symm)
  have hlt : bm < H.n := m.blk (.inl rfl)
  refine ⟨m.keep fr hb fun v hv c hc e => h (.inr ⟨v, hv, by rw [← e]; exact hc⟩), fun d hd => hd.imp id fun ⟨v, hv, hb'⟩ => ⟨v, ?_, hb'⟩⟩
  rw [← fr.f hlt hb]; exact hv
theorem Cy.stepx (t : Cy Hz H bm bc bx l sf st side key msd mkey) (x' : ModL H' bx sf st key' side') (fr : Fr (fun c => c = bx) H H') : Cy Hz H' bm bc bx l sf st side key side' key' := by
  obtain ⟨m', hm⟩ := mdl_off t.m t.mx fr
  have hx := t.lox
  exact ⟨t.ok.fr fr, t.base.still.then fr fun d hd h => by omega, m', ⟨by rw [fr.f t.c.2 t.cx, t.c.1], Nat.lt_of_lt_of_le t.c.2 fr.n⟩, x', t.cx, fun h => t.mc (hm _ h), fun h => t.mx (hm _ h), fun d h => t.lom d (hm _ h), t.loc, t.lox, t.srt, t.len⟩
theorem Cy.stepc (t : Cy Hz H bm bc bx l sf st side key msd mkey) (c' : Cur H' bc sf st side' key') (fr : Fr (fun c => c = bc) H H') : Cy Hz H' bm bc bx l sf st side' key' msd mkey := by
  obtain ⟨m', hm⟩ := mdl_off t.m t.mc fr
  have hx := t.loc
  exact ⟨t.ok.fr fr, t.base.still.then fr fun d hd h => by omega, m', c', ⟨by rw [fr.f t.x.2 (fun e => t.cx e.symm), t.x.1], Nat.lt_of_lt_of_le t.x.2 fr.n⟩, t.cx, fun h => t.mc (hm _ h), fun h => t.mx (hm _ h), fun d h => t.lom d (hm _ h), t.loc, t.lox, t.srt, t.len⟩
theorem Cy.stepm (t : Cy Hz H bm bc bx l sf st side key msd mkey) (m' : Mdl H' bm l') (u : Up H bm H') (hs : Srt l') (hl : l'.length ≤ 20000) : Cy Hz H' bm bc bx l' sf st side key msd mkey := by
  have hc := t.c.2
  have hx := t.x.2
  have n0 : Hz.n ≤ H.n := t.base.n
  refine ⟨t.ok.fr u.fr, t.base.still.then u.fr fun d hd h => by have := t.lom d h; omega, m', ⟨by rw [u.fr.f hc t.mc, t.c.1], Nat.lt_of_lt_of_le hc u.fr.n⟩, ⟨by rw [u.fr.f hx t.mx, t.x.1], Nat.lt_of_lt_of_le hx u.fr.n⟩, t.cx, fun h => ?_, fun h => ?_, fun d h => ?_, t.loc, t.lox, hs, hl⟩
  · rcases u.mb _ h with h | h
    · exact t.mc h
    · omega
  · rcases u.mb _ h with h | h
    · exact t.mx h
    · omega
  · rcases u.mb _ h with h | h
    · exact t.lom d h
    · omega
/-- The copy of a cursor. -/
theorem Cy.copy {bd : Nat} (t : Cy Hz H bm bc bx l sf st side key msd mkey) (d : Cur H bd sf st side' key') (hd : bd ≠ bx) (hm : ¬ MB H bm bd) (hlo : Hz.n ≤ bd) : Cy Hz H bm bd bx l sf st side' key' msd mkey :=
  ⟨t.ok, t.base, t.m, d, t.x, hd, hm, t.mx, t.lom, hlo, t.lox, t.srt, t.len⟩
end

end Go.Proofs.Ytmbppjilnnjdaaa

/-
  The seat's functions as terms over the engine's combinators (a program of ours printed it).
  Conditions: none. By an AI agent.
-/
set_option linter.unusedVariables false
namespace Go.Proofs.Ytmbppjilnnjdaaa
open Go Eng

/-! ticketline.ticketlinelaw42.CursorPlays -/

noncomputable def s_law_CursorPlays (mg : GT) (mc : CT) (ms : ST) (P : Program) (C : CallF) (L0 : Value → Value → Value → Value → Value → AHeap → K → Res) (a0 : Value) (a1 : Value) (a2 : Value) (H : AHeap) (K0 : K) : Res :=
bareK (lenT a0) H fun t22 h1 =>
bareK (xbin P .gtr T.int (.tmp 22) (.const (.int .i64 24)) t22 (.int .i64 24)) h1 fun t23 h2 =>
mg t23 false (fun o1 => o1 a1 h2) h2 fun t25 h3 =>
mg t23 false (fun o2 => bareK (lenT t25) h3 o2) h3 fun t26 h4 =>
mg t23 false (fun o3 => bareK (xbin P .gtr T.int (.tmp 26) (.const (.int .i64 24)) t26 (.int .i64 24)) h4 o3) h4 fun t27 h5 =>
pickK t23 (.bool true) t27 fun t28 =>
mg t28 false (fun o4 => o4 a1 h5) h5 fun t30 h6 =>
mg t28 false (fun o5 => bareK (xbin P .neq T.string (.tmp 30) (.const (.string (mk []))) t30 (.string (mk []))) h6 o5) h6 fun t31 h7 =>
mg t28 false (fun o6 => o6 t31 h7) h7 fun t32 h8 =>
mg t32 true (fun o7 => o7 a1 h8) h8 fun t33 h9 =>
mg t32 true (fun o8 => o8 a0 h9) h9 fun t34 h10 =>
mg t32 true (fun o9 => bareK (xbin P .leq T.string (.tmp 33) (.tmp 34) t33 t34) h10 o9) h10 fun t35 h11 =>
mg t28 false (fun o10 => pickK t32 t35 (.bool false) fun v => o10 v h11) h11 fun t36 h12 =>
pickK t28 (.bool true) t36 fun t37 =>
mg t37 false (fun o11 => o11 a2 h12) h12 fun t39 h13 =>
mg t37 false (fun o12 => enterK C F.law_small [t39, (.int .i64 30)] h13 o12) h13 fun t40 h14 =>
mg t37 false (fun o13 => bareK (xun P .not t40) h14 o13) h14 fun t41 h15 =>
pickK t37 (.bool true) t41 fun t42 =>
mc t42 (fun k14 => enterK C F.law_known [] h15 fun t43 h16 =>
k14 .ret [(6, t43)] h16) (fun k14 =>
k14 .normal [(0, a0), (1, a1), (2, a2)] h15) (seqK (fun tT h17 =>
enterK C F.cursor_New [(get tT 0), (get tT 1)] h17 fun t47 h18 =>
bareK (xextract t47 0) h18 fun t48 h19 =>
bareK (xextract t47 1) h19 fun t49 h20 =>
bareK (bldS #[(.slice none 0 0)] [(0, 1)] []) h20 fun t50 h21 =>
bothK (newv T.model_Model t50 h21) fun t51 h22 =>
bareK (bldS #[(.string (mk [])), (.string (mk [])), (.string (mk [])), (.int .i64 0)] [(0, 1), (1, 1), (2, 1), (3, 1)] [(0, (get tT 0)), (1, (get tT 1)), (3, (.int .i64 (-1)))]) h22 fun t54 h23 =>
bothK (newv T.law_Model t54 h23) fun t55 h24 =>
bareK (xbin P .eql T.p_cursor_Cursor (.tmp 56) (.const (.pointer none)) t48 (.pointer none)) h24 fun t57 h25 =>
mg t57 false (fun o15 => o15 t49 h25) h25 fun t59 h26 =>
mg t57 false (fun o16 => bareK (xbin P .neq T.api_Errno (.tmp 59) (.const (.int .i64 0)) t59 (.int .i64 0)) h26 o16) h26 fun t60 h27 =>
pickK t57 (.bool true) t60 fun t61 =>
mc t61 (fun k17 => k17 .ret [(6, (.bool false))] h27) (fun k17 =>
k17 .normal [(2, (get tT 2)), (7, t48), (9, t51), (10, t55)] h27) (seqK (fun tT_1 h28 =>
ms (fun k18 =>
L0 (get tT_1 2) (get tT_1 7) (get tT_1 9) (get tT_1 10) (.int .i64 0) h28 (blkK [] 0 k18)) (seqK (fun tT_2 h29 =>
enterK C F.law_known [] h29 fun t155 h30 =>
K0 .ret [(6, t155)] h30) K0)) K0)) K0)

noncomputable def s_law_CursorPlays_b0 (mg : GT) (mc : CT) (ms : ST) (P : Program) (C : CallF) (L0 : Value → Value → Value → Value → Value → AHeap → K → Res) (v2 : Value) (v7 : Value) (v9 : Value) (v10 : Value) (v11 : Value) (H : AHeap) (k : K) : Res :=
bareK (lenS v2) H fun t64 h29 =>
bareK (xbin P .lss T.int (.tmp 62) (.tmp 64) v11 t64) h29 fun t65 h30 =>
mc t65 (fun k19 => k19 .normal [(2, v2), (7, v7), (9, v9), (10, v10), (11, v11)] h30) (fun k19 =>
k19 (.exit 0) [(65, t65), (64, t64), (63, v2), (62, v11), (2, v2), (7, v7), (9, v9), (10, v10), (11, v11)] h30) (seqK (fun tT h31 =>
ms (fun k20 =>
bareK (ixS 3 (get tT 2) (get tT 11)) h31 fun t70 h32 =>
bareK (ldN 3 h32 t70) h32 fun t71 h33 =>
bothK (newv T.law_Act (.agg #[(.int .i64 0), (.string (mk [])), (.string (mk []))]) h33) fun t12 h34 =>
quietK (stN 3 h34 t12 t71) fun _ h35 =>
bareK (fad 0 t12) h35 fun t72 h36 =>
bareK (ld1 h36 t72) h36 fun t73 h37 =>
ms (fun k21 =>
bareK (xbin P .eql T.int (.tmp 73) (.const (.int .i64 0)) t73 (.int .i64 0)) h37 fun t81 h38 =>
mc t81 (fun k22 => enterK C F.law_Model_next [(get tT 10), (get tT 9)] h38 fun t85 h39 =>
bareK (xextract t85 0) h39 fun t86 h40 =>
bareK (xextract t85 1) h40 fun t87 h41 =>
bothK (newv T.api_Pair (.agg #[(.string (mk [])), (.string (mk []))]) h41) fun t14 h42 =>
quietK (stN 2 h42 t14 t86) fun _ h43 =>
bareK (fad 0 t14) h43 fun t90 h44 =>
bareK (ld1 h44 t90) h44 fun t91 h45 =>
bareK (fad 1 t14) h45 fun t92 h46 =>
bareK (ld1 h46 t92) h46 fun t93 h47 =>
enterK C F.law_next [(get tT 7), (get tT 9), t91, t93, t87] h47 fun t95 h48 =>
k22 .normal [(2, (get tT 2)), (7, (get tT 7)), (9, (get tT 9)), (10, (get tT 10)), (11, (get tT 11)), (13, t95)] h48) (fun k22 =>
bareK (xbin P .eql T.int (.tmp 73) (.const (.int .i64 1)) t73 (.int .i64 1)) h38 fun t97 h49 =>
mc t97 (fun k23 => enterK C F.law_Model_prev [(get tT 10), (get tT 9)] h49 fun t101 h50 =>
bareK (xextract t101 0) h50 fun t102 h51 =>
bareK (xextract t101 1) h51 fun t103 h52 =>
bothK (newv T.api_Pair (.agg #[(.string (mk [])), (.string (mk []))]) h52) fun t16 h53 =>
quietK (stN 2 h53 t16 t102) fun _ h54 =>
bareK (fad 0 t16) h54 fun t106 h55 =>
bareK (ld1 h55 t106) h55 fun t107 h56 =>
bareK (fad 1 t16) h56 fun t108 h57 =>
bareK (ld1 h57 t108) h57 fun t109 h58 =>
enterK C F.law_prev [(get tT 7), (get tT 9), t107, t109, t103] h58 fun t111 h59 =>
k23 .normal [(2, (get tT 2)), (7, (get tT 7)), (9, (get tT 9)), (10, (get tT 10)), (11, (get tT 11)), (13, t111)] h59) (fun k23 =>
bareK (xbin P .eql T.int (.tmp 73) (.const (.int .i64 2)) t73 (.int .i64 2)) h49 fun t113 h60 =>
mc t113 (fun k24 => bareK (fad 1 t12) h60 fun t117 h61 =>
bareK (ld1 h61 t117) h61 fun t118 h62 =>
enterK C F.law_Model_seek [(get tT 10), (get tT 9), t118] h62 fun t119 h63 =>
bareK (xextract t119 0) h63 fun t120 h64 =>
bareK (xextract t119 1) h64 fun t121 h65 =>
bothK (newv T.api_Pair (.agg #[(.string (mk [])), (.string (mk []))]) h65) fun t18 h66 =>
quietK (stN 2 h66 t18 t120) fun _ h67 =>
bareK (fad 1 t12) h67 fun t124 h68 =>
bareK (ld1 h68 t124) h68 fun t125 h69 =>
bareK (fad 0 t18) h69 fun t126 h70 =>
bareK (ld1 h70 t126) h70 fun t127 h71 =>
bareK (fad 1 t18) h71 fun t128 h72 =>
bareK (ld1 h72 t128) h72 fun t129 h73 =>
enterK C F.law_seek [(get tT 7), (get tT 9), t125, t127, t129, t121] h73 fun t131 h74 =>
k24 .normal [(2, (get tT 2)), (7, (get tT 7)), (9, (get tT 9)), (10, (get tT 10)), (11, (get tT 11)), (13, t131)] h74) (fun k24 =>
bareK (xbin P .eql T.int (.tmp 73) (.const (.int .i64 3)) t73 (.int .i64 3)) h60 fun t133 h75 =>
mc t133 (fun k25 => bareK (fad 1 t12) h75 fun t135 h76 =>
bareK (ld1 h76 t135) h76 fun t136 h77 =>
bareK (fad 2 t12) h77 fun t137 h78 =>
bareK (ld1 h78 t137) h78 fun t138 h79 =>
enterK C F.model_Model_Put [(get tT 9), t136, t138] h79 fun t139 h80 =>
k25 .normal [(2, (get tT 2)), (7, (get tT 7)), (9, (get tT 9)), (10, (get tT 10)), (11, (get tT 11)), (13, (.bool true))] h80) (fun k25 =>
bareK (xbin P .eql T.int (.tmp 73) (.const (.int .i64 4)) t73 (.int .i64 4)) h75 fun t141 h81 =>
mc t141 (fun k26 => bareK (fad 1 t12) h81 fun t143 h82 =>
bareK (ld1 h82 t143) h82 fun t144 h83 =>
enterK C F.model_Model_Delete [(get tT 9), t144] h83 fun t145 h84 =>
k26 .normal [(2, (get tT 2)), (7, (get tT 7)), (9, (get tT 9)), (10, (get tT 10)), (11, (get tT 11)), (13, (.bool true))] h84) (fun k26 =>
enterK C F.cursor_Cursor_Copy [(get tT 7)] h81 fun t75 h85 =>
enterK C F.cursor_Cursor_Next [(get tT 7), (get tT 9)] h85 fun t78 h86 =>
k26 .normal [(2, (get tT 2)), (7, t75), (9, (get tT 9)), (10, (get tT 10)), (11, (get tT 11)), (13, (.bool true))] h86) (afterK [2, 7, 9, 10, 11, 13] k25)) (afterK [2, 7, 9, 10, 11, 13] k24)) (afterK [2, 7, 9, 10, 11, 13] k23)) (afterK [2, 7, 9, 10, 11, 13] k22)) (blkK [2, 7, 9, 10, 11, 13] 2 k21)) (seqK (fun tT_1 h87 =>
bareK (xun P .not (get tT_1 13)) h87 fun t147 h88 =>
mg t147 false (fun o27 => o27 (get tT_1 7) h88) h88 fun t149 h89 =>
mg t147 false (fun o28 => o28 (get tT_1 10) h89) h89 fun t150 h90 =>
mg t147 false (fun o29 => o29 (get tT_1 9) h90) h90 fun t151 h91 =>
mg t147 false (fun o30 => enterK C F.law_alike [t149, t150, t151] h91 o30) h91 fun t152 h92 =>
mg t147 false (fun o31 => bareK (xun P .not t152) h92 o31) h92 fun t153 h93 =>
pickK t147 (.bool true) t153 fun t154 =>
mc t154 (fun k32 => k32 .ret [(6, (.bool false))] h93) (fun k32 =>
k32 .normal [(2, (get tT_1 2)), (7, (get tT_1 7)), (9, (get tT_1 9)), (10, (get tT_1 10)), (11, (get tT_1 11))] h93) (blkK [2, 7, 9, 10, 11] 1 k20)) (blkK [2, 7, 9, 10, 11] 1 k20))) (seqK (fun tT_2 h94 =>
bareK (xbin P .add T.int (.tmp 66) (.const (.int .i64 1)) (get tT_2 11) (.int .i64 1)) h94 fun t67 h95 =>
k .normal [(2, (get tT_2 2)), (7, (get tT_2 7)), (9, (get tT_2 9)), (10, (get tT_2 10)), (11, t67)] h95) (afterK [2, 7, 9, 10, 11] k))) (afterK [2, 7, 9, 10, 11] k))

theorem s_law_CursorPlays_eq (M : CombL) (C : CallF) (LP : LoopH) (a0 : Value) (a1 : Value) (a2 : Value) (H : AHeap) : dBodyL M Try.prog hints C LP F.law_CursorPlays [a0, a1, a2] H = s_law_CursorPlays M.b.g M.c M.s Try.prog C (fun v2 v7 v9 v10 v11 H k => loopL M Try.prog hints C LP F.law_CursorPlays 0 [(2, v2), (7, v7), (9, v9), (10, v10), (11, v11)] H k) a0 a1 a2 H (endK Try.prog [.tmp 6]) := by kernel_rfl

theorem s_law_CursorPlays_b0_eq (M : CombL) (C : CallF) (LP : LoopH) (v2 : Value) (v7 : Value) (v9 : Value) (v10 : Value) (v11 : Value) (H : AHeap) (k : K) : bodyL M Try.prog hints C LP F.law_CursorPlays 0 [(2, v2), (7, v7), (9, v9), (10, v10), (11, v11)] H (afterK [2, 7, 9, 10, 11] k) = s_law_CursorPlays_b0 M.b.g M.c M.s Try.prog C (fun v2 v7 v9 v10 v11 H k => loopL M Try.prog hints C LP F.law_CursorPlays 0 [(2, v2), (7, v7), (9, v9), (10, v10), (11, v11)] H k) v2 v7 v9 v10 v11 H k := by kernel_rfl

end Go.Proofs.Ytmbppjilnnjdaaa

/-
  The equations of the seat's functions over calls in the limit (a program of ours printed it).
  Conditions: none. By an AI agent.
-/
set_option linter.unusedVariables false
namespace Go.Proofs.Ytmbppjilnnjdaaa
open Go Eng

theorem u_law_Model : Try.prog.underlying T.law_Model = Try.prog.underlying 31 := rfl
theorem u_law_Act : Try.prog.underlying T.law_Act = Try.prog.underlying 52 := rfl

noncomputable def l_law_CursorPlays_0 (v2 : Value) (v7 : Value) (v9 : Value) (v10 : Value) (v11 : Value) (H : AHeap) (k : K) : Res := loopL stdL Try.prog hints CC limLP F.law_CursorPlays 0 [(2, v2), (7, v7), (9, v9), (10, v10), (11, v11)] H k
theorem r_law_CursorPlays_0 (v2 : Value) (v7 : Value) (v9 : Value) (v10 : Value) (v11 : Value) (H : AHeap) (k : K) : l_law_CursorPlays_0 v2 v7 v9 v10 v11 H k = s_law_CursorPlays_b0 guardK condL shareL Try.prog CC l_law_CursorPlays_0 v2 v7 v9 v10 v11 H (seqK (fun T H => l_law_CursorPlays_0 (get T 2) (get T 7) (get T 9) (get T 10) (get T 11) H k) k) := ((loopL_next (by kernel_rfl) rfl H k).trans (s_law_CursorPlays_b0_eq stdL CC limLP v2 v7 v9 v10 v11 H _)).trans (by kernel_rfl)
theorem d_law_CursorPlays (a0 : Value) (a1 : Value) (a2 : Value) (H : AHeap) {r : Value × AHeap} (h : s_law_CursorPlays guardK condL shareL Try.prog CC l_law_CursorPlays_0 a0 a1 a2 H (endK Try.prog [.tmp 6]) = some r) : CC F.law_CursorPlays [a0, a1, a2] H = some (tidy H r) := D_body (by kernel_rfl) ((s_law_CursorPlays_eq stdL CC limLP a0 a1 a2 H).trans (Eq.trans (show s_law_CursorPlays stdL.b.g stdL.c stdL.s Try.prog CC (fun v2 v7 v9 v10 v11 H k => loopL stdL Try.prog hints CC limLP F.law_CursorPlays 0 [(2, v2), (7, v7), (9, v9), (10, v10), (11, v11)] H k) a0 a1 a2 H (endK Try.prog [.tmp 6]) = s_law_CursorPlays guardK condL shareL Try.prog CC l_law_CursorPlays_0 a0 a1 a2 H (endK Try.prog [.tmp 6]) by kernel_rfl) h))

end Go.Proofs.Ytmbppjilnnjdaaa

/-
  The seat's functions as terms over the engine's combinators (a program of ours printed it).
  Conditions: none. By an AI agent.
-/
set_option linter.unusedVariables false
namespace Go.Proofs.Ytmbppjilnnjdaaa
open Go Eng

/-! ticketline.ticketlinelaw42.CursorNew -/

noncomputable def s_law_CursorNew (mg : GT) (mc : CT) (ms : ST) (P : Program) (C : CallF) (a0 : Value) (a1 : Value) (H : AHeap) (K0 : K) : Res :=
bareK (lenT a0) H fun t8 h1 =>
bareK (xbin P .gtr T.int (.tmp 8) (.const (.int .i64 30)) t8 (.int .i64 30)) h1 fun t9 h2 =>
mg t9 false (fun o1 => o1 a1 h2) h2 fun t11 h3 =>
mg t9 false (fun o2 => bareK (lenT t11) h3 o2) h3 fun t12 h4 =>
mg t9 false (fun o3 => bareK (xbin P .gtr T.int (.tmp 12) (.const (.int .i64 30)) t12 (.int .i64 30)) h4 o3) h4 fun t13 h5 =>
pickK t9 (.bool true) t13 fun t14 =>
mc t14 (fun k4 => enterK C F.law_known [] h5 fun t15 h6 =>
k4 .ret [(4, t15)] h6) (fun k4 =>
k4 .normal [(0, a0), (1, a1)] h5) (seqK (fun tT h7 =>
bareK (lenT (get tT 0)) h7 fun t17 h8 =>
bareK (xbin P .gtr T.int (.tmp 17) (.const (.int .i64 24)) t17 (.int .i64 24)) h8 fun t18 h9 =>
mg t18 false (fun o5 => o5 (get tT 1) h9) h9 fun t20 h10 =>
mg t18 false (fun o6 => bareK (lenT t20) h10 o6) h10 fun t21 h11 =>
mg t18 false (fun o7 => bareK (xbin P .gtr T.int (.tmp 21) (.const (.int .i64 24)) t21 (.int .i64 24)) h11 o7) h11 fun t22 h12 =>
pickK t18 (.bool true) t22 fun t23 =>
mc t23 (fun k8 => enterK C F.law_fails [(get tT 0), (get tT 1), (.int .i64 5)] h12 fun t26 h13 =>
mg t26 true (fun o9 => enterK C F.law_known [] h13 o9) h13 fun t28 h14 =>
pickK t26 t28 (.bool false) fun t29 =>
k8 .ret [(4, t29)] h14) (fun k8 =>
k8 .normal [(0, (get tT 0)), (1, (get tT 1))] h12) (seqK (fun tT_1 h15 =>
bareK (xbin P .neq T.string (.tmp 30) (.const (.string (mk []))) (get tT_1 1) (.string (mk []))) h15 fun t31 h16 =>
mg t31 true (fun o10 => o10 (get tT_1 1) h16) h16 fun t33 h17 =>
mg t31 true (fun o11 => o11 (get tT_1 0) h17) h17 fun t34 h18 =>
mg t31 true (fun o12 => bareK (xbin P .leq T.string (.tmp 33) (.tmp 34) t33 t34) h18 o12) h18 fun t35 h19 =>
pickK t31 t35 (.bool false) fun t36 =>
mc t36 (fun k13 => enterK C F.law_fails [(get tT_1 0), (get tT_1 1), (.int .i64 13)] h19 fun t39 h20 =>
mg t39 true (fun o14 => enterK C F.law_known [] h20 o14) h20 fun t41 h21 =>
pickK t39 t41 (.bool false) fun t42 =>
k13 .ret [(4, t42)] h21) (fun k13 =>
k13 .normal [(0, (get tT_1 0)), (1, (get tT_1 1))] h19) (seqK (fun tT_2 h22 =>
enterK C F.cursor_New [(get tT_2 0), (get tT_2 1)] h22 fun t46 h23 =>
bareK (xextract t46 0) h23 fun t47 h24 =>
bareK (xextract t46 1) h24 fun t48 h25 =>
bareK (xbin P .eql T.api_Errno (.tmp 49) (.const (.int .i64 0)) t48 (.int .i64 0)) h25 fun t50 h26 =>
mg t50 true (fun o15 => o15 t47 h26) h26 fun t52 h27 =>
mg t50 true (fun o16 => o16 (get tT_2 0) h27) h27 fun t53 h28 =>
mg t50 true (fun o17 => o17 (get tT_2 1) h28) h28 fun t54 h29 =>
mg t50 true (fun o18 => bareK (bldS #[(.string (mk [])), (.string (mk [])), (.string (mk [])), (.int .i64 0)] [(0, 1), (1, 1), (2, 1), (3, 1)] [(0, t53), (1, t54), (3, (.int .i64 (-1)))]) h29 o18) h29 fun t55 h30 =>
mg t50 true (fun o19 => bothK (newv T.law_Model t55 h30) o19) h30 fun t56 h31 =>
mg t50 true (fun o20 => bareK (bldS #[(.slice none 0 0)] [(0, 1)] []) h31 o20) h31 fun t57 h32 =>
mg t50 true (fun o21 => bothK (newv T.model_Model t57 h32) o21) h32 fun t58 h33 =>
mg t50 true (fun o22 => enterK C F.law_alike [t52, t56, t58] h33 o22) h33 fun t59 h34 =>
pickK t50 t59 (.bool false) fun t60 =>
mg t60 true (fun o23 => enterK C F.law_known [] h34 o23) h34 fun t62 h35 =>
pickK t60 t62 (.bool false) fun t63 =>
K0 .ret [(4, t63)] h35) K0)) K0)) K0)

theorem s_law_CursorNew_eq (M : CombL) (C : CallF) (LP : LoopH) (a0 : Value) (a1 : Value) (H : AHeap) : dBodyL M Try.prog hints C LP F.law_CursorNew [a0, a1] H = s_law_CursorNew M.b.g M.c M.s Try.prog C a0 a1 H (endK Try.prog [.tmp 4]) := by kernel_rfl

end Go.Proofs.Ytmbppjilnnjdaaa

/-
  The equations of the seat's functions over calls in the limit (a program of ours printed it).
  Conditions: none. By an AI agent.
-/
set_option linter.unusedVariables false
namespace Go.Proofs.Ytmbppjilnnjdaaa
open Go Eng


theorem d_law_CursorNew (a0 : Value) (a1 : Value) (H : AHeap) {r : Value × AHeap} (h : s_law_CursorNew guardK condL shareL Try.prog CC a0 a1 H (endK Try.prog [.tmp 4]) = some r) : CC F.law_CursorNew [a0, a1] H = some (tidy H r) := D_body (by kernel_rfl) ((s_law_CursorNew_eq stdL CC limLP a0 a1 H).trans (Eq.trans (show s_law_CursorNew stdL.b.g stdL.c stdL.s Try.prog CC a0 a1 H (endK Try.prog [.tmp 4]) = s_law_CursorNew guardK condL shareL Try.prog CC a0 a1 H (endK Try.prog [.tmp 4]) by kernel_rfl) h))

end Go.Proofs.Ytmbppjilnnjdaaa

/-
  A call that is reckoned with some fuel is one without fuel.
  Conditions: none. By an AI agent.
-/
set_option linter.all false
namespace Go.Proofs.Ytmbppjilnnjdaaa.Eng
open Go
theorem dLoop_body {body body' : Env → AHeap → DRes} (hb : ∀ T H r, body T H = some r → body' T H = some r) {keep : List Nat} : ∀ {m : Nat} {T : Env} {H : AHeap} {r : DExit × Env × AHeap}, dLoop body keep m T H = some r → dLoop body' keep m T H = some r
  | 0, _, _, _, h => by simp [dLoop] at h
  | m + 1, T, H, r, h => by
    rw [dLoop] at h ⊢
    cases hx : body (clr keep T) H with
    | none => rw [hx] at h; cases h
    | some x =>
      rw [hx] at h
      rw [hb _ _ _ hx]
      obtain ⟨e, T', H'⟩ := x
      cases e with
      | normal => exact dLoop_body hb h
      | exit i => exact h
      | ret => exact h

theorem code_fin {P : Program} {N m : Nat} {C : CallF} : ∀ (x : DCode) {T : Env} {H : AHeap} {r : DExit × Env × AHeap}, dCode P N C m x T H = some r → dCodeI P N C x T H = some r
  | .skip, _, _, _, h => h
  | .region id ops draw, T, H, r, h => h
  | .seq a b, T, H, r, h => by
    rw [dCode] at h
    obtain ⟨y, h1, h2⟩ := Option.bind_eq_some_iff.1 h
    rw [dCodeI, code_fin a h1]
    obtain ⟨e, T', H'⟩ := y
    cases e with
    | normal => exact code_fin b h2
    | exit j => exact h2
    | ret => exact h2
  | .cond keep q a b, T, H, r, h => by
    rw [dCode] at h
    rw [dCodeI]
    split at h
    · rename_i v hv
      obtain ⟨y, h1, h2⟩ := Option.map_eq_some_iff.1 h
      have key : (if v then dCodeI P N C a T H else dCodeI P N C b T H) = some y := by
        cases v with
        | true => simp only [if_true] at h1 ⊢; exact code_fin a h1
        | false => simp only [Bool.false_eq_true, if_false] at h1 ⊢; exact code_fin b h1
      rw [hv]
      simp only
      rw [key]
      exact congrArg some h2
    · cases h
  | .block keep id b, T, H, r, h => by
    rw [dCode] at h
    obtain ⟨y, h1, h2⟩ := Option.map_eq_some_iff.1 h
    rw [dCodeI, code_fin b h1]
    exact congrArg some h2
  | .loop keep b, T, H, r, h => by
    rw [dCode] at h
    rw [dCodeI, loopI_some]
    exact ⟨m, dLoop_body (fun T H r h => code_fin b h) h⟩
  | .exit id, _, _, _, h => h
  | .ret keep, _, _, _, h => h
  | .bad _, _, _, _, h => by simp [dCode] at h

theorem dCall_evt {P : Program} {prims : Prims} {hints : Hints} : ∀ (n : Nat), CApx (dCall P prims hints n) (dCall P prims hints)
  | 0 => fun f args H r h => by simp [dCall] at h
  | n + 1 => fun f args H r h => by
    cases hp : prims f with
    | some p =>
      simp only [dCall, hp] at h
      exact lim_some.1 (D_prim hp h)
    | none =>
      simp only [dCall, hp] at h
      obtain ⟨y, h1, rfl⟩ := Option.map_eq_some_iff.1 h
      have key : Evt (fun n => dBody P hints (dCall P prims hints n) n f args H) y := by
        unfold dBody at h1 ⊢
        cases hf : P.funcs[f]? with
        | none => rw [hf] at h1; cases h1
        | some fn =>
          rw [hf] at h1
          simp only at h1 ⊢
          cases hb : fn.body with
          | none => rw [hb] at h1; cases h1
          | some c =>
            rw [hb] at h1
            simp only at h1 ⊢
            obtain ⟨x, h2, h3⟩ := Option.bind_eq_some_iff.1 h1
            exact Evt.bind (code_apx (dCall_evt n) _ (code_fin _ h2)) (Evt.of_eq h3)
      obtain ⟨m, hm⟩ := key
      dsimp only at hm
      refine Evt.succ ⟨m, fun i hi => ?_⟩
      simp only [dCall, hp]
      rw [hm i hi]
      rfl

/-- What is reckoned with fuel is so. -/
theorem D_of {P : Program} {prims : Prims} {hints : Hints} {n : Nat} {f : FuncId} {args : List Value} {H : AHeap} {r : Value × AHeap} (h : dCall P prims hints n f args H = some r) :
    D P prims hints f args H = some r := lim_some.2 (dCall_evt n f args H r h)
/-- The same where only the value is told: a call that answers a bare value and leaves what was there. -/
theorem D_ofv {P : Program} {prims : Prims} {hints : Hints} {n : Nat} {f : FuncId} {args : List Value} {H : AHeap} {v : Value} (h : ((dCall P prims hints n f args H).map fun r => (r.1, gr 9 r.1 && still H r.2)) = some (v, true)) (hp : prims f = none) :
    D P prims hints f args H = some (v, H) := by
  cases n with
  | zero => simp [dCall] at h
  | succ n =>
    obtain ⟨r, h1, h2⟩ := Option.map_eq_some_iff.1 h
    have h0 := h1
    simp only [dCall, hp] at h1
    obtain ⟨y, h3, h4⟩ := Option.map_eq_some_iff.1 h1
    rw [D_of h0]
    obtain ⟨v1, H1⟩ := r
    simp only [Prod.mk.injEq] at h2
    obtain ⟨rfl, h2⟩ := h2
    obtain ⟨v2, H2⟩ := y
    unfold tidy at h4
    split at h4
    · simp only [Prod.mk.injEq] at h4; obtain ⟨rfl, rfl⟩ := h4; rfl
    · rename_i hn
      simp only [Prod.mk.injEq] at h4
      obtain ⟨rfl, rfl⟩ := h4
      exact absurd h2 hn

/-- A call's answer, whatever becomes of the heap. -/
theorem any_of {X : Res} {H H1 : AHeap} {v : Value} (h : X = some (tidy H (v, H1))) : ∃ H', X = some (v, H') := by
  unfold tidy at h
  split at h
  · exact ⟨_, h⟩
  · exact ⟨_, h⟩

end Go.Proofs.Ytmbppjilnnjdaaa.Eng

/-
  Chapter 42: the law CursorNew runs to true.
  Conditions: none. By an AI agent.
-/
set_option maxRecDepth 100000
set_option linter.unusedSimpArgs false
set_option linter.unusedVariables false
namespace Go.Proofs.Ytmbppjilnnjdaaa
open Go Eng


/-- The heap with a new cursor. -/
def newH (a b : ByteArray) (H : AHeap) : AHeap := H.push (.cells [.string a, .string b, .int .i64 1, .string (mk [])] T.cursor_Cursor true)

theorem q_New_long (a b : ByteArray) (H : AHeap) (h : 24 < ((bl a).length : Int) ∨ 24 < ((bl b).length : Int)) : CC F.cursor_New [.string a, .string b] H = some (.tuple #[.pointer none, .int .i64 5], H) := by
  by_cases h1 : 24 < ((bl a).length : Int)
  · apply pure_of _ (d_cursor_New _ _ H) rfl
    rotate_left 2
    · simp (disch := first | with_reducible rfl | assumption | omega | rfl | (simp only [go_sem]; first | done | omega)) only [go_sem, ↓reduceIte, reduceCtorEq, Nat.reduceEqDiff, Nat.reduceAdd, Nat.reduceSub, Nat.reduceMul, Nat.reduceDiv, Nat.reduceMod, Nat.reduceLeDiff, Nat.reduceLT, Nat.reduceBEq, Int.reduceEq, Int.reduceBEq, Int.reduceBNe, Int.reduceLT, Int.reduceLE, Int.reduceAdd, Int.reduceSub, Int.reduceNeg, Int.reduceToNat, Int.reducePow, Nat.reducePow, Int.reduceMul, Int.reduceDiv, ↓s_cursor_New, decide_eq_true h1]
      rfl
    · (repeat (first | exact Fr.refl _ | refine Fr.push ?_ _ | refine Fr.set ?_ _ _ (by intro h; first | omega | (simp only [go_sem] at h; omega))))
  · have h2 : 24 < ((bl b).length : Int) := by omega
    apply pure_of _ (d_cursor_New _ _ H) rfl
    rotate_left 2
    · simp (disch := first | with_reducible rfl | assumption | omega | rfl | (simp only [go_sem]; first | done | omega)) only [go_sem, ↓reduceIte, reduceCtorEq, Nat.reduceEqDiff, Nat.reduceAdd, Nat.reduceSub, Nat.reduceMul, Nat.reduceDiv, Nat.reduceMod, Nat.reduceLeDiff, Nat.reduceLT, Nat.reduceBEq, Int.reduceEq, Int.reduceBEq, Int.reduceBNe, Int.reduceLT, Int.reduceLE, Int.reduceAdd, Int.reduceSub, Int.reduceNeg, Int.reduceToNat, Int.reducePow, Nat.reducePow, Int.reduceMul, Int.reduceDiv, ↓s_cursor_New, decide_eq_false h1, decide_eq_true h2]
      rfl
    · (repeat (first | exact Fr.refl _ | refine Fr.push ?_ _ | refine Fr.set ?_ _ _ (by intro h; first | omega | (simp only [go_sem] at h; omega))))
@[go_sem, go_sem ↓] theorem e_New_long (a b : ByteArray) (H : AHeap) (h : 24 < ((bl a).length : Int) ∨ 24 < ((bl b).length : Int)) {k : Value → AHeap → Res} : enterK CC F.cursor_New [.string a, .string b] H k = k (.tuple #[.pointer none, .int .i64 5]) H := enterK_eq (q_New_long a b H h)
theorem q_New_order (a b : ByteArray) (H : AHeap) (h1 : ¬ 24 < ((bl a).length : Int)) (h2 : ¬ 24 < ((bl b).length : Int)) (h3 : ¬ bl b = []) (h4 : cmpS b a ≤ 0) : CC F.cursor_New [.string a, .string b] H = some (.tuple #[.pointer none, .int .i64 13], H) := by
  apply pure_of _ (d_cursor_New _ _ H) rfl
  rotate_left 2
  · simp (disch := first | with_reducible rfl | assumption | omega | rfl | (simp only [go_sem]; first | done | omega)) only [go_sem, ↓reduceIte, reduceCtorEq, Nat.reduceEqDiff, Nat.reduceAdd, Nat.reduceSub, Nat.reduceMul, Nat.reduceDiv, Nat.reduceMod, Nat.reduceLeDiff, Nat.reduceLT, Nat.reduceBEq, Int.reduceEq, Int.reduceBEq, Int.reduceBNe, Int.reduceLT, Int.reduceLE, Int.reduceAdd, Int.reduceSub, Int.reduceNeg, Int.reduceToNat, Int.reducePow, Nat.reducePow, Int.reduceMul, Int.reduceDiv, ↓s_cursor_New, decide_eq_false h1, decide_eq_false h2, bl_mk, decide_eq_false h3, decide_eq_true h4]
    rfl
  · (repeat (first | exact Fr.refl _ | refine Fr.push ?_ _ | refine Fr.set ?_ _ _ (by intro h; first | omega | (simp only [go_sem] at h; omega))))
@[go_sem, go_sem ↓] theorem e_New_order (a b : ByteArray) (H : AHeap) (h1 : ¬ 24 < ((bl a).length : Int)) (h2 : ¬ 24 < ((bl b).length : Int)) (h3 : ¬ bl b = []) (h4 : cmpS b a ≤ 0) {k : Value → AHeap → Res} : enterK CC F.cursor_New [.string a, .string b] H k = k (.tuple #[.pointer none, .int .i64 13]) H := enterK_eq (q_New_order a b H h1 h2 h3 h4)
theorem q_New (a b : ByteArray) (H : AHeap) (h1 : ¬ 24 < ((bl a).length : Int)) (h2 : ¬ 24 < ((bl b).length : Int)) (h3 : bl b = [] ∨ ¬ cmpS b a ≤ 0) : CC F.cursor_New [.string a, .string b] H = some (.tuple #[.pointer (some ⟨H.n, 0, none⟩), .int .i64 0], newH a b H) := by
  by_cases h5 : bl b = []
  · refine (d_cursor_New _ _ H ?_).trans (congrArg some (tidy_mem ?_))
    rotate_left 2
    · simp (disch := first | with_reducible rfl | assumption | omega | rfl | (simp only [go_sem]; first | done | omega)) only [go_sem, ↓reduceIte, reduceCtorEq, Nat.reduceEqDiff, Nat.reduceAdd, Nat.reduceSub, Nat.reduceMul, Nat.reduceDiv, Nat.reduceMod, Nat.reduceLeDiff, Nat.reduceLT, Nat.reduceBEq, Int.reduceEq, Int.reduceBEq, Int.reduceBNe, Int.reduceLT, Int.reduceLE, Int.reduceAdd, Int.reduceSub, Int.reduceNeg, Int.reduceToNat, Int.reducePow, Nat.reducePow, Int.reduceMul, Int.reduceDiv, ↓s_cursor_New, decide_eq_false h1, decide_eq_false h2, bl_mk, decide_eq_true h5]
      rfl
    · rfl
  · have h4 : ¬ cmpS b a ≤ 0 := h3.resolve_left h5
    refine (d_cursor_New _ _ H ?_).trans (congrArg some (tidy_mem ?_))
    rotate_left 2
    · simp (disch := first | with_reducible rfl | assumption | omega | rfl | (simp only [go_sem]; first | done | omega)) only [go_sem, ↓reduceIte, reduceCtorEq, Nat.reduceEqDiff, Nat.reduceAdd, Nat.reduceSub, Nat.reduceMul, Nat.reduceDiv, Nat.reduceMod, Nat.reduceLeDiff, Nat.reduceLT, Nat.reduceBEq, Int.reduceEq, Int.reduceBEq, Int.reduceBNe, Int.reduceLT, Int.reduceLE, Int.reduceAdd, Int.reduceSub, Int.reduceNeg, Int.reduceToNat, Int.reducePow, Nat.reducePow, Int.reduceMul, Int.reduceDiv, ↓s_cursor_New, decide_eq_false h1, decide_eq_false h2, bl_mk, decide_eq_false h5, decide_eq_false h4]
      rfl
    · rfl

theorem q_fails_long (a b : ByteArray) (H : AHeap) (h : 24 < ((bl a).length : Int) ∨ 24 < ((bl b).length : Int)) : CC F.law_fails [.string a, .string b, .int .i64 5] H = some (.bool true, H) := by
  apply pure_of _ (d_law_fails _ _ _ H) rfl
  rotate_left 2
  · simp (disch := first | with_reducible rfl | assumption | omega | rfl | (simp only [go_sem]; first | done | omega)) only [go_sem, ↓reduceIte, reduceCtorEq, Nat.reduceEqDiff, Nat.reduceAdd, Nat.reduceSub, Nat.reduceMul, Nat.reduceDiv, Nat.reduceMod, Nat.reduceLeDiff, Nat.reduceLT, Nat.reduceBEq, Int.reduceEq, Int.reduceBEq, Int.reduceBNe, Int.reduceLT, Int.reduceLE, Int.reduceAdd, Int.reduceSub, Int.reduceNeg, Int.reduceToNat, Int.reducePow, Nat.reducePow, Int.reduceMul, Int.reduceDiv, ↓s_law_fails, enterK_eq (q_New_long a b H h)]
    rfl
  · (repeat (first | exact Fr.refl _ | refine Fr.push ?_ _ | refine Fr.set ?_ _ _ (by intro h; first | omega | (simp only [go_sem] at h; omega))))
@[go_sem, go_sem ↓] theorem e_fails_long (a b : ByteArray) (H : AHeap) (h : 24 < ((bl a).length : Int) ∨ 24 < ((bl b).length : Int)) {k : Value → AHeap → Res} : enterK CC F.law_fails [.string a, .string b, .int .i64 5] H k = k (.bool true) H := enterK_eq (q_fails_long a b H h)
theorem q_fails_order (a b : ByteArray) (H : AHeap) (h1 : ¬ 24 < ((bl a).length : Int)) (h2 : ¬ 24 < ((bl b).length : Int)) (h3 : ¬ bl b = []) (h4 : cmpS b a ≤ 0) : CC F.law_fails [.string a, .string b, .int .i64 13] H = some (.bool true, H) := by
  apply pure_of _ (d_law_fails _ _ _ H) rfl
  rotate_left 2
  · simp (disch := first | with_reducible rfl | assumption | omega | rfl | (simp only [go_sem]; first | done | omega)) only [go_sem, ↓reduceIte, reduceCtorEq, Nat.reduceEqDiff, Nat.reduceAdd, Nat.reduceSub, Nat.reduceMul, Nat.reduceDiv, Nat.reduceMod, Nat.reduceLeDiff, Nat.reduceLT, Nat.reduceBEq, Int.reduceEq, Int.reduceBEq, Int.reduceBNe, Int.reduceLT, Int.reduceLE, Int.reduceAdd, Int.reduceSub, Int.reduceNeg, Int.reduceToNat, Int.reducePow, Nat.reducePow, Int.reduceMul, Int.reduceDiv, ↓s_law_fails, enterK_eq (q_New_order a b H h1 h2 h3 h4)]
    rfl
  · (repeat (first | exact Fr.refl _ | refine Fr.push ?_ _ | refine Fr.set ?_ _ _ (by intro h; first | omega | (simp only [go_sem] at h; omega))))
@[go_sem, go_sem ↓] theorem e_fails_order (a b : ByteArray) (H : AHeap) (h1 : ¬ 24 < ((bl a).length : Int)) (h2 : ¬ 24 < ((bl b).length : Int)) (h3 : ¬ bl b = []) (h4 : cmpS b a ≤ 0) {k : Value → AHeap → Res} : enterK CC F.law_fails [.string a, .string b, .int .i64 13] H k = k (.bool true) H := enterK_eq (q_fails_order a b H h1 h2 h3 h4)

theorem q_alike0 (a b : ByteArray) : CC F.law_alike [.pointer (some ⟨H0.n, 0, none⟩), .pointer (some ⟨(newH a b H0).n, 0, none⟩), .pointer (some ⟨(newH a b H0).n + 1, 0, none⟩)]
    (((newH a b H0).push (.cells [.string a, .string b, .string (mk []), .int .i64 (-1)] T.law_Model true)).push (.cells [.slice none 0 0] T.model_Model true)) = some (.bool true,
    ((newH a b H0).push (.cells [.string a, .string b, .string (mk []), .int .i64 (-1)] T.law_Model true)).push (.cells [.slice none 0 0] T.model_Model true)) :=
  D_ofv (n := 40) (by kernel_rfl) (by kernel_rfl)

theorem q_CursorNew (a b : ByteArray) : ∃ H', CC F.law_CursorNew [.string a, .string b] H0 = some (.bool true, H') := by
  by_cases h1 : 30 < ((bl a).length : Int)
  · refine any_of (H1 := ?_) (d_law_CursorNew _ _ H0 ?_)
    rotate_left 1
    · simp (disch := first | with_reducible rfl | assumption | omega | rfl | (simp only [go_sem]; first | done | omega)) only [go_sem, ↓reduceIte, reduceCtorEq, Nat.reduceEqDiff, Nat.reduceAdd, Nat.reduceSub, Nat.reduceMul, Nat.reduceDiv, Nat.reduceMod, Nat.reduceLeDiff, Nat.reduceLT, Nat.reduceBEq, Int.reduceEq, Int.reduceBEq, Int.reduceBNe, Int.reduceLT, Int.reduceLE, Int.reduceAdd, Int.reduceSub, Int.reduceNeg, Int.reduceToNat, Int.reducePow, Nat.reducePow, Int.reduceMul, Int.reduceDiv, ↓s_law_CursorNew, decide_eq_true h1]
      rfl
  · by_cases h2 : 30 < ((bl b).length : Int)
    · refine any_of (H1 := ?_) (d_law_CursorNew _ _ H0 ?_)
      rotate_left 1
      · simp (disch := first | with_reducible rfl | assumption | omega | rfl | (simp only [go_sem]; first | done | omega)) only [go_sem, ↓reduceIte, reduceCtorEq, Nat.reduceEqDiff, Nat.reduceAdd, Nat.reduceSub, Nat.reduceMul, Nat.reduceDiv, Nat.reduceMod, Nat.reduceLeDiff, Nat.reduceLT, Nat.reduceBEq, Int.reduceEq, Int.reduceBEq, Int.reduceBNe, Int.reduceLT, Int.reduceLE, Int.reduceAdd, Int.reduceSub, Int.reduceNeg, Int.reduceToNat, Int.reducePow, Nat.reducePow, Int.reduceMul, Int.reduceDiv, ↓s_law_CursorNew, decide_eq_false h1, decide_eq_true h2]
        rfl
    · by_cases h3 : 24 < ((bl a).length : Int)
      · refine any_of (H1 := ?_) (d_law_CursorNew _ _ H0 ?_)
        rotate_left 1
        · simp (disch := first | with_reducible rfl | assumption | omega | rfl | (simp only [go_sem]; first | done | omega)) only [go_sem, ↓reduceIte, reduceCtorEq, Nat.reduceEqDiff, Nat.reduceAdd, Nat.reduceSub, Nat.reduceMul, Nat.reduceDiv, Nat.reduceMod, Nat.reduceLeDiff, Nat.reduceLT, Nat.reduceBEq, Int.reduceEq, Int.reduceBEq, Int.reduceBNe, Int.reduceLT, Int.reduceLE, Int.reduceAdd, Int.reduceSub, Int.reduceNeg, Int.reduceToNat, Int.reducePow, Nat.reducePow, Int.reduceMul, Int.reduceDiv, ↓s_law_CursorNew, decide_eq_false h1, decide_eq_false h2, decide_eq_true h3, enterK_eq (q_fails_long a b H0 (.inl h3))]
          rfl
      · by_cases h4 : 24 < ((bl b).length : Int)
        · refine any_of (H1 := ?_) (d_law_CursorNew _ _ H0 ?_)
          rotate_left 1
          · simp (disch := first | with_reducible rfl | assumption | omega | rfl | (simp only [go_sem]; first | done | omega)) only [go_sem, ↓reduceIte, reduceCtorEq, Nat.reduceEqDiff, Nat.reduceAdd, Nat.reduceSub, Nat.reduceMul, Nat.reduceDiv, Nat.reduceMod, Nat.reduceLeDiff, Nat.reduceLT, Nat.reduceBEq, Int.reduceEq, Int.reduceBEq, Int.reduceBNe, Int.reduceLT, Int.reduceLE, Int.reduceAdd, Int.reduceSub, Int.reduceNeg, Int.reduceToNat, Int.reducePow, Nat.reducePow, Int.reduceMul, Int.reduceDiv, ↓s_law_CursorNew, decide_eq_false h1, decide_eq_false h2, decide_eq_false h3, decide_eq_true h4, enterK_eq (q_fails_long a b H0 (.inr h4))]
            rfl
        · by_cases h5 : bl b = []
          · refine any_of (H1 := ?_) (d_law_CursorNew _ _ H0 ?_)
            rotate_left 1
            · simp (disch := first | with_reducible rfl | assumption | omega | rfl | (simp only [go_sem]; first | done | omega)) only [go_sem, ↓reduceIte, reduceCtorEq, Nat.reduceEqDiff, Nat.reduceAdd, Nat.reduceSub, Nat.reduceMul, Nat.reduceDiv, Nat.reduceMod, Nat.reduceLeDiff, Nat.reduceLT, Nat.reduceBEq, Int.reduceEq, Int.reduceBEq, Int.reduceBNe, Int.reduceLT, Int.reduceLE, Int.reduceAdd, Int.reduceSub, Int.reduceNeg, Int.reduceToNat, Int.reducePow, Nat.reducePow, Int.reduceMul, Int.reduceDiv, ↓s_law_CursorNew, decide_eq_false h1, decide_eq_false h2, decide_eq_false h3, decide_eq_false h4, bl_mk, decide_eq_true h5, enterK_eq (q_New a b H0 h3 h4 (.inl h5)), enterK_eq (q_alike0 a b)]
              rfl
          · by_cases h6 : cmpS b a ≤ 0
            · refine any_of (H1 := ?_) (d_law_CursorNew _ _ H0 ?_)
              rotate_left 1
              · simp (disch := first | with_reducible rfl | assumption | omega | rfl | (simp only [go_sem]; first | done | omega)) only [go_sem, ↓reduceIte, reduceCtorEq, Nat.reduceEqDiff, Nat.reduceAdd, Nat.reduceSub, Nat.reduceMul, Nat.reduceDiv, Nat.reduceMod, Nat.reduceLeDiff, Nat.reduceLT, Nat.reduceBEq, Int.reduceEq, Int.reduceBEq, Int.reduceBNe, Int.reduceLT, Int.reduceLE, Int.reduceAdd, Int.reduceSub, Int.reduceNeg, Int.reduceToNat, Int.reducePow, Nat.reducePow, Int.reduceMul, Int.reduceDiv, ↓s_law_CursorNew, decide_eq_false h1, decide_eq_false h2, decide_eq_false h3, decide_eq_false h4, bl_mk, decide_eq_false h5, leq_cmpS, decide_eq_true h6, enterK_eq (q_fails_order a b H0 h3 h4 h5 h6)]
                rfl
            · refine any_of (H1 := ?_) (d_law_CursorNew _ _ H0 ?_)
              rotate_left 1
              · simp (disch := first | with_reducible rfl | assumption | omega | rfl | (simp only [go_sem]; first | done | omega)) only [go_sem, ↓reduceIte, reduceCtorEq, Nat.reduceEqDiff, Nat.reduceAdd, Nat.reduceSub, Nat.reduceMul, Nat.reduceDiv, Nat.reduceMod, Nat.reduceLeDiff, Nat.reduceLT, Nat.reduceBEq, Int.reduceEq, Int.reduceBEq, Int.reduceBNe, Int.reduceLT, Int.reduceLE, Int.reduceAdd, Int.reduceSub, Int.reduceNeg, Int.reduceToNat, Int.reducePow, Nat.reducePow, Int.reduceMul, Int.reduceDiv, ↓s_law_CursorNew, decide_eq_false h1, decide_eq_false h2, decide_eq_false h3, decide_eq_false h4, bl_mk, decide_eq_false h5, leq_cmpS, decide_eq_false h6, enterK_eq (q_New a b H0 h3 h4 (.inr h6)), enterK_eq (q_alike0 a b)]
                rfl

theorem run_CursorNew (a b : ByteArray) (_ : (bl a).length ≤ 140737488351232) (_ : (bl b).length ≤ 140737488351232) : ∃ k H', dCall Try.prog prims1 hints k F.law_CursorNew [.string a, .string b] H0 = some (.bool true, H') := by
  obtain ⟨H', h⟩ := q_CursorNew a b
  obtain ⟨k, h⟩ := D_run h
  exact ⟨k, _, h⟩
end Go.Proofs.Ytmbppjilnnjdaaa

/-
  The engine, part 27: a law's arguments that are slices: what they read as in the abstract heap.
  Conditions: none. By an AI agent.
-/
namespace Go.Proofs.Ytmbppjilnnjdaaa.Eng
open Go
set_option linter.unusedVariables false
set_option linter.unusedSimpArgs false

variable {P : Program} {W : World}

theorem cell_abs {a : Addr} {v : Value} (h : W.cell? a = some v) : ∃ cs e fr, W.heap[a.block]? = some (.cells cs e fr) ∧ cs[a.off]? = some v ∧ a.spot = none := by
  unfold World.cell? at h
  split at h
  · rename_i c e fr hw
    split at h
    · cases h
    · rename_i hs
      exact ⟨c, e, fr, hw, h, by simpa using hs⟩
  · cases h

/-- A cell that names no memory. -/
def plain : Value → Bool
  | .int _ _ | .string _ | .bool _ => true
  | _ => false

theorem conv_plain {n : Nat} {v : Value} (h : plain v = true) : conv n v = v := by
  cases v <;> first | rfl | (simp [plain] at h)

theorem absHeap_cell {a : Addr} {v : Value} (h : W.cell? a = some v) (hp : plain v = true) : a.block < W.heap.size ∧ a.spot = none ∧ cellB ((absHeap W).f a.block) a.off = some v := by
  obtain ⟨cs, e, fr, h1, h2, h3⟩ := cell_abs h
  refine ⟨by rw [Array.getElem?_eq_some_iff] at h1; exact h1.1, h3, ?_⟩
  simp only [absHeap, h1, cellB]
  rw [List.getElem?_map, Array.getElem?_toList, h2]
  simp [conv_plain hp]

theorem cutB_of_cells {k : Blk} {o n : Nat} {xs : List Value} (hl : xs.length = n) (hn : 0 < n) (h : ∀ i, i < n → cellB k (o + i) = xs[i]?) : cutB k o n = some xs := by
  cases k with
  | cells ys e rw =>
    unfold cutB
    simp only
    have hlen : o + n ≤ ys.length := by
      have := h (n - 1) (by omega)
      rw [List.getElem?_eq_getElem (by omega)] at this
      unfold cellB at this
      have := (List.getElem?_eq_some_iff.1 this).1
      omega
    rw [if_pos hlen]
    congr 1
    apply List.ext_getElem?
    intro i
    by_cases hi : i < n
    · rw [List.getElem?_take_of_lt hi, List.getElem?_drop, ← h i hi]
      rfl
    · rw [List.getElem?_eq_none (by simp; omega), List.getElem?_eq_none (by omega)]
  | _ =>
    have := h 0 hn
    rw [List.getElem?_eq_getElem (by omega)] at this
    cases this

section
variable {α : Type} {E : Enc α} {R : α → Prop} {H : Type} {enc : TypeId × Value → H}

/-- A slice of elements of plain cells reads as a list. -/
theorem open_rd {t e : TypeId} {v : Value} {d : DataW H} {p : List MemPlace} (ht : P.underlying t = some (.slice e)) (hC : P.cellsOf e = E.w)
    (dec : ∀ cs n y, DataW.trod enc P W 0 (fun _ => true) true n e cs = some y → cs.length = E.w → ∃ a, cs = E.enc a ∧ R a ∧ cs.all plain = true)
    (hval : Value.okWide P W .any 0 t v) (h : DataW.Trod enc P W 0 (fun _ => true) true t v d p) :
    ∃ l : List α, Rd E (absHeap W) (convA W.heap.size v) l ∧ (∀ a, a ∈ l → R a) ∧ l.length ≤ maxLen := by
  obtain ⟨a0, len0, cap0, rfl⟩ := Go.WideShapes.okWide_slice ht hval
  obtain ⟨fuel, hf⟩ := h
  rcases DataW.trod_slice ht hf with ⟨h0, _⟩ | ⟨a, len, cap, elems, rest, n, _, hcs, _, _, hl, hm, hlen, hel, _, _⟩
  · simp [Value.cells] at h0
    obtain ⟨rfl, rfl, rfl⟩ := h0
    exact ⟨[], .inl ⟨rfl, rfl⟩, by simp, by simp⟩
  · simp [Value.cells] at hcs
    obtain ⟨rfl, rfl, rfl⟩ := hcs
    -- the elements
    have hone : ∀ i, i < len0 → ∃ x : α, R x ∧ ∀ j, j < E.w → ∃ c, W.cell? ((a.add (i * E.w)).add j) = some c ∧ (E.enc x)[j]? = some c ∧ plain c = true := by
      intro i hi
      have h1 := hel i hi
      rw [List.getElem?_eq_getElem (by omega)] at h1
      obtain ⟨cs, hc, htr⟩ := Option.bind_eq_some_iff.1 h1
      rw [hC] at hc
      obtain ⟨_, hcl, hat⟩ := World.cells?_some hc
      obtain ⟨x, hx, hR, hpl⟩ := dec cs _ _ htr hcl
      refine ⟨x, hR, fun j hj => ?_⟩
      have hj' : j < cs.length := by omega
      refine ⟨cs[j], by rw [hat j hj, List.getElem?_eq_getElem hj'], by rw [← hx, List.getElem?_eq_getElem hj'], List.all_eq_true.1 hpl _ (List.getElem_mem _)⟩
    have hall : ∀ m, m ≤ len0 → ∃ l : List α, l.length = m ∧ (∀ x, x ∈ l → R x) ∧ ∀ i, ∀ h : i < l.length, ∀ j, j < E.w → ∃ c, W.cell? ((a.add (i * E.w)).add j) = some c ∧ (E.enc l[i])[j]? = some c ∧ plain c = true := by
      intro m
      induction m with
      | zero => intro _; exact ⟨[], rfl, by simp, by simp⟩
      | succ m ih =>
        intro hm
        obtain ⟨l, h1, h2, h3⟩ := ih (by omega)
        obtain ⟨x, hR, hx⟩ := hone m (by omega)
        refine ⟨l ++ [x], by simp [h1], fun y hy => ?_, fun i hi j hj => ?_⟩
        · rcases List.mem_append.1 hy with hy | hy
          · exact h2 y hy
          · simp at hy; subst hy; exact hR
        · by_cases hil : i < l.length
          · rw [List.getElem_append_left hil]; exact h3 i hil j hj
          · have : i = m := by simp at hi; omega
            subst this
            rw [List.getElem_append_right (by omega)]
            simp only [h1, Nat.sub_self, List.getElem_cons_zero]
            exact hx j hj
    obtain ⟨l, hll, hR, hcell⟩ := hall len0 (Nat.le_refl _)
    refine ⟨l, ?_, hR, by omega⟩
    by_cases h0 : l = []
    · subst h0
      simp at hll
      subst hll
      -- no element: the place is one all the same
      simp only [Value.okWide, ht, Cell.okWide, Cell.ok] at hval
      obtain ⟨hle, _, _, hs, row, cells, hshape, _⟩ := hval
      have hb : a.block < W.heap.size := by
        unfold World.shape? at hshape
        split at hshape
        · rename_i hw; exact (Array.getElem?_eq_some_iff.1 hw).1
        · cases hshape
      obtain ⟨b, o, s⟩ := a
      simp only at hs hb
      subst hs
      refine .inr (.inl ⟨rfl, ⟨b, o, none⟩, 2 * cap0, ?_, rfl⟩)
      simp only [convA, conv]
      rw [if_pos ⟨hb, hle⟩]
    · have hpos : 0 < l.length := List.length_pos_iff.2 h0
      obtain ⟨c0, hc0, _, hp0⟩ := hcell 0 hpos 0 E.pos
      simp only [Nat.zero_mul] at hc0
      have hadd0 : (a.add 0).add 0 = a := by simp [Addr.add]
      rw [hadd0] at hc0
      obtain ⟨hb, hs, _⟩ := absHeap_cell hc0 hp0
      obtain ⟨b, o, s⟩ := a
      simp only at hs hb
      subst hs
      have hconv : convA W.heap.size (.slice (some ⟨b, o, none⟩) len0 cap0) = .slice (some ⟨b, o, none⟩) l.length (2 * cap0) := by
        rw [hll]
        simp only [convA, conv]
        rw [if_pos ⟨hb, hl⟩]
      rw [hconv]
      refine .inr (.inr ⟨b, o, _, rfl, h0, hb, ?_⟩)
      refine cutB_of_cells (by simp) (Nat.mul_pos hpos E.pos) fun i hi => ?_
      have hw := E.pos
      have hdm : i = (i / E.w) * E.w + i % E.w := by rw [Nat.mul_comm]; exact (Nat.div_add_mod i E.w).symm
      have hmod : i % E.w < E.w := Nat.mod_lt _ hw
      have hdiv : i / E.w < l.length := Nat.div_lt_of_lt_mul (by rw [Nat.mul_comm]; exact hi)
      obtain ⟨c, hc, hec, hpc⟩ := hcell (i / E.w) hdiv (i % E.w) hmod
      have haddr : ((⟨b, o, none⟩ : Addr).add (i / E.w * E.w)).add (i % E.w) = ⟨b, o + i, none⟩ := by
        have : ∀ (x y z : Nat), ((⟨x, y, none⟩ : Addr).add z) = ⟨x, y + z, none⟩ := by
          intro x y z
          unfold Addr.add
          split
          · rename_i h; subst h; rfl
          · rfl
        rw [this, this, Nat.add_assoc, ← hdm]
      rw [haddr] at hc
      obtain ⟨_, _, habs⟩ := absHeap_cell hc hpc
      rw [habs]
      have hel2 := E.cells_elem l (i / E.w) hdiv
      have : (E.cells l)[i]? = (E.enc l[i / E.w])[i % E.w]? := by
        rw [← hel2, List.getElem?_take_of_lt hmod, List.getElem?_drop, ← hdm]
      rw [this, hec]
end

/-! ### What cells of a kind are -/
theorem dec_int {H : Type} {enc : TypeId × Value → H} {e : TypeId} {k : IntKind} (he : P.underlying e = some (.int k)) {n : Nat} {y : DataW H × List MemPlace} {c : Value} (h : DataW.trod enc P W 0 (fun _ => true) true n e [c] = some y) :
    ∃ i, c = .int k i ∧ (Lit.int k i).wf = true := by
  obtain ⟨i, h1, _, h2⟩ := DataW.trod_int he h
  exact ⟨i, (List.cons.inj h1).1, h2⟩
theorem dec_str {H : Type} {enc : TypeId × Value → H} {e : TypeId} (he : P.underlying e = some .string) {n : Nat} {y : DataW H × List MemPlace} {c : Value} (h : DataW.trod enc P W 0 (fun _ => true) true n e [c] = some y) :
    ∃ s, c = .string s ∧ s.size ≤ maxLen := by
  obtain ⟨i, h1, _, h2⟩ := DataW.trod_string he h
  exact ⟨i, (List.cons.inj h1).1, h2⟩

theorem wf_i64 {i : Int} (h : (Lit.int .i64 i).wf = true) : -9223372036854775808 ≤ i ∧ i < 9223372036854775808 := by
  simp [Lit.wf, IntKind.min, IntKind.max, IntKind.signed, IntKind.bits] at h
  omega

/-- A field of a struct of one-cell fields. -/
theorem dec_field {H : Type} {enc : TypeId × Value → H} {t : TypeId} {fs : Array Field} (ht : P.underlying t = some (.struct fs)) {n : Nat} {cs : List Value} {y : DataW H × List MemPlace} (h : DataW.trod enc P W 0 (fun _ => true) true n t cs = some y)
    {i : Nat} {f : Field} (hf : fs[i]? = some f) (ho : f.offset = i) (hc : P.cellsOf f.type = 1) {c : Value} (hci : cs[i]? = some c) :
    ∃ m z, DataW.trod enc P W 0 (fun _ => true) true m f.type [c] = some z := by
  obtain ⟨xs, m, _, _, hl, hxl, hfd⟩ := DataW.trod_struct ht h
  have h1 := hfd i f hf
  have hi : i < cs.length := (List.getElem?_eq_some_iff.1 hci).1
  have hone : (cs.drop f.offset).take (P.cellsOf f.type) = [c] := by
    rw [ho, hc, List.drop_eq_getElem_cons hi]
    have := (List.getElem?_eq_some_iff.1 hci).2
    simp [this]
  rw [hone] at h1
  have hix : i < xs.length := by rw [hxl]; exact (Array.getElem?_eq_some_iff.1 hf).1
  rw [List.getElem?_eq_getElem hix] at h1
  exact ⟨_, _, h1⟩

end Go.Proofs.Ytmbppjilnnjdaaa.Eng

/-
  Pairs as elements of an argument.
  Conditions: none. By an AI agent.
-/
set_option maxRecDepth 10000
set_option linter.unusedSimpArgs false
set_option linter.unusedVariables false
namespace Go.Proofs.Ytmbppjilnnjdaaa
open Go Eng

theorem absHeap_ok (W : World) : ∀ b, (absHeap W).ver b < (absHeap W).clk := fun _ => Nat.zero_lt_one

theorem decPr {W : World} {H : Type} {enc : TypeId × Value → H} {cs : List Value} {n : Nat} {y : DataW H × List MemPlace} (h : DataW.trod enc Try.prog W 0 (fun _ => true) true n T.api_Pair cs = some y) (hl : cs.length = EPr.w) :
    ∃ a : Pr, cs = EPr.enc a ∧ True ∧ cs.all plain = true := by
  have ht := Try.underlying54
  obtain ⟨c0, c1, rfl⟩ : ∃ c0 c1, cs = [c0, c1] := by
    match cs, hl with
    | [c0, c1], _ => exact ⟨_, _, rfl⟩
  obtain ⟨m0, z0, h0⟩ := dec_field ht h (i := 0) rfl rfl (by kernel_rfl) rfl
  obtain ⟨m1, z1, h1⟩ := dec_field ht h (i := 1) rfl rfl (by kernel_rfl) rfl
  obtain ⟨s0, rfl, _⟩ := dec_str Try.underlying9 h0
  obtain ⟨s1, rfl, _⟩ := dec_str Try.underlying9 h1
  exact ⟨⟨s0, s1⟩, rfl, trivial, rfl⟩

end Go.Proofs.Ytmbppjilnnjdaaa

/-
  Chapter 42: the law CursorPlays runs to true.
  Conditions: none. By an AI agent.
-/
set_option maxRecDepth 10000
set_option linter.unusedSimpArgs false
set_option linter.unusedVariables false
namespace Go.Proofs.Ytmbppjilnnjdaaa
open Go Eng

/-- A call. -/
structure Act where
  what : Int
  key : ByteArray
  value : ByteArray
def EAct : Enc Act := ⟨3, fun a => [.int .i64 a.what, .string a.key, .string a.value], fun _ => rfl, by decide, fun _ => rfl⟩

/-! ### small -/
theorem l_small (l : List Act) (v : Value) (n : Nat) (H : AHeap) (hr : Rd EAct H v l) (hn : n ≤ 1000) : ∀ (x : List Act) (i : Nat), l.drop i = x →
    (∀ K : K, l_law_small_0 v (.int .i64 (n : Int)) (.int .i64 (i : Int)) H (blkK [0, 1] 0 K) = K .normal [(0, v), (1, .int .i64 (n : Int))] H) ∨ (∀ K : K, l_law_small_0 v (.int .i64 (n : Int)) (.int .i64 (i : Int)) H (blkK [0, 1] 0 K) = K .ret [(4, .bool false)] H)
  | [], i, hx => by
    have h : l.length ≤ i := List.drop_eq_nil_iff.1 hx
    have hlt : ¬ (i : Int) < (l.length : Int) := by omega
    have hlen := hr.lenS
    refine .inl fun K => ?_
    rw [r_law_small_0]
    simp (disch := first | with_reducible rfl | assumption | omega | rfl | (simp only [go_sem]; first | done | omega)) only [go_sem, ↓reduceIte, reduceCtorEq, Nat.reduceEqDiff, Nat.reduceAdd, Nat.reduceSub, Nat.reduceMul, Nat.reduceDiv, Nat.reduceMod, Nat.reduceLeDiff, Nat.reduceLT, Nat.reduceBEq, Int.reduceEq, Int.reduceBEq, Int.reduceBNe, Int.reduceLT, Int.reduceLE, Int.reduceAdd, Int.reduceSub, Int.reduceNeg, Int.reduceToNat, Int.reducePow, Nat.reducePow, Int.reduceMul, Int.reduceDiv, ↓s_law_small_b0, hlen, hlt]
  | a :: x, i, hx => by
    obtain ⟨h, hxa, hx'⟩ := drop_cons hx
    have hlt : (i : Int) < (l.length : Int) := by omega
    have hlen := hr.lenS
    obtain ⟨b1, o1, hix, hb1, hc1, _⟩ := hr.ix (q := .i64) h
    rw [hxa] at hc1
    have hix : ixS 3 v (.int .i64 i) = some (.pointer (some ⟨b1, o1, none⟩)) := hix
    have hc2 : cellB (H.f b1) (o1 + 1) = some (.string a.key) := cutB_cell hc1 (i := 1) (by decide)
    have hc3 : cellB (H.f b1) (o1 + 2) = some (.string a.value) := cutB_cell hc1 (i := 2) (by decide)
    by_cases hi : (i : Int) < (n : Int)
    · by_cases h1 : 30 < ((bl a.key).length : Int)
      · refine .inr fun K => ?_
        rw [r_law_small_0]
        simp (disch := first | with_reducible rfl | assumption | omega | rfl | (simp only [go_sem]; first | done | omega)) only [go_sem, ↓reduceIte, reduceCtorEq, Nat.reduceEqDiff, Nat.reduceAdd, Nat.reduceSub, Nat.reduceMul, Nat.reduceDiv, Nat.reduceMod, Nat.reduceLeDiff, Nat.reduceLT, Nat.reduceBEq, Int.reduceEq, Int.reduceBEq, Int.reduceBNe, Int.reduceLT, Int.reduceLE, Int.reduceAdd, Int.reduceSub, Int.reduceNeg, Int.reduceToNat, Int.reducePow, Nat.reducePow, Int.reduceMul, Int.reduceDiv, ↓s_law_small_b0, hlen, hlt, hi, hix, hc2, decide_eq_true h1]
      · by_cases h2 : 44 < ((bl a.value).length : Int)
        · refine .inr fun K => ?_
          rw [r_law_small_0]
          simp (disch := first | with_reducible rfl | assumption | omega | rfl | (simp only [go_sem]; first | done | omega)) only [go_sem, ↓reduceIte, reduceCtorEq, Nat.reduceEqDiff, Nat.reduceAdd, Nat.reduceSub, Nat.reduceMul, Nat.reduceDiv, Nat.reduceMod, Nat.reduceLeDiff, Nat.reduceLT, Nat.reduceBEq, Int.reduceEq, Int.reduceBEq, Int.reduceBNe, Int.reduceLT, Int.reduceLE, Int.reduceAdd, Int.reduceSub, Int.reduceNeg, Int.reduceToNat, Int.reducePow, Nat.reducePow, Int.reduceMul, Int.reduceDiv, ↓s_law_small_b0, hlen, hlt, hi, hix, hc2, hc3, decide_eq_false h1, decide_eq_true h2]
        · have step : ∀ K : K, l_law_small_0 v (.int .i64 (n : Int)) (.int .i64 (i : Int)) H (blkK [0, 1] 0 K) = l_law_small_0 v (.int .i64 (n : Int)) (.int .i64 ((i + 1 : Nat) : Int)) H (blkK [0, 1] 0 K) := fun K => by
            rw [r_law_small_0, Int.natCast_add]
            simp (disch := first | with_reducible rfl | assumption | omega | rfl | (simp only [go_sem]; first | done | omega)) only [go_sem, ↓reduceIte, reduceCtorEq, Nat.reduceEqDiff, Nat.reduceAdd, Nat.reduceSub, Nat.reduceMul, Nat.reduceDiv, Nat.reduceMod, Nat.reduceLeDiff, Nat.reduceLT, Nat.reduceBEq, Int.reduceEq, Int.reduceBEq, Int.reduceBNe, Int.reduceLT, Int.reduceLE, Int.reduceAdd, Int.reduceSub, Int.reduceNeg, Int.reduceToNat, Int.reducePow, Nat.reducePow, Int.reduceMul, Int.reduceDiv, ↓s_law_small_b0, hlen, hlt, hi, hix, hc2, hc3, decide_eq_false h1, decide_eq_false h2]
          rcases l_small l v n H hr hn x (i + 1) hx' with ih | ih
          · exact .inl fun K => (step K).trans (ih K)
          · exact .inr fun K => (step K).trans (ih K)
    · refine .inl fun K => ?_
      rw [r_law_small_0]
      simp (disch := first | with_reducible rfl | assumption | omega | rfl | (simp only [go_sem]; first | done | omega)) only [go_sem, ↓reduceIte, reduceCtorEq, Nat.reduceEqDiff, Nat.reduceAdd, Nat.reduceSub, Nat.reduceMul, Nat.reduceDiv, Nat.reduceMod, Nat.reduceLeDiff, Nat.reduceLT, Nat.reduceBEq, Int.reduceEq, Int.reduceBEq, Int.reduceBNe, Int.reduceLT, Int.reduceLE, Int.reduceAdd, Int.reduceSub, Int.reduceNeg, Int.reduceToNat, Int.reducePow, Nat.reducePow, Int.reduceMul, Int.reduceDiv, ↓s_law_small_b0, hlen, hlt, hi]

theorem q_small (l : List Act) (v : Value) (n : Nat) (H : AHeap) (hr : Rd EAct H v l) (hn : n ≤ 1000) :
    ∃ b : Bool, CC F.law_small [v, .int .i64 (n : Int)] H = some (.bool b, H) ∧ (b = true → l.length ≤ n) := by
  have hlen := hr.lenS
  rcases l_small l v n H hr hn l 0 rfl with hloop | hloop
  · refine ⟨decide ((l.length : Int) ≤ n), ?_, fun h => by have := of_decide_eq_true h; omega⟩
    refine pure_of (H' := H) ?_ (d_law_small _ _ H) rfl (Fr.refl H)
    simp (disch := first | with_reducible rfl | assumption | omega | rfl | (simp only [go_sem]; first | done | omega)) only [go_sem, ↓reduceIte, reduceCtorEq, Nat.reduceEqDiff, Nat.reduceAdd, Nat.reduceSub, Nat.reduceMul, Nat.reduceDiv, Nat.reduceMod, Nat.reduceLeDiff, Nat.reduceLT, Nat.reduceBEq, Int.reduceEq, Int.reduceBEq, Int.reduceBNe, Int.reduceLT, Int.reduceLE, Int.reduceAdd, Int.reduceSub, Int.reduceNeg, Int.reduceToNat, Int.reducePow, Nat.reducePow, Int.reduceMul, Int.reduceDiv, ↓s_law_small]
    refine (hloop _).trans ?_
    simp (disch := first | with_reducible rfl | assumption | omega | rfl | (simp only [go_sem]; first | done | omega)) only [go_sem, ↓reduceIte, reduceCtorEq, Nat.reduceEqDiff, Nat.reduceAdd, Nat.reduceSub, Nat.reduceMul, Nat.reduceDiv, Nat.reduceMod, Nat.reduceLeDiff, Nat.reduceLT, Nat.reduceBEq, Int.reduceEq, Int.reduceBEq, Int.reduceBNe, Int.reduceLT, Int.reduceLE, Int.reduceAdd, Int.reduceSub, Int.reduceNeg, Int.reduceToNat, Int.reducePow, Nat.reducePow, Int.reduceMul, Int.reduceDiv, hlen]
  · refine ⟨false, ?_, fun h => by cases h⟩
    refine pure_of (H' := H) ?_ (d_law_small _ _ H) rfl (Fr.refl H)
    simp (disch := first | with_reducible rfl | assumption | omega | rfl | (simp only [go_sem]; first | done | omega)) only [go_sem, ↓reduceIte, reduceCtorEq, Nat.reduceEqDiff, Nat.reduceAdd, Nat.reduceSub, Nat.reduceMul, Nat.reduceDiv, Nat.reduceMod, Nat.reduceLeDiff, Nat.reduceLT, Nat.reduceBEq, Int.reduceEq, Int.reduceBEq, Int.reduceBNe, Int.reduceLT, Int.reduceLE, Int.reduceAdd, Int.reduceSub, Int.reduceNeg, Int.reduceToNat, Int.reducePow, Nat.reducePow, Int.reduceMul, Int.reduceDiv, ↓s_law_small]
    exact hloop _

/-! ### The loop -/
theorem samew (w : Pr × Int × Int × ByteArray) (u : Pr × Int × ByteArray × Int) (h : SameW w u) : w.1.key = u.1.key ∧ w.1.value = u.1.value ∧ w.2.1 = u.2.1 ∧ w.2.2.2 = u.2.2.1 ∧ SameS w.2.2.1 u.2.2.2 := ⟨by rw [h.1], by rw [h.1], h.2.1, h.2.2.1, h.2.2.2⟩
theorem SameS.ne {side msd : Int} (h : SameS side msd) : side ≠ 0 := by rcases h with ⟨h, _⟩ | ⟨h, _⟩ | ⟨h, _⟩ <;> omega

theorem s_CPlays_0 (l : List Act) (v : Value) (bm bx bc : Nat) (sf st : ByteArray) (Hz H : AHeap) (hr0 : Rd EAct Hz v l) (hlb : l.length < 1152921504606846976) (i : Nat) (a : Act) (h : i < l.length) (hxa : l[i] = a) (c : List Pr) (side : Int) (key : ByteArray) (msd : Int) (t : Cy Hz H bm bc bx c sf st side key msd key) (ss : SameS side msd) (w0 : a.what = 0) :
    ∃ H' bc' c' side' key' msd', Cy Hz H' bm bc' bx c' sf st side' key' msd' key' ∧ SameS side' msd' ∧ ∀ K : K,
      l_law_CursorPlays_0 v (.pointer (some ⟨bc, 0, none⟩)) (.pointer (some ⟨bm, 0, none⟩)) (.pointer (some ⟨bx, 0, none⟩)) (.int .i64 ((i : Int))) H (blkK [] 0 K) = l_law_CursorPlays_0 v (.pointer (some ⟨bc', 0, none⟩)) (.pointer (some ⟨bm, 0, none⟩)) (.pointer (some ⟨bx, 0, none⟩)) (.int .i64 (((i + 1 : Nat) : Int))) H' (blkK [] 0 K) := by
  have hlt : (i : Int) < (l.length : Int) := by omega
  have hlen := hr0.lenS
  obtain ⟨b1, o1, hix, hb1, hc1, _⟩ := hr0.ix (q := .i64) h
  rw [hxa] at hc1
  have hix : ixS 3 v (.int .i64 i) = some (.pointer (some ⟨b1, o1, none⟩)) := hix
  have fb : H.f b1 = Hz.f b1 := t.base.f hb1 (fun h => h)
  have ha0 : cutB (H.f b1) o1 3 = some [.int .i64 a.what, .string a.key, .string a.value] := by rw [fb]; exact hc1
  generalize hHa : (H.push (.cells [.int .i64 0, .string (mk []), .string (mk [])] T.law_Act true)).set H.n (.cells [.int .i64 a.what, .string a.key, .string a.value] T.law_Act true) = Ha
  have sa : Still H Ha := by rw [← hHa]; exact Fr.set ((Fr.refl H).push _) _ _ (fun h => by omega)
  have na : Ha.n = H.n + 1 := by rw [← hHa]; rfl
  have fa : Ha.f H.n = .cells [.int .i64 a.what, .string a.key, .string a.value] T.law_Act true := by rw [← hHa]; exact set_f_eq
  have ta := t.still sa
  have hcH := t.c.2
  have hxH := t.x.2
  have hso := srt_filter t.srt (inR sf st)
  obtain ⟨u, H1, hu, hcall, x1, fr1⟩ := q_next bx bm c sf st key msd Ha ta.ok ta.x ta.m ta.len
  have t1 := ta.stepx x1 fr1
  have n1 : Ha.n ≤ H1.n := fr1.n
  have f1 : H1.f H.n = .cells [.int .i64 a.what, .string a.key, .string a.value] T.law_Act true := by rw [fr1.f (by omega) (by omega), fa]
  generalize hHp : (H1.push (.cells [.string (mk []), .string (mk [])] T.api_Pair true)).set H1.n (.cells [.string u.1.key, .string u.1.value] T.api_Pair true) = Hp
  have sp : Still H1 Hp := by rw [← hHp]; exact Fr.set ((Fr.refl H1).push _) _ _ (fun h => by omega)
  have fp : Hp.f H1.n = .cells [.string u.1.key, .string u.1.value] T.api_Pair true := by rw [← hHp]; exact set_f_eq
  have fpa : Hp.f H.n = .cells [.int .i64 a.what, .string a.key, .string a.value] T.law_Act true := by rw [sp.f (by omega) (fun h => h), f1]
  have tp := t1.still sp
  obtain ⟨w, H2, hw, hC, c2, fr2⟩ := q_Next bc bm c sf st key side Hp tp.ok tp.c ss.ne tp.m tp.srt tp.len
  obtain ⟨H3, hL, c3, fr3⟩ := q_lnext bc bm sf st key side w Hp H2 tp.ok tp.c hC c2 fr2
  have t3 := tp.stepc c3 fr3
  have hwu : SameW w u := by rw [hw, hu]; exact next_eq hso ss key
  obtain ⟨e1, e2, e3, e4, e5⟩ := samew w u hwu
  rw [e1, e2, e3] at hL
  rw [← e4] at t3
  have hal := q_alike bc bm bx c sf st _ _ _ H3 t3.c t3.x e5 t3.m t3.srt t3.len
  refine ⟨H3, bc, c, _, _, _, t3, e5, fun K => ?_⟩
  rw [r_law_CursorPlays_0, Int.natCast_add]
  simp (disch := first | with_reducible rfl | assumption | omega | rfl | (simp only [go_sem]; first | done | omega)) only [go_sem, ↓reduceIte, reduceCtorEq, Nat.reduceEqDiff, Nat.reduceAdd, Nat.reduceSub, Nat.reduceMul, Nat.reduceDiv, Nat.reduceMod, Nat.reduceLeDiff, Nat.reduceLT, Nat.reduceBEq, Int.reduceEq, Int.reduceBEq, Int.reduceBNe, Int.reduceLT, Int.reduceLE, Int.reduceAdd, Int.reduceSub, Int.reduceNeg, Int.reduceToNat, Int.reducePow, Nat.reducePow, Int.reduceMul, Int.reduceDiv, ↓s_law_CursorPlays_b0, hlen, hlt, hix, ha0, hHa, fa, decide_eq_true w0, enterK_eq hcall, hHp, fp, enterK_eq hL, enterK_eq hal]

theorem s_CPlays_1 (l : List Act) (v : Value) (bm bx bc : Nat) (sf st : ByteArray) (Hz H : AHeap) (hr0 : Rd EAct Hz v l) (hlb : l.length < 1152921504606846976) (i : Nat) (a : Act) (h : i < l.length) (hxa : l[i] = a) (c : List Pr) (side : Int) (key : ByteArray) (msd : Int) (t : Cy Hz H bm bc bx c sf st side key msd key) (ss : SameS side msd) (w0 : ¬ a.what = 0) (w1 : a.what = 1) :
    ∃ H' bc' c' side' key' msd', Cy Hz H' bm bc' bx c' sf st side' key' msd' key' ∧ SameS side' msd' ∧ ∀ K : K,
      l_law_CursorPlays_0 v (.pointer (some ⟨bc, 0, none⟩)) (.pointer (some ⟨bm, 0, none⟩)) (.pointer (some ⟨bx, 0, none⟩)) (.int .i64 ((i : Int))) H (blkK [] 0 K) = l_law_CursorPlays_0 v (.pointer (some ⟨bc', 0, none⟩)) (.pointer (some ⟨bm, 0, none⟩)) (.pointer (some ⟨bx, 0, none⟩)) (.int .i64 (((i + 1 : Nat) : Int))) H' (blkK [] 0 K) := by
  have hlt : (i : Int) < (l.length : Int) := by omega
  have hlen := hr0.lenS
  obtain ⟨b1, o1, hix, hb1, hc1, _⟩ := hr0.ix (q := .i64) h
  rw [hxa] at hc1
  have hix : ixS 3 v (.int .i64 i) = some (.pointer (some ⟨b1, o1, none⟩)) := hix
  have fb : H.f b1 = Hz.f b1 := t.base.f hb1 (fun h => h)
  have ha0 : cutB (H.f b1) o1 3 = some [.int .i64 a.what, .string a.key, .string a.value] := by rw [fb]; exact hc1
  generalize hHa : (H.push (.cells [.int .i64 0, .string (mk []), .string (mk [])] T.law_Act true)).set H.n (.cells [.int .i64 a.what, .string a.key, .string a.value] T.law_Act true) = Ha
  have sa : Still H Ha := by rw [← hHa]; exact Fr.set ((Fr.refl H).push _) _ _ (fun h => by omega)
  have na : Ha.n = H.n + 1 := by rw [← hHa]; rfl
  have fa : Ha.f H.n = .cells [.int .i64 a.what, .string a.key, .string a.value] T.law_Act true := by rw [← hHa]; exact set_f_eq
  have ta := t.still sa
  have hcH := t.c.2
  have hxH := t.x.2
  have hso := srt_filter t.srt (inR sf st)
  obtain ⟨u, H1, hu, hcall, x1, fr1⟩ := q_prev bx bm c sf st key msd Ha ta.ok ta.x ta.m ta.len
  have t1 := ta.stepx x1 fr1
  have n1 : Ha.n ≤ H1.n := fr1.n
  have f1 : H1.f H.n = .cells [.int .i64 a.what, .string a.key, .string a.value] T.law_Act true := by rw [fr1.f (by omega) (by omega), fa]
  generalize hHp : (H1.push (.cells [.string (mk []), .string (mk [])] T.api_Pair true)).set H1.n (.cells [.string u.1.key, .string u.1.value] T.api_Pair true) = Hp
  have sp : Still H1 Hp := by rw [← hHp]; exact Fr.set ((Fr.refl H1).push _) _ _ (fun h => by omega)
  have fp : Hp.f H1.n = .cells [.string u.1.key, .string u.1.value] T.api_Pair true := by rw [← hHp]; exact set_f_eq
  have fpa : Hp.f H.n = .cells [.int .i64 a.what, .string a.key, .string a.value] T.law_Act true := by rw [sp.f (by omega) (fun h => h), f1]
  have tp := t1.still sp
  obtain ⟨w, H2, hw, hC, c2, fr2⟩ := q_Prev bc bm c sf st key side Hp tp.ok tp.c ss.ne tp.m tp.srt tp.len
  obtain ⟨H3, hL, c3, fr3⟩ := q_lprev bc bm sf st key side w Hp H2 tp.ok tp.c hC c2 fr2
  have t3 := tp.stepc c3 fr3
  have hwu : SameW w u := by rw [hw, hu]; exact prev_eq hso ss key
  obtain ⟨e1, e2, e3, e4, e5⟩ := samew w u hwu
  rw [e1, e2, e3] at hL
  rw [← e4] at t3
  have hal := q_alike bc bm bx c sf st _ _ _ H3 t3.c t3.x e5 t3.m t3.srt t3.len
  refine ⟨H3, bc, c, _, _, _, t3, e5, fun K => ?_⟩
  rw [r_law_CursorPlays_0, Int.natCast_add]
  simp (disch := first | with_reducible rfl | assumption | omega | rfl | (simp only [go_sem]; first | done | omega)) only [go_sem, ↓reduceIte, reduceCtorEq, Nat.reduceEqDiff, Nat.reduceAdd, Nat.reduceSub, Nat.reduceMul, Nat.reduceDiv, Nat.reduceMod, Nat.reduceLeDiff, Nat.reduceLT, Nat.reduceBEq, Int.reduceEq, Int.reduceBEq, Int.reduceBNe, Int.reduceLT, Int.reduceLE, Int.reduceAdd, Int.reduceSub, Int.reduceNeg, Int.reduceToNat, Int.reducePow, Nat.reducePow, Int.reduceMul, Int.reduceDiv, ↓s_law_CursorPlays_b0, hlen, hlt, hix, ha0, hHa, fa, decide_eq_false w0, decide_eq_true w1, enterK_eq hcall, hHp, fp, enterK_eq hL, enterK_eq hal]

theorem s_CPlays_2 (l : List Act) (v : Value) (bm bx bc : Nat) (sf st : ByteArray) (Hz H : AHeap) (hr0 : Rd EAct Hz v l) (hlb : l.length < 1152921504606846976) (i : Nat) (a : Act) (h : i < l.length) (hxa : l[i] = a) (c : List Pr) (side : Int) (key : ByteArray) (msd : Int) (t : Cy Hz H bm bc bx c sf st side key msd key) (ss : SameS side msd) (w0 : ¬ a.what = 0) (w1 : ¬ a.what = 1) (w2 : a.what = 2) :
    ∃ H' bc' c' side' key' msd', Cy Hz H' bm bc' bx c' sf st side' key' msd' key' ∧ SameS side' msd' ∧ ∀ K : K,
      l_law_CursorPlays_0 v (.pointer (some ⟨bc, 0, none⟩)) (.pointer (some ⟨bm, 0, none⟩)) (.pointer (some ⟨bx, 0, none⟩)) (.int .i64 ((i : Int))) H (blkK [] 0 K) = l_law_CursorPlays_0 v (.pointer (some ⟨bc', 0, none⟩)) (.pointer (some ⟨bm, 0, none⟩)) (.pointer (some ⟨bx, 0, none⟩)) (.int .i64 (((i + 1 : Nat) : Int))) H' (blkK [] 0 K) := by
  have hlt : (i : Int) < (l.length : Int) := by omega
  have hlen := hr0.lenS
  obtain ⟨b1, o1, hix, hb1, hc1, _⟩ := hr0.ix (q := .i64) h
  rw [hxa] at hc1
  have hix : ixS 3 v (.int .i64 i) = some (.pointer (some ⟨b1, o1, none⟩)) := hix
  have fb : H.f b1 = Hz.f b1 := t.base.f hb1 (fun h => h)
  have ha0 : cutB (H.f b1) o1 3 = some [.int .i64 a.what, .string a.key, .string a.value] := by rw [fb]; exact hc1
  generalize hHa : (H.push (.cells [.int .i64 0, .string (mk []), .string (mk [])] T.law_Act true)).set H.n (.cells [.int .i64 a.what, .string a.key, .string a.value] T.law_Act true) = Ha
  have sa : Still H Ha := by rw [← hHa]; exact Fr.set ((Fr.refl H).push _) _ _ (fun h => by omega)
  have na : Ha.n = H.n + 1 := by rw [← hHa]; rfl
  have fa : Ha.f H.n = .cells [.int .i64 a.what, .string a.key, .string a.value] T.law_Act true := by rw [← hHa]; exact set_f_eq
  have ta := t.still sa
  have hcH := t.c.2
  have hxH := t.x.2
  have hso := srt_filter t.srt (inR sf st)
  obtain ⟨u, H1, hu, hcall, x1, fr1⟩ := q_mseekx bx bm c sf st a.key key msd Ha ta.ok ta.x ta.m ta.len
  have t1 := ta.stepx x1 fr1
  have n1 : Ha.n ≤ H1.n := fr1.n
  have f1 : H1.f H.n = .cells [.int .i64 a.what, .string a.key, .string a.value] T.law_Act true := by rw [fr1.f (by omega) (by omega), fa]
  generalize hHp : (H1.push (.cells [.string (mk []), .string (mk [])] T.api_Pair true)).set H1.n (.cells [.string u.1.key, .string u.1.value] T.api_Pair true) = Hp
  have sp : Still H1 Hp := by rw [← hHp]; exact Fr.set ((Fr.refl H1).push _) _ _ (fun h => by omega)
  have fp : Hp.f H1.n = .cells [.string u.1.key, .string u.1.value] T.api_Pair true := by rw [← hHp]; exact set_f_eq
  have fpa : Hp.f H.n = .cells [.int .i64 a.what, .string a.key, .string a.value] T.law_Act true := by rw [sp.f (by omega) (fun h => h), f1]
  have tp := t1.still sp
  obtain ⟨w, H2, hw, hC, c2, fr2⟩ := q_Seekx bc bm c sf st a.key key side Hp tp.ok tp.c ss.ne tp.m tp.srt tp.len
  obtain ⟨H3, hL, c3, fr3⟩ := q_lseek bc bm sf st key side a.key w Hp H2 tp.ok tp.c hC c2 fr2
  have t3 := tp.stepc c3 fr3
  have hwu : SameW w u := by rw [hw, hu]; exact seekx_eq t.srt sf st a.key key ss
  obtain ⟨e1, e2, e3, e4, e5⟩ := samew w u hwu
  rw [e1, e2, e3] at hL
  rw [← e4] at t3
  have hal := q_alike bc bm bx c sf st _ _ _ H3 t3.c t3.x e5 t3.m t3.srt t3.len
  refine ⟨H3, bc, c, _, _, _, t3, e5, fun K => ?_⟩
  rw [r_law_CursorPlays_0, Int.natCast_add]
  simp (disch := first | with_reducible rfl | assumption | omega | rfl | (simp only [go_sem]; first | done | omega)) only [go_sem, ↓reduceIte, reduceCtorEq, Nat.reduceEqDiff, Nat.reduceAdd, Nat.reduceSub, Nat.reduceMul, Nat.reduceDiv, Nat.reduceMod, Nat.reduceLeDiff, Nat.reduceLT, Nat.reduceBEq, Int.reduceEq, Int.reduceBEq, Int.reduceBNe, Int.reduceLT, Int.reduceLE, Int.reduceAdd, Int.reduceSub, Int.reduceNeg, Int.reduceToNat, Int.reducePow, Nat.reducePow, Int.reduceMul, Int.reduceDiv, ↓s_law_CursorPlays_b0, hlen, hlt, hix, ha0, hHa, fa, decide_eq_false w0, decide_eq_false w1, decide_eq_true w2, enterK_eq hcall, hHp, fp, fpa, enterK_eq hL, enterK_eq hal]

theorem s_CPlays_3 (l : List Act) (v : Value) (bm bx bc : Nat) (sf st : ByteArray) (Hz H : AHeap) (hr0 : Rd EAct Hz v l) (hlb : l.length < 1152921504606846976) (i : Nat) (a : Act) (h : i < l.length) (hxa : l[i] = a) (c : List Pr) (side : Int) (key : ByteArray) (msd : Int) (t : Cy Hz H bm bc bx c sf st side key msd key) (ss : SameS side msd) (w0 : ¬ a.what = 0) (w1 : ¬ a.what = 1) (w2 : ¬ a.what = 2) (w3 : a.what = 3) :
    ∃ H' bc' c' side' key' msd', Cy Hz H' bm bc' bx c' sf st side' key' msd' key' ∧ SameS side' msd' ∧ ∀ K : K,
      l_law_CursorPlays_0 v (.pointer (some ⟨bc, 0, none⟩)) (.pointer (some ⟨bm, 0, none⟩)) (.pointer (some ⟨bx, 0, none⟩)) (.int .i64 ((i : Int))) H (blkK [] 0 K) = l_law_CursorPlays_0 v (.pointer (some ⟨bc', 0, none⟩)) (.pointer (some ⟨bm, 0, none⟩)) (.pointer (some ⟨bx, 0, none⟩)) (.int .i64 (((i + 1 : Nat) : Int))) H' (blkK [] 0 K) := by
  have hlt : (i : Int) < (l.length : Int) := by omega
  have hlen := hr0.lenS
  obtain ⟨b1, o1, hix, hb1, hc1, _⟩ := hr0.ix (q := .i64) h
  rw [hxa] at hc1
  have hix : ixS 3 v (.int .i64 i) = some (.pointer (some ⟨b1, o1, none⟩)) := hix
  have fb : H.f b1 = Hz.f b1 := t.base.f hb1 (fun h => h)
  have ha0 : cutB (H.f b1) o1 3 = some [.int .i64 a.what, .string a.key, .string a.value] := by rw [fb]; exact hc1
  generalize hHa : (H.push (.cells [.int .i64 0, .string (mk []), .string (mk [])] T.law_Act true)).set H.n (.cells [.int .i64 a.what, .string a.key, .string a.value] T.law_Act true) = Ha
  have sa : Still H Ha := by rw [← hHa]; exact Fr.set ((Fr.refl H).push _) _ _ (fun h => by omega)
  have na : Ha.n = H.n + 1 := by rw [← hHa]; rfl
  have fa : Ha.f H.n = .cells [.int .i64 a.what, .string a.key, .string a.value] T.law_Act true := by rw [← hHa]; exact set_f_eq
  have ta := t.still sa
  have hcH := t.c.2
  have hxH := t.x.2
  have hso := srt_filter t.srt (inR sf st)
  obtain ⟨H1, hcall, m1, u1⟩ := q_putM bm c ⟨a.key, a.value⟩ Ha ta.ok ta.m ta.srt ta.len
  have t1 := ta.stepm m1 u1 (srt_putE ta.srt _) (len_putE ta.len _)
  have hal := q_alike bc bm bx _ sf st _ _ _ H1 t1.c t1.x ss t1.m t1.srt t1.len
  refine ⟨H1, bc, _, _, _, _, t1, ss, fun K => ?_⟩
  rw [r_law_CursorPlays_0, Int.natCast_add]
  generalize (putE c ⟨a.key, a.value⟩).1 = e at hcall
  simp (disch := first | with_reducible rfl | assumption | omega | rfl | (simp only [go_sem]; first | done | omega)) only [go_sem, ↓reduceIte, reduceCtorEq, Nat.reduceEqDiff, Nat.reduceAdd, Nat.reduceSub, Nat.reduceMul, Nat.reduceDiv, Nat.reduceMod, Nat.reduceLeDiff, Nat.reduceLT, Nat.reduceBEq, Int.reduceEq, Int.reduceBEq, Int.reduceBNe, Int.reduceLT, Int.reduceLE, Int.reduceAdd, Int.reduceSub, Int.reduceNeg, Int.reduceToNat, Int.reducePow, Nat.reducePow, Int.reduceMul, Int.reduceDiv, ↓s_law_CursorPlays_b0, hlen, hlt, hix, ha0, hHa, fa, decide_eq_false w0, decide_eq_false w1, decide_eq_false w2, decide_eq_true w3, enterK_eq hcall, enterK_eq hal]

theorem s_CPlays_4 (l : List Act) (v : Value) (bm bx bc : Nat) (sf st : ByteArray) (Hz H : AHeap) (hr0 : Rd EAct Hz v l) (hlb : l.length < 1152921504606846976) (i : Nat) (a : Act) (h : i < l.length) (hxa : l[i] = a) (c : List Pr) (side : Int) (key : ByteArray) (msd : Int) (t : Cy Hz H bm bc bx c sf st side key msd key) (ss : SameS side msd) (w0 : ¬ a.what = 0) (w1 : ¬ a.what = 1) (w2 : ¬ a.what = 2) (w3 : ¬ a.what = 3) (w4 : a.what = 4) :
    ∃ H' bc' c' side' key' msd', Cy Hz H' bm bc' bx c' sf st side' key' msd' key' ∧ SameS side' msd' ∧ ∀ K : K,
      l_law_CursorPlays_0 v (.pointer (some ⟨bc, 0, none⟩)) (.pointer (some ⟨bm, 0, none⟩)) (.pointer (some ⟨bx, 0, none⟩)) (.int .i64 ((i : Int))) H (blkK [] 0 K) = l_law_CursorPlays_0 v (.pointer (some ⟨bc', 0, none⟩)) (.pointer (some ⟨bm, 0, none⟩)) (.pointer (some ⟨bx, 0, none⟩)) (.int .i64 (((i + 1 : Nat) : Int))) H' (blkK [] 0 K) := by
  have hlt : (i : Int) < (l.length : Int) := by omega
  have hlen := hr0.lenS
  obtain ⟨b1, o1, hix, hb1, hc1, _⟩ := hr0.ix (q := .i64) h
  rw [hxa] at hc1
  have hix : ixS 3 v (.int .i64 i) = some (.pointer (some ⟨b1, o1, none⟩)) := hix
  have fb : H.f b1 = Hz.f b1 := t.base.f hb1 (fun h => h)
  have ha0 : cutB (H.f b1) o1 3 = some [.int .i64 a.what, .string a.key, .string a.value] := by rw [fb]; exact hc1
  generalize hHa : (H.push (.cells [.int .i64 0, .string (mk []), .string (mk [])] T.law_Act true)).set H.n (.cells [.int .i64 a.what, .string a.key, .string a.value] T.law_Act true) = Ha
  have sa : Still H Ha := by rw [← hHa]; exact Fr.set ((Fr.refl H).push _) _ _ (fun h => by omega)
  have na : Ha.n = H.n + 1 := by rw [← hHa]; rfl
  have fa : Ha.f H.n = .cells [.int .i64 a.what, .string a.key, .string a.value] T.law_Act true := by rw [← hHa]; exact set_f_eq
  have ta := t.still sa
  have hcH := t.c.2
  have hxH := t.x.2
  have hso := srt_filter t.srt (inR sf st)
  obtain ⟨H1, hcall, m1, u1⟩ := q_delM bm c a.key Ha ta.ok ta.m ta.srt ta.len
  have t1 := ta.stepm m1 u1 (srt_delE ta.srt _) (len_delE ta.len _)
  have hal := q_alike bc bm bx _ sf st _ _ _ H1 t1.c t1.x ss t1.m t1.srt t1.len
  refine ⟨H1, bc, _, _, _, _, t1, ss, fun K => ?_⟩
  rw [r_law_CursorPlays_0, Int.natCast_add]
  obtain ⟨s, e, hse⟩ := getE_shape c a.key
  rw [hse] at hcall
  simp (disch := first | with_reducible rfl | assumption | omega | rfl | (simp only [go_sem]; first | done | omega)) only [go_sem, ↓reduceIte, reduceCtorEq, Nat.reduceEqDiff, Nat.reduceAdd, Nat.reduceSub, Nat.reduceMul, Nat.reduceDiv, Nat.reduceMod, Nat.reduceLeDiff, Nat.reduceLT, Nat.reduceBEq, Int.reduceEq, Int.reduceBEq, Int.reduceBNe, Int.reduceLT, Int.reduceLE, Int.reduceAdd, Int.reduceSub, Int.reduceNeg, Int.reduceToNat, Int.reducePow, Nat.reducePow, Int.reduceMul, Int.reduceDiv, ↓s_law_CursorPlays_b0, hlen, hlt, hix, ha0, hHa, fa, decide_eq_false w0, decide_eq_false w1, decide_eq_false w2, decide_eq_false w3, decide_eq_true w4, enterK_eq hcall, enterK_eq hal]

theorem s_CPlays_5 (l : List Act) (v : Value) (bm bx bc : Nat) (sf st : ByteArray) (Hz H : AHeap) (hr0 : Rd EAct Hz v l) (hlb : l.length < 1152921504606846976) (i : Nat) (a : Act) (h : i < l.length) (hxa : l[i] = a) (c : List Pr) (side : Int) (key : ByteArray) (msd : Int) (t : Cy Hz H bm bc bx c sf st side key msd key) (ss : SameS side msd) (w0 : ¬ a.what = 0) (w1 : ¬ a.what = 1) (w2 : ¬ a.what = 2) (w3 : ¬ a.what = 3) (w4 : ¬ a.what = 4) :
    ∃ H' bc' c' side' key' msd', Cy Hz H' bm bc' bx c' sf st side' key' msd' key' ∧ SameS side' msd' ∧ ∀ K : K,
      l_law_CursorPlays_0 v (.pointer (some ⟨bc, 0, none⟩)) (.pointer (some ⟨bm, 0, none⟩)) (.pointer (some ⟨bx, 0, none⟩)) (.int .i64 ((i : Int))) H (blkK [] 0 K) = l_law_CursorPlays_0 v (.pointer (some ⟨bc', 0, none⟩)) (.pointer (some ⟨bm, 0, none⟩)) (.pointer (some ⟨bx, 0, none⟩)) (.int .i64 (((i + 1 : Nat) : Int))) H' (blkK [] 0 K) := by
  have hlt : (i : Int) < (l.length : Int) := by omega
  have hlen := hr0.lenS
  obtain ⟨b1, o1, hix, hb1, hc1, _⟩ := hr0.ix (q := .i64) h
  rw [hxa] at hc1
  have hix : ixS 3 v (.int .i64 i) = some (.pointer (some ⟨b1, o1, none⟩)) := hix
  have fb : H.f b1 = Hz.f b1 := t.base.f hb1 (fun h => h)
  have ha0 : cutB (H.f b1) o1 3 = some [.int .i64 a.what, .string a.key, .string a.value] := by rw [fb]; exact hc1
  generalize hHa : (H.push (.cells [.int .i64 0, .string (mk []), .string (mk [])] T.law_Act true)).set H.n (.cells [.int .i64 a.what, .string a.key, .string a.value] T.law_Act true) = Ha
  have sa : Still H Ha := by rw [← hHa]; exact Fr.set ((Fr.refl H).push _) _ _ (fun h => by omega)
  have na : Ha.n = H.n + 1 := by rw [← hHa]; rfl
  have fa : Ha.f H.n = .cells [.int .i64 a.what, .string a.key, .string a.value] T.law_Act true := by rw [← hHa]; exact set_f_eq
  have ta := t.still sa
  have hcH := t.c.2
  have hxH := t.x.2
  have hso := srt_filter t.srt (inR sf st)
  obtain ⟨bd, H1, hcp, d1, s1, hbd⟩ := q_CCopy bc sf st key side Ha ta.c ss.ne
  have t1 := ta.still s1
  obtain ⟨w, H2, _, hC, c2, fr2⟩ := q_Next bc bm c sf st key side H1 t1.ok t1.c ss.ne t1.m t1.srt t1.len
  have t2 := t1.stepc c2 fr2
  have d2 : Cur H2 bd sf st side key := ⟨by rw [fr2.f d1.2 (by omega), d1.1], Nat.lt_of_lt_of_le d1.2 fr2.n⟩
  have hbase : Hz.n ≤ Ha.n := ta.base.n
  have hmb : ∀ d, MB H2 bm d → d < Ha.n := fun d hd => by
    have h1 := (mdl_off t1.m t1.mc fr2).2 d hd
    exact ta.m.blk (MBT_still ta.m s1 h1)
  have hne : bd ≠ bx := by omega
  have hlo : Hz.n ≤ bd := by omega
  have t3 := t2.copy (bd := bd) d2 hne (fun hd => by have := hmb bd hd; omega) hlo
  have hal := q_alike bd bm bx c sf st key side msd H2 t3.c t3.x ss t3.m t3.srt t3.len
  refine ⟨H2, bd, c, _, _, _, t3, ss, fun K => ?_⟩
  rw [r_law_CursorPlays_0, Int.natCast_add]
  simp (disch := first | with_reducible rfl | assumption | omega | rfl | (simp only [go_sem]; first | done | omega)) only [go_sem, ↓reduceIte, reduceCtorEq, Nat.reduceEqDiff, Nat.reduceAdd, Nat.reduceSub, Nat.reduceMul, Nat.reduceDiv, Nat.reduceMod, Nat.reduceLeDiff, Nat.reduceLT, Nat.reduceBEq, Int.reduceEq, Int.reduceBEq, Int.reduceBNe, Int.reduceLT, Int.reduceLE, Int.reduceAdd, Int.reduceSub, Int.reduceNeg, Int.reduceToNat, Int.reducePow, Nat.reducePow, Int.reduceMul, Int.reduceDiv, ↓s_law_CursorPlays_b0, hlen, hlt, hix, ha0, hHa, fa, decide_eq_false w0, decide_eq_false w1, decide_eq_false w2, decide_eq_false w3, decide_eq_false w4, enterK_eq hcp, enterK_eq hC, enterK_eq hal]

theorem l_CPlays (l : List Act) (v : Value) (bm bx : Nat) (sf st : ByteArray) (Hz : AHeap) (hr0 : Rd EAct Hz v l) (hlb : l.length < 1152921504606846976) : ∀ (x : List Act) (i : Nat) (H : AHeap) (bc : Nat) (c : List Pr) (side : Int) (key : ByteArray) (msd : Int), l.drop i = x → Cy Hz H bm bc bx c sf st side key msd key → SameS side msd → ∃ H', ∀ K : K,
    l_law_CursorPlays_0 v (.pointer (some ⟨bc, 0, none⟩)) (.pointer (some ⟨bm, 0, none⟩)) (.pointer (some ⟨bx, 0, none⟩)) (.int .i64 (i : Int)) H (blkK [] 0 K) = K .normal [] H'
  | [], i, H, bc, c, side, key, msd, hx, t, ss => by
    have h : l.length ≤ i := List.drop_eq_nil_iff.1 hx
    have hlt : ¬ (i : Int) < (l.length : Int) := by omega
    have hlen := hr0.lenS
    refine ⟨H, fun K => ?_⟩
    rw [r_law_CursorPlays_0]
    simp (disch := first | with_reducible rfl | assumption | omega | rfl | (simp only [go_sem]; first | done | omega)) only [go_sem, ↓reduceIte, reduceCtorEq, Nat.reduceEqDiff, Nat.reduceAdd, Nat.reduceSub, Nat.reduceMul, Nat.reduceDiv, Nat.reduceMod, Nat.reduceLeDiff, Nat.reduceLT, Nat.reduceBEq, Int.reduceEq, Int.reduceBEq, Int.reduceBNe, Int.reduceLT, Int.reduceLE, Int.reduceAdd, Int.reduceSub, Int.reduceNeg, Int.reduceToNat, Int.reducePow, Nat.reducePow, Int.reduceMul, Int.reduceDiv, ↓s_law_CursorPlays_b0, hlen, hlt]
  | a :: x, i, H, bc, c, side, key, msd, hx, t, ss => by
    obtain ⟨h, hxa, hx'⟩ := drop_cons hx
    have step : ∃ H' bc' c' side' key' msd', Cy Hz H' bm bc' bx c' sf st side' key' msd' key' ∧ SameS side' msd' ∧ ∀ K : K,
      l_law_CursorPlays_0 v (.pointer (some ⟨bc, 0, none⟩)) (.pointer (some ⟨bm, 0, none⟩)) (.pointer (some ⟨bx, 0, none⟩)) (.int .i64 ((i : Int))) H (blkK [] 0 K) = l_law_CursorPlays_0 v (.pointer (some ⟨bc', 0, none⟩)) (.pointer (some ⟨bm, 0, none⟩)) (.pointer (some ⟨bx, 0, none⟩)) (.int .i64 (((i + 1 : Nat) : Int))) H' (blkK [] 0 K) := by
      by_cases w0 : a.what = 0
      · exact s_CPlays_0 l v bm bx bc sf st Hz H hr0 hlb i a h hxa c side key msd t ss w0
      · by_cases w1 : a.what = 1
        · exact s_CPlays_1 l v bm bx bc sf st Hz H hr0 hlb i a h hxa c side key msd t ss w0 w1
        · by_cases w2 : a.what = 2
          · exact s_CPlays_2 l v bm bx bc sf st Hz H hr0 hlb i a h hxa c side key msd t ss w0 w1 w2
          · by_cases w3 : a.what = 3
            · exact s_CPlays_3 l v bm bx bc sf st Hz H hr0 hlb i a h hxa c side key msd t ss w0 w1 w2 w3
            · by_cases w4 : a.what = 4
              · exact s_CPlays_4 l v bm bx bc sf st Hz H hr0 hlb i a h hxa c side key msd t ss w0 w1 w2 w3 w4
              · exact s_CPlays_5 l v bm bx bc sf st Hz H hr0 hlb i a h hxa c side key msd t ss w0 w1 w2 w3 w4
    obtain ⟨H1, bc1, c1, side1, key1, msd1, t1, ss1, hstep⟩ := step
    obtain ⟨H', ih⟩ := l_CPlays l v bm bx sf st Hz hr0 hlb x (i + 1) H1 bc1 c1 side1 key1 msd1 hx' t1 ss1
    exact ⟨H', fun K => (hstep K).trans (ih K)⟩

/-- A new cursor, an empty map, and the law's cursor. -/
def cyH (a b : ByteArray) (H : AHeap) : AHeap := ((newH a b H).push (.cells [.slice none 0 0] T.model_Model true)).push (.cells [.string a, .string b, .string (mk []), .int .i64 (-1)] T.law_Model true)
theorem cy0 (a b : ByteArray) (H : AHeap) (ok : Ok H) : Cy H (cyH a b H) (H.n + 1) H.n (H.n + 2) [] a b 1 (mk []) (-1) (mk []) := by
  have s : Still H (cyH a b H) := (((Fr.refl H).push _).push _).push _
  have n : (cyH a b H).n = H.n + 3 := rfl
  have f0 : (cyH a b H).f H.n = .cells [.string a, .string b, .int .i64 1, .string (mk [])] T.cursor_Cursor true := by
    unfold cyH newH
    rw [push_f_ne (by simp <;> omega), push_f_ne (by simp)]
    exact push_f_eq rfl
  have f1 : (cyH a b H).f (H.n + 1) = .cells [.slice none 0 0] T.model_Model true := by
    unfold cyH newH
    rw [push_f_ne (by simp)]
    exact push_f_eq rfl
  have f2 : (cyH a b H).f (H.n + 2) = .cells [.string a, .string b, .string (mk []), .int .i64 (-1)] T.law_Model true := push_f_eq rfl
  have mb : ∀ c, MB (cyH a b H) (H.n + 1) c → c = H.n + 1 := fun c h => h.elim id fun ⟨u, hu, hb⟩ => by rw [f1] at hu; cases hu; cases hb
  refine ⟨ok.fr s, s, ⟨_, f1, by omega, .inl ⟨rfl, rfl⟩, by simp [blockOf]⟩, ⟨f0, by omega⟩, ⟨f2, by omega⟩, by omega, fun h => by have := mb _ h; omega, fun h => by have := mb _ h; omega, fun d h => by have := mb _ h; omega, by omega, by omega, List.Pairwise.nil, by simp⟩

theorem q_CursorPlays (a b : ByteArray) (l : List Act) (v : Value) (H : AHeap) (ok : Ok H) (hr : Rd EAct H v l) : ∃ H', CC F.law_CursorPlays [.string a, .string b, v] H = some (.bool true, H') := by
  by_cases h3 : 24 < ((bl a).length : Int)
  · refine any_of (H1 := ?_) (d_law_CursorPlays _ _ _ H ?_)
    rotate_left 1
    · simp (disch := first | with_reducible rfl | assumption | omega | rfl | (simp only [go_sem]; first | done | omega)) only [go_sem, ↓reduceIte, reduceCtorEq, Nat.reduceEqDiff, Nat.reduceAdd, Nat.reduceSub, Nat.reduceMul, Nat.reduceDiv, Nat.reduceMod, Nat.reduceLeDiff, Nat.reduceLT, Nat.reduceBEq, Int.reduceEq, Int.reduceBEq, Int.reduceBNe, Int.reduceLT, Int.reduceLE, Int.reduceAdd, Int.reduceSub, Int.reduceNeg, Int.reduceToNat, Int.reducePow, Nat.reducePow, Int.reduceMul, Int.reduceDiv, ↓s_law_CursorPlays, decide_eq_true h3]
      rfl
  · by_cases h4 : 24 < ((bl b).length : Int)
    · refine any_of (H1 := ?_) (d_law_CursorPlays _ _ _ H ?_)
      rotate_left 1
      · simp (disch := first | with_reducible rfl | assumption | omega | rfl | (simp only [go_sem]; first | done | omega)) only [go_sem, ↓reduceIte, reduceCtorEq, Nat.reduceEqDiff, Nat.reduceAdd, Nat.reduceSub, Nat.reduceMul, Nat.reduceDiv, Nat.reduceMod, Nat.reduceLeDiff, Nat.reduceLT, Nat.reduceBEq, Int.reduceEq, Int.reduceBEq, Int.reduceBNe, Int.reduceLT, Int.reduceLE, Int.reduceAdd, Int.reduceSub, Int.reduceNeg, Int.reduceToNat, Int.reducePow, Nat.reducePow, Int.reduceMul, Int.reduceDiv, ↓s_law_CursorPlays, decide_eq_false h3, decide_eq_true h4]
        rfl
    · obtain ⟨sb, hsm, hsl⟩ := q_small l v 30 H hr (by omega)
      have hsm : CC F.law_small [v, .int .i64 30] H = some (.bool sb, H) := hsm
      have main : sb = true → ∃ H2, ∀ K : K, l_law_CursorPlays_0 v (.pointer (some ⟨H.n, 0, none⟩)) (.pointer (some ⟨H.n + 1, 0, none⟩)) (.pointer (some ⟨H.n + 2, 0, none⟩)) (.int .i64 ((0 : Nat) : Int)) (cyH a b H) (blkK [] 0 K) = K .normal [] H2 := fun hs => l_CPlays l v (H.n + 1) (H.n + 2) a b H hr (by have := hsl hs; omega) l 0 (cyH a b H) H.n [] 1 (mk []) (-1) rfl (cy0 a b H ok) (.inl ⟨rfl, rfl⟩)
      have hn1 : (newH a b H).n = H.n + 1 := rfl
      by_cases h5 : bl b = []
      · have hnew := q_New a b H h3 h4 (.inl h5)
        cases hsb : sb with
        | false =>
          rw [hsb] at hsm
          refine any_of (H1 := ?_) (d_law_CursorPlays _ _ _ H ?_)
          rotate_left 1
          · simp (disch := first | with_reducible rfl | assumption | omega | rfl | (simp only [go_sem]; first | done | omega)) only [go_sem, ↓reduceIte, reduceCtorEq, Nat.reduceEqDiff, Nat.reduceAdd, Nat.reduceSub, Nat.reduceMul, Nat.reduceDiv, Nat.reduceMod, Nat.reduceLeDiff, Nat.reduceLT, Nat.reduceBEq, Int.reduceEq, Int.reduceBEq, Int.reduceBNe, Int.reduceLT, Int.reduceLE, Int.reduceAdd, Int.reduceSub, Int.reduceNeg, Int.reduceToNat, Int.reducePow, Nat.reducePow, Int.reduceMul, Int.reduceDiv, ↓s_law_CursorPlays, decide_eq_false h3, decide_eq_false h4, bl_mk, decide_eq_true h5, enterK_eq hsm]
            rfl
        | true =>
          rw [hsb] at hsm
          obtain ⟨H2, hloop⟩ := main hsb
          refine any_of (H1 := H2) (d_law_CursorPlays _ _ _ H ?_)
          simp (disch := first | with_reducible rfl | assumption | omega | rfl | (simp only [go_sem]; first | done | omega)) only [go_sem, ↓reduceIte, reduceCtorEq, Nat.reduceEqDiff, Nat.reduceAdd, Nat.reduceSub, Nat.reduceMul, Nat.reduceDiv, Nat.reduceMod, Nat.reduceLeDiff, Nat.reduceLT, Nat.reduceBEq, Int.reduceEq, Int.reduceBEq, Int.reduceBNe, Int.reduceLT, Int.reduceLE, Int.reduceAdd, Int.reduceSub, Int.reduceNeg, Int.reduceToNat, Int.reducePow, Nat.reducePow, Int.reduceMul, Int.reduceDiv, ↓s_law_CursorPlays, decide_eq_false h3, decide_eq_false h4, bl_mk, decide_eq_true h5, enterK_eq hsm, enterK_eq hnew, cp_some]
          refine (hloop _).trans ?_
          simp (disch := first | with_reducible rfl | assumption | omega | rfl | (simp only [go_sem]; first | done | omega)) only [go_sem, ↓reduceIte, reduceCtorEq, Nat.reduceEqDiff, Nat.reduceAdd, Nat.reduceSub, Nat.reduceMul, Nat.reduceDiv, Nat.reduceMod, Nat.reduceLeDiff, Nat.reduceLT, Nat.reduceBEq, Int.reduceEq, Int.reduceBEq, Int.reduceBNe, Int.reduceLT, Int.reduceLE, Int.reduceAdd, Int.reduceSub, Int.reduceNeg, Int.reduceToNat, Int.reducePow, Nat.reducePow, Int.reduceMul, Int.reduceDiv]
      · by_cases h6 : cmpS b a ≤ 0
        · refine any_of (H1 := ?_) (d_law_CursorPlays _ _ _ H ?_)
          rotate_left 1
          · simp (disch := first | with_reducible rfl | assumption | omega | rfl | (simp only [go_sem]; first | done | omega)) only [go_sem, ↓reduceIte, reduceCtorEq, Nat.reduceEqDiff, Nat.reduceAdd, Nat.reduceSub, Nat.reduceMul, Nat.reduceDiv, Nat.reduceMod, Nat.reduceLeDiff, Nat.reduceLT, Nat.reduceBEq, Int.reduceEq, Int.reduceBEq, Int.reduceBNe, Int.reduceLT, Int.reduceLE, Int.reduceAdd, Int.reduceSub, Int.reduceNeg, Int.reduceToNat, Int.reducePow, Nat.reducePow, Int.reduceMul, Int.reduceDiv, ↓s_law_CursorPlays, decide_eq_false h3, decide_eq_false h4, bl_mk, decide_eq_false h5, leq_cmpS, decide_eq_true h6]
            rfl
        · have hnew := q_New a b H h3 h4 (.inr h6)
          cases hsb : sb with
          | false =>
            rw [hsb] at hsm
            refine any_of (H1 := ?_) (d_law_CursorPlays _ _ _ H ?_)
            rotate_left 1
            · simp (disch := first | with_reducible rfl | assumption | omega | rfl | (simp only [go_sem]; first | done | omega)) only [go_sem, ↓reduceIte, reduceCtorEq, Nat.reduceEqDiff, Nat.reduceAdd, Nat.reduceSub, Nat.reduceMul, Nat.reduceDiv, Nat.reduceMod, Nat.reduceLeDiff, Nat.reduceLT, Nat.reduceBEq, Int.reduceEq, Int.reduceBEq, Int.reduceBNe, Int.reduceLT, Int.reduceLE, Int.reduceAdd, Int.reduceSub, Int.reduceNeg, Int.reduceToNat, Int.reducePow, Nat.reducePow, Int.reduceMul, Int.reduceDiv, ↓s_law_CursorPlays, decide_eq_false h3, decide_eq_false h4, bl_mk, decide_eq_false h5, leq_cmpS, decide_eq_false h6, enterK_eq hsm]
              rfl
          | true =>
            rw [hsb] at hsm
            obtain ⟨H2, hloop⟩ := main hsb
            refine any_of (H1 := H2) (d_law_CursorPlays _ _ _ H ?_)
            simp (disch := first | with_reducible rfl | assumption | omega | rfl | (simp only [go_sem]; first | done | omega)) only [go_sem, ↓reduceIte, reduceCtorEq, Nat.reduceEqDiff, Nat.reduceAdd, Nat.reduceSub, Nat.reduceMul, Nat.reduceDiv, Nat.reduceMod, Nat.reduceLeDiff, Nat.reduceLT, Nat.reduceBEq, Int.reduceEq, Int.reduceBEq, Int.reduceBNe, Int.reduceLT, Int.reduceLE, Int.reduceAdd, Int.reduceSub, Int.reduceNeg, Int.reduceToNat, Int.reducePow, Nat.reducePow, Int.reduceMul, Int.reduceDiv, ↓s_law_CursorPlays, decide_eq_false h3, decide_eq_false h4, bl_mk, decide_eq_false h5, leq_cmpS, decide_eq_false h6, enterK_eq hsm, enterK_eq hnew, cp_some]
            refine (hloop _).trans ?_
            simp (disch := first | with_reducible rfl | assumption | omega | rfl | (simp only [go_sem]; first | done | omega)) only [go_sem, ↓reduceIte, reduceCtorEq, Nat.reduceEqDiff, Nat.reduceAdd, Nat.reduceSub, Nat.reduceMul, Nat.reduceDiv, Nat.reduceMod, Nat.reduceLeDiff, Nat.reduceLT, Nat.reduceBEq, Int.reduceEq, Int.reduceBEq, Int.reduceBNe, Int.reduceLT, Int.reduceLE, Int.reduceAdd, Int.reduceSub, Int.reduceNeg, Int.reduceToNat, Int.reducePow, Nat.reducePow, Int.reduceMul, Int.reduceDiv]

theorem decAct {W : World} {H : Type} {enc : TypeId × Value → H} {cs : List Value} {n : Nat} {y : DataW H × List MemPlace} (h : DataW.trod enc Try.prog W 0 (fun _ => true) true n T.law_Act cs = some y) (hl : cs.length = EAct.w) :
    ∃ a : Act, cs = EAct.enc a ∧ True ∧ cs.all plain = true := by
  have ht := Try.underlying52
  obtain ⟨c0, c1, c2, rfl⟩ : ∃ c0 c1 c2, cs = [c0, c1, c2] := by
    match cs, hl with
    | [c0, c1, c2], _ => exact ⟨_, _, _, rfl⟩
  obtain ⟨m0, z0, h0⟩ := dec_field ht h (i := 0) rfl rfl (by kernel_rfl) rfl
  obtain ⟨m1, z1, h1⟩ := dec_field ht h (i := 1) rfl rfl (by kernel_rfl) rfl
  obtain ⟨m2, z2, h2⟩ := dec_field ht h (i := 2) rfl rfl (by kernel_rfl) rfl
  obtain ⟨s0, rfl, _⟩ := dec_int Try.underlying3 h0
  obtain ⟨s1, rfl, _⟩ := dec_str Try.underlying9 h1
  obtain ⟨s2, rfl, _⟩ := dec_str Try.underlying9 h2
  exact ⟨⟨s0, s1, s2⟩, rfl, trivial, rfl⟩

theorem run_CursorPlays (W : World) (a : ByteArray) (_ : (bl a).length ≤ 140737488351232) (b : ByteArray) (_ : (bl b).length ≤ 140737488351232) (v : Value) (l : List Act) (hr : Rd EAct (absHeap W) v l) (_ : ∀ a, a ∈ l → True) (hl : l.length ≤ maxLen) :
    ∃ k H', dCall Try.prog prims1 hints k F.law_CursorPlays [.string a, .string b, v] (absHeap W) = some (.bool true, H') := by
  obtain ⟨H', h⟩ := q_CursorPlays a b l v (absHeap W) (absHeap_ok W) hr
  obtain ⟨k, h⟩ := D_run h
  exact ⟨k, _, h⟩

end Go.Proofs.Ytmbppjilnnjdaaa

/-
  What a sorted list of pairs holds for a key, and how calls change it.
  Conditions: none. By an AI agent.
-/
set_option maxRecDepth 10000
set_option linter.unusedSimpArgs false
set_option linter.unusedVariables false
namespace Go.Proofs.Ytmbppjilnnjdaaa
open Go Eng

/-- The value of a key. -/
def val (l : List Pr) (k : ByteArray) : Option ByteArray := (l.find? fun a => decide (a.key = k)).map Pr.value

theorem val_none {l : List Pr} {k : ByteArray} (h : ∀ a ∈ l, ¬ a.key = k) : val l k = none := by
  unfold val
  rw [List.find?_eq_none.2 (by simpa using h)]
  rfl
theorem val_cons (a : Pr) (l : List Pr) (k : ByteArray) : val (a :: l) k = if a.key = k then some a.value else val l k := by
  unfold val
  rw [List.find?_cons]
  by_cases h : a.key = k
  · simp [h]
  · simp [h]
theorem val_append (l m : List Pr) (k : ByteArray) : val (l ++ m) k = (val l k).or (val m k) := by
  unfold val
  rw [List.find?_append]
  cases List.find? (fun a => decide (a.key = k)) l <;> rfl
theorem val_mem : ∀ {l : List Pr} (_ : Srt l) {a : Pr}, a ∈ l → val l a.key = some a.value
  | [], _, _, h => by cases h
  | b :: l, hs, a, h => by
    obtain ⟨hb, hl⟩ := List.pairwise_cons.1 hs
    rw [val_cons]
    rcases List.mem_cons.1 h with rfl | h
    · rw [if_pos rfl]
    · have := hb a h
      rw [if_neg fun he => by rw [he, cmpS_self] at this; omega]
      exact val_mem hl h

theorem val_isP {l : List Pr} (hs : Srt l) (k : ByteArray) : val l k = if isP l k (posP l k) = true then some ((l[posP l k]?).elim (mk []) Pr.value) else none := by
  by_cases h : isP l k (posP l k) = true
  · obtain ⟨hp, he⟩ := isP_eq h
    rw [if_pos h, List.getElem?_eq_getElem hp]
    have := val_mem hs (List.getElem_mem hp)
    rw [he] at this
    exact this
  · rw [if_neg h]
    refine val_none fun a ha hk => h ?_
    obtain ⟨i, hi, rfl⟩ := List.getElem_of_mem ha
    rw [← hk]
    exact isP_self hs hi
theorem getP_val {l : List Pr} (hs : Srt l) (k : ByteArray) : getP l k (posP l k) = match val l k with | some v => .tuple #[.string v, .int .i64 0] | none => .tuple #[.string (mk []), .int .i64 9] := by
  rw [val_isP hs]
  unfold getP
  split <;> rfl

theorem val_set {a : Pr} {k : ByteArray} (hk : ¬ a.key = k) : ∀ (l : List Pr) (p : Nat), (∀ h : p < l.length, l[p].key = a.key) → val (l.set p a) k = val l k
  | [], _, _ => rfl
  | b :: l, 0, h => by
    have := h (by simp)
    rw [List.set_cons_zero, val_cons, val_cons, if_neg hk, if_neg (by rw [show b.key = a.key from this]; exact hk)]
  | b :: l, p + 1, h => by
    rw [List.set_cons_succ, val_cons, val_cons, val_set hk l p fun hp => h (by simpa using hp)]
theorem val_ins {a : Pr} {k : ByteArray} (hk : ¬ a.key = k) (l : List Pr) (p : Nat) : val (l.take p ++ a :: l.drop p) k = val l k := by
  rw [val_append, val_cons, if_neg hk, ← val_append, List.take_append_drop]
theorem val_del {l : List Pr} {k : ByteArray} {p : Nat} (hp : p < l.length) (hk : ¬ l[p].key = k) : val (l.take p ++ l.drop (p + 1)) k = val l k := by
  have e : l = l.take p ++ l[p] :: l.drop (p + 1) := by rw [← List.drop_eq_getElem_cons hp, List.take_append_drop]
  have h2 : val l k = val (l.take p ++ l[p] :: l.drop (p + 1)) k := by rw [← e]
  rw [h2, val_append, val_append, val_cons, if_neg hk]
theorem val_del_self {l : List Pr} (hs : Srt l) {p : Nat} (hp : p < l.length) : val (l.take p ++ l.drop (p + 1)) l[p].key = none := by
  refine val_none fun a ha hk => ?_
  rcases List.mem_append.1 ha with h | h
  · obtain ⟨i, hi, rfl⟩ := List.getElem_of_mem h
    rw [List.getElem_take] at hk
    have hi' : i < p := by simp at hi; omega
    have := List.pairwise_iff_getElem.1 hs i p (by omega) hp hi'
    rw [hk, cmpS_self] at this
    omega
  · obtain ⟨i, hi, rfl⟩ := List.getElem_of_mem h
    rw [List.getElem_drop] at hk
    have hi' : p + 1 + i < l.length := by simp at hi; omega
    have := List.pairwise_iff_getElem.1 hs p (p + 1 + i) hp hi' (by omega)
    rw [hk, cmpS_self] at this
    omega

/-- What a call makes of the value of a key: where there is no error, the key has the new value; nothing else is changed. -/
structure Eff (l l' : List Pr) (e : Int) (key : ByteArray) (v : Option ByteArray) : Prop where
  self : e = 0 → val l' key = v
  other : ∀ k, ¬ key = k → val l' k = val l k
  err : e ≠ 0 → l' = l

theorem eff_put {l : List Pr} (hs : Srt l) (a : Pr) : Eff l (putP l a (posP l a.key)).2 (putP l a (posP l a.key)).1 a.key (some a.value) := by
  have hs' := srt_put hs a
  unfold putP at hs' ⊢
  split
  · rename_i h
    rw [if_pos h] at hs'
    obtain ⟨hp, he⟩ := isP_eq h
    exact ⟨fun _ => val_mem hs' (List.mem_iff_getElem.2 ⟨posP l a.key, by simpa using hp, by simp⟩), fun k hk => val_set hk l _ fun _ => he, fun h => absurd rfl h⟩
  · rename_i h
    rw [if_neg h] at hs'
    split
    · exact ⟨fun h => (by simp at h), fun k _ => rfl, fun _ => rfl⟩
    · rename_i h2
      rw [if_neg h2] at hs'
      exact ⟨fun _ => val_mem hs' (by simp), fun k hk => val_ins hk l _, fun h => absurd rfl h⟩
theorem eff_insert {l : List Pr} (hs : Srt l) (a : Pr) : Eff l (insertP l a (posP l a.key)).2 (insertP l a (posP l a.key)).1 a.key (some a.value) := by
  have hs' := srt_insert hs a
  unfold insertP at hs' ⊢
  split
  · exact ⟨fun h => (by simp at h), fun k _ => rfl, fun _ => rfl⟩
  · rename_i h
    rw [if_neg h] at hs'
    split
    · exact ⟨fun h => (by simp at h), fun k _ => rfl, fun _ => rfl⟩
    · rename_i h2
      rw [if_neg h2] at hs'
      exact ⟨fun _ => val_mem hs' (by simp), fun k hk => val_ins hk l _, fun h => absurd rfl h⟩
theorem eff_swap {l : List Pr} (hs : Srt l) (key old new : ByteArray) : Eff l (swapP l key old new (posP l key)).2 (swapP l key old new (posP l key)).1 key (some new) := by
  have hs' := srt_swap hs key old new
  unfold swapP at hs' ⊢
  split
  · rename_i h
    rw [if_pos h] at hs'
    obtain ⟨hp, he⟩ := isP_eq h
    split
    · rename_i h2
      rw [if_pos h2] at hs'
      exact ⟨fun _ => val_mem (a := ⟨key, new⟩) hs' (List.mem_iff_getElem.2 ⟨posP l key, by simpa using hp, by simp⟩), fun k hk => val_set (a := ⟨key, new⟩) hk l _ fun _ => he, fun h => absurd rfl h⟩
    · exact ⟨fun h => (by simp at h), fun k _ => rfl, fun _ => rfl⟩
  · exact ⟨fun h => (by simp at h), fun k _ => rfl, fun _ => rfl⟩
theorem eff_delete {l : List Pr} (hs : Srt l) (key : ByteArray) : Eff l (if isP l key (posP l key) = true then l.take (posP l key) ++ l.drop (posP l key + 1) else l) (if isP l key (posP l key) = true then 0 else 9) key none := by
  split
  · rename_i h
    obtain ⟨hp, he⟩ := isP_eq h
    refine ⟨fun _ => ?_, fun k hk => val_del hp (by rw [he]; exact hk), fun h => absurd rfl h⟩
    have := val_del_self hs hp
    rw [he] at this
    exact this
  · exact ⟨fun h => (by simp at h), fun k _ => rfl, fun _ => rfl⟩

/-! ### Sorted lists with the same elements -/
theorem srt_ext : ∀ {c l : List Pr} (_ : Srt c) (_ : Srt l), (∀ a, a ∈ c ↔ a ∈ l) → c = l
  | [], [], _, _, _ => rfl
  | [], b :: l, _, _, h => by have := (h b).2 (by simp); cases this
  | a :: c, [], _, _, h => by have := (h a).1 (by simp); cases this
  | a :: c, b :: l, hc, hl, h => by
    obtain ⟨ha, hc'⟩ := List.pairwise_cons.1 hc
    obtain ⟨hb, hl'⟩ := List.pairwise_cons.1 hl
    have e : a = b := by
      rcases List.mem_cons.1 ((h a).1 (by simp)) with h1 | h1
      · exact h1
      · rcases List.mem_cons.1 ((h b).2 (by simp)) with h2 | h2
        · exact h2.symm
        · have := cmpS_trans (ha b h2) (hb a h1)
          rw [cmpS_self] at this
          omega
    subst e
    rw [srt_ext hc' hl' fun x => ?_]
    constructor
    · intro hx
      rcases List.mem_cons.1 ((h x).1 (List.mem_cons_of_mem _ hx)) with h1 | h1
      · have := ha x hx
        rw [h1, cmpS_self] at this
        omega
      · exact h1
    · intro hx
      rcases List.mem_cons.1 ((h x).2 (List.mem_cons_of_mem _ hx)) with h1 | h1
      · have := hb x hx
        rw [h1, cmpS_self] at this
        omega
      · exact h1

/-! ### Allowed pairs -/
def AllOk (l : List Pr) : Prop := ∀ a ∈ l, chk a.key [a.value] = 0
theorem ofErr_ok : ∀ {l : List Pr} (o : Option Pr), Srt l → AllOk l → (∀ b, o = some b → ∀ a ∈ l, cmpS b.key a.key < 0) → ofErr o l = 0
  | [], _, _, _, _ => rfl
  | a :: l, o, hs, hk, ho => by
    obtain ⟨ha, hl⟩ := List.pairwise_cons.1 hs
    have h1 : chk a.key [a.value] = 0 := hk a (by simp)
    have h2 : (o.elim false fun b => decide (0 ≤ cmpS b.key a.key)) = false := by
      cases o with
      | none => rfl
      | some b =>
        have := ho b rfl a (by simp)
        simp; omega
    rw [ofErr, if_neg (by simp [h1]), h2, if_neg (by simp)]
    exact ofErr_ok (some a) hl (fun b hb => hk b (by simp [hb])) fun b hb => by cases hb; exact ha
theorem allOk_put {l : List Pr} (h : AllOk l) {a : Pr} (ha : chk a.key [a.value] = 0) (p : Nat) : AllOk (putP l a p).2 := by
  unfold putP
  split
  · intro b hb
    rcases List.mem_or_eq_of_mem_set hb with hb | rfl
    · exact h b hb
    · exact ha
  · split
    · exact h
    · intro b hb
      rcases List.mem_append.1 hb with hb | hb
      · exact h b (List.mem_of_mem_take hb)
      · rcases List.mem_cons.1 hb with rfl | hb
        · exact ha
        · exact h b (List.mem_of_mem_drop hb)
theorem allOk_insert {l : List Pr} (h : AllOk l) {a : Pr} (ha : chk a.key [a.value] = 0) (p : Nat) : AllOk (insertP l a p).2 := by
  unfold insertP
  split
  · exact h
  · split
    · exact h
    · intro b hb
      rcases List.mem_append.1 hb with hb | hb
      · exact h b (List.mem_of_mem_take hb)
      · rcases List.mem_cons.1 hb with rfl | hb
        · exact ha
        · exact h b (List.mem_of_mem_drop hb)
theorem allOk_swap {l : List Pr} (h : AllOk l) {key old new : ByteArray} (ha : chk key [new] = 0) (p : Nat) : AllOk (swapP l key old new p).2 := by
  unfold swapP
  split
  · split
    · intro b hb
      rcases List.mem_or_eq_of_mem_set hb with hb | rfl
      · exact h b hb
      · exact ha
    · exact h
  · exact h
theorem allOk_sub {l m : List Pr} (h : AllOk l) (hm : ∀ a ∈ m, a ∈ l) : AllOk m := fun a ha => h a (hm a ha)

end Go.Proofs.Ytmbppjilnnjdaaa

/-
  The seat's functions as terms over the engine's combinators (a program of ours printed it).
  Conditions: none. By an AI agent.
-/
set_option linter.unusedVariables false
namespace Go.Proofs.Ytmbppjilnnjdaaa
open Go Eng

/-! ticketline.ticketlinelaw42.CursorHolds -/

noncomputable def s_law_CursorHolds (mg : GT) (mc : CT) (ms : ST) (P : Program) (C : CallF) (L0 : Value → Value → Value → Value → Value → Value → AHeap → K → Res) (L1 : Value → Value → Value → Value → Value → Value → Value → Value → Value → AHeap → K → Res) (L2 : Value → Value → Value → Value → Value → Value → AHeap → K → Res) (L3 : Value → Value → Value → Value → Value → AHeap → K → Res) (L4 : Value → Value → Value → Value → Value → Value → Value → Value → AHeap → K → Res) (L5 : Value → Value → Value → Value → Value → AHeap → K → Res) (L6 : Value → Value → Value → Value → Value → Value → Value → AHeap → K → Res) (L7 : Value → Value → AHeap → K → Res) (a0 : Value) (a1 : Value) (a2 : Value) (a3 : Value) (H : AHeap) (K0 : K) : Res :=
bareK (lenT a0) H fun t35 h1 =>
bareK (xbin P .gtr T.int (.tmp 35) (.const (.int .i64 24)) t35 (.int .i64 24)) h1 fun t36 h2 =>
mg t36 false (fun o1 => o1 a1 h2) h2 fun t38 h3 =>
mg t36 false (fun o2 => bareK (lenT t38) h3 o2) h3 fun t39 h4 =>
mg t36 false (fun o3 => bareK (xbin P .gtr T.int (.tmp 39) (.const (.int .i64 24)) t39 (.int .i64 24)) h4 o3) h4 fun t40 h5 =>
pickK t36 (.bool true) t40 fun t41 =>
mg t41 false (fun o4 => o4 a1 h5) h5 fun t43 h6 =>
mg t41 false (fun o5 => bareK (xbin P .neq T.string (.tmp 43) (.const (.string (mk []))) t43 (.string (mk []))) h6 o5) h6 fun t44 h7 =>
mg t41 false (fun o6 => o6 t44 h7) h7 fun t45 h8 =>
mg t45 true (fun o7 => o7 a1 h8) h8 fun t46 h9 =>
mg t45 true (fun o8 => o8 a0 h9) h9 fun t47 h10 =>
mg t45 true (fun o9 => bareK (xbin P .leq T.string (.tmp 46) (.tmp 47) t46 t47) h10 o9) h10 fun t48 h11 =>
mg t41 false (fun o10 => pickK t45 t48 (.bool false) fun v => o10 v h11) h11 fun t49 h12 =>
pickK t41 (.bool true) t49 fun t50 =>
mg t50 false (fun o11 => o11 a2 h12) h12 fun t52 h13 =>
mg t50 false (fun o12 => enterK C F.law_small [t52, (.int .i64 16)] h13 o12) h13 fun t53 h14 =>
mg t50 false (fun o13 => bareK (xun P .not t53) h14 o13) h14 fun t54 h15 =>
pickK t50 (.bool true) t54 fun t55 =>
mg t55 false (fun o14 => o14 a3 h15) h15 fun t57 h16 =>
mg t55 false (fun o15 => enterK C F.law_small [t57, (.int .i64 16)] h16 o15) h16 fun t58 h17 =>
mg t55 false (fun o16 => bareK (xun P .not t58) h17 o16) h17 fun t59 h18 =>
pickK t55 (.bool true) t59 fun t60 =>
mc t60 (fun k17 => enterK C F.law_known [] h18 fun t61 h19 =>
k17 .ret [(8, t61)] h19) (fun k17 =>
k17 .normal [(0, a0), (1, a1), (2, a2), (3, a3)] h18) (seqK (fun tT h20 =>
bareK (bldS #[(.slice none 0 0)] [(0, 1)] []) h20 fun t62 h21 =>
bothK (newv T.model_Model t62 h21) fun t63 h22 =>
ms (fun k18 =>
L0 (get tT 0) (get tT 1) (get tT 2) (get tT 3) t63 (.int .i64 0) h22 (blkK [0, 1, 3, 9] 0 k18)) (seqK (fun tT_1 h23 =>
enterK C F.cursor_New [(get tT_1 0), (get tT_1 1)] h23 fun t85 h24 =>
bareK (xextract t85 0) h24 fun t86 h25 =>
bareK (xextract t85 1) h25 fun t87 h26 =>
bareK (xbin P .eql T.p_cursor_Cursor (.tmp 88) (.const (.pointer none)) t86 (.pointer none)) h26 fun t89 h27 =>
mg t89 false (fun o19 => o19 t87 h27) h27 fun t91 h28 =>
mg t89 false (fun o20 => bareK (xbin P .neq T.api_Errno (.tmp 91) (.const (.int .i64 0)) t91 (.int .i64 0)) h28 o20) h28 fun t92 h29 =>
pickK t89 (.bool true) t92 fun t93 =>
mc t93 (fun k21 => k21 .ret [(8, (.bool false))] h29) (fun k21 =>
k21 .normal [(0, (get tT_1 0)), (1, (get tT_1 1)), (3, (get tT_1 3)), (9, (get tT_1 9)), (11, t86)] h29) (seqK (fun tT_2 h30 =>
enterK C F.model_Model_Pairs [(get tT_2 9)] h30 fun t95 h31 =>
ms (fun k22 =>
L1 (get tT_2 0) (get tT_2 1) (get tT_2 3) (get tT_2 9) (get tT_2 11) (.slice none 0 0) (.slice none 0 0) t95 (.int .i64 0) h31 (blkK [3, 9, 11, 13, 14] 2 k22)) (seqK (fun tT_3 h32 =>
ms (fun k23 =>
L2 (get tT_3 3) (get tT_3 9) (get tT_3 11) (get tT_3 13) (get tT_3 14) (.int .i64 0) h32 (blkK [3, 9, 11, 13, 14] 4 k23)) (seqK (fun tT_4 h33 =>
bareK (lenS (get tT_4 14)) h33 fun t196 h34 =>
bareK (lenS (get tT_4 13)) h34 fun t198 h35 =>
bareK (xbin P .neq T.int (.tmp 196) (.tmp 198) t196 t198) h35 fun t199 h36 =>
mg t199 false (fun o24 => o24 (get tT_4 11) h36) h36 fun t201 h37 =>
mg t199 false (fun o25 => enterK C F.cursor_Cursor_Behind [t201] h37 o25) h37 fun t202 h38 =>
mg t199 false (fun o26 => bareK (xun P .not t202) h38 o26) h38 fun t203 h39 =>
pickK t199 (.bool true) t203 fun t204 =>
mc t204 (fun k27 => k27 .ret [(8, (.bool false))] h39) (fun k27 =>
k27 .normal [(3, (get tT_4 3)), (9, (get tT_4 9)), (11, (get tT_4 11)), (13, (get tT_4 13))] h39) (seqK (fun tT_5 h40 =>
bareK (lenS (get tT_5 13)) h40 fun t206 h41 =>
bareK (xbin P .sub T.int (.tmp 206) (.const (.int .i64 1)) t206 (.int .i64 1)) h41 fun t207 h42 =>
ms (fun k28 =>
L3 (get tT_5 3) (get tT_5 9) (get tT_5 11) (get tT_5 13) t207 h42 (blkK [3, 9, 11, 13] 6 k28)) (seqK (fun tT_6 h43 =>
enterK C F.law_prev [(get tT_6 11), (get tT_6 9), (.string (mk [])), (.string (mk [])), (.int .i64 17)] h43 fun t228 h44 =>
bareK (xun P .not t228) h44 fun t229 h45 =>
mg t229 false (fun o29 => o29 (get tT_6 11) h45) h45 fun t231 h46 =>
mg t229 false (fun o30 => enterK C F.cursor_Cursor_Before [t231] h46 o30) h46 fun t232 h47 =>
mg t229 false (fun o31 => bareK (xun P .not t232) h47 o31) h47 fun t233 h48 =>
pickK t229 (.bool true) t233 fun t234 =>
mc t234 (fun k32 => k32 .ret [(8, (.bool false))] h48) (fun k32 =>
k32 .normal [(3, (get tT_6 3)), (9, (get tT_6 9)), (11, (get tT_6 11)), (13, (get tT_6 13))] h48) (seqK (fun tT_7 h49 =>
enterK C F.model_Model_Copy [(get tT_7 9)] h49 fun t236 h50 =>
bothK (xmakeMap P T.map_string_bool none h50) fun t237 h51 =>
ms (fun k33 =>
L4 (get tT_7 3) (get tT_7 9) (get tT_7 11) (get tT_7 13) t236 (.slice none 0 0) t237 (.int .i64 0) h51 (blkK [13, 22, 23, 24] 8 k33)) (seqK (fun tT_8 h52 =>
ms (fun k34 =>
L5 (get tT_8 13) (get tT_8 22) (get tT_8 23) (get tT_8 24) (.int .i64 0) h52 (blkK [23] 10 k34)) (seqK (fun tT_9 h53 =>
ms (fun k35 =>
L7 (get tT_9 23) (.int .i64 1) h53 (blkK [] 14 k35)) (seqK (fun tT_10 h54 =>
enterK C F.law_known [] h54 fun t351 h55 =>
K0 .ret [(8, t351)] h55) K0)) K0)) K0)) K0)) K0)) K0)) K0)) K0)) K0)) K0)) K0)

noncomputable def s_law_CursorHolds_b0 (mg : GT) (mc : CT) (ms : ST) (P : Program) (C : CallF) (L0 : Value → Value → Value → Value → Value → Value → AHeap → K → Res) (L1 : Value → Value → Value → Value → Value → Value → Value → Value → Value → AHeap → K → Res) (L2 : Value → Value → Value → Value → Value → Value → AHeap → K → Res) (L3 : Value → Value → Value → Value → Value → AHeap → K → Res) (L4 : Value → Value → Value → Value → Value → Value → Value → Value → AHeap → K → Res) (L5 : Value → Value → Value → Value → Value → AHeap → K → Res) (L6 : Value → Value → Value → Value → Value → Value → Value → AHeap → K → Res) (L7 : Value → Value → AHeap → K → Res) (v0 : Value) (v1 : Value) (v2 : Value) (v3 : Value) (v9 : Value) (v10 : Value) (H : AHeap) (k : K) : Res :=
bareK (lenS v2) H fun t66 h23 =>
bareK (xbin P .lss T.int (.tmp 64) (.tmp 66) v10 t66) h23 fun t67 h24 =>
mc t67 (fun k19 => k19 .normal [(0, v0), (1, v1), (2, v2), (3, v3), (9, v9), (10, v10)] h24) (fun k19 =>
k19 (.exit 0) [(67, t67), (66, t66), (65, v2), (64, v10), (0, v0), (1, v1), (2, v2), (3, v3), (9, v9), (10, v10)] h24) (seqK (fun tT h25 =>
ms (fun k20 =>
bareK (ixS 3 (get tT 2) (get tT 10)) h25 fun t73 h26 =>
bareK (fad 1 t73) h26 fun t74 h27 =>
bareK (ld1 h27 t74) h27 fun t75 h28 =>
bareK (ixS 3 (get tT 2) (get tT 10)) h28 fun t78 h29 =>
bareK (fad 2 t78) h29 fun t79 h30 =>
bareK (ld1 h30 t79) h30 fun t80 h31 =>
enterK C F.model_Model_Put [(get tT 9), t75, t80] h31 fun t81 h32 =>
checkK true <|
k20 .normal [(0, (get tT 0)), (1, (get tT 1)), (2, (get tT 2)), (3, (get tT 3)), (9, (get tT 9)), (10, (get tT 10))] h32) (seqK (fun tT_1 h33 =>
bareK (xbin P .add T.int (.tmp 68) (.const (.int .i64 1)) (get tT_1 10) (.int .i64 1)) h33 fun t69 h34 =>
k .normal [(0, (get tT_1 0)), (1, (get tT_1 1)), (2, (get tT_1 2)), (3, (get tT_1 3)), (9, (get tT_1 9)), (10, t69)] h34) (afterK [0, 1, 2, 3, 9, 10] k))) (afterK [0, 1, 2, 3, 9, 10] k))

noncomputable def s_law_CursorHolds_b1 (mg : GT) (mc : CT) (ms : ST) (P : Program) (C : CallF) (L0 : Value → Value → Value → Value → Value → Value → AHeap → K → Res) (L1 : Value → Value → Value → Value → Value → Value → Value → Value → Value → AHeap → K → Res) (L2 : Value → Value → Value → Value → Value → Value → AHeap → K → Res) (L3 : Value → Value → Value → Value → Value → AHeap → K → Res) (L4 : Value → Value → Value → Value → Value → Value → Value → Value → AHeap → K → Res) (L5 : Value → Value → Value → Value → Value → AHeap → K → Res) (L6 : Value → Value → Value → Value → Value → Value → Value → AHeap → K → Res) (L7 : Value → Value → AHeap → K → Res) (v0 : Value) (v1 : Value) (v3 : Value) (v9 : Value) (v11 : Value) (v13 : Value) (v14 : Value) (v15 : Value) (v16 : Value) (H : AHeap) (k : K) : Res :=
bareK (lenS v15) H fun t98 h32 =>
bareK (xbin P .lss T.int (.tmp 96) (.tmp 98) v16 t98) h32 fun t99 h33 =>
mc t99 (fun k23 => k23 .normal [(0, v0), (1, v1), (3, v3), (9, v9), (11, v11), (13, v13), (14, v14), (15, v15), (16, v16)] h33) (fun k23 =>
k23 (.exit 2) [(99, t99), (98, t98), (97, v15), (96, v16), (0, v0), (1, v1), (3, v3), (9, v9), (11, v11), (13, v13), (14, v14), (15, v15), (16, v16)] h33) (seqK (fun tT h34 =>
ms (fun k24 =>
bareK (ixS 2 (get tT 15) (get tT 16)) h34 fun t104 h35 =>
bareK (fad 0 t104) h35 fun t105 h36 =>
bareK (ld1 h36 t105) h36 fun t106 h37 =>
bareK (xbin P .geq T.string (.tmp 106) (.tmp 107) t106 (get tT 0)) h37 fun t108 h38 =>
mg t108 true (fun o25 => o25 (get tT 1) h38) h38 fun t110 h39 =>
mg t108 true (fun o26 => bareK (xbin P .eql T.string (.tmp 110) (.const (.string (mk []))) t110 (.string (mk []))) h39 o26) h39 fun t111 h40 =>
mg t108 true (fun o27 => o27 t111 h40) h40 fun t112 h41 =>
mg t112 false (fun o28 => o28 (get tT 15) h41) h41 fun t113 h42 =>
mg t112 false (fun o29 => o29 (get tT 16) h42) h42 fun t114 h43 =>
mg t112 false (fun o30 => bareK (ixS 2 t113 t114) h43 o30) h43 fun t115 h44 =>
mg t112 false (fun o31 => bareK (fad 0 t115) h44 o31) h44 fun t116 h45 =>
mg t112 false (fun o32 => bareK (ld1 h45 t116) h45 o32) h45 fun t117 h46 =>
mg t112 false (fun o33 => o33 (get tT 1) h46) h46 fun t118 h47 =>
mg t112 false (fun o34 => bareK (xbin P .lss T.string (.tmp 117) (.tmp 118) t117 t118) h47 o34) h47 fun t119 h48 =>
mg t108 true (fun o35 => pickK t112 (.bool true) t119 fun v => o35 v h48) h48 fun t120 h49 =>
pickK t108 t120 (.bool false) fun t121 =>
mc t121 (fun k36 => bareK (ixS 2 (get tT 15) (get tT 16)) h49 fun t125 h50 =>
bareK (ldN 2 h50 t125) h50 fun t126 h51 =>
bothK (bldL T.api_Pair [(.string (mk [])), (.string (mk []))] 1 [(0, t126)] h51) fun t127 h52 =>
bothK (app T.api_Pair 2 32 (get tT 13) (srcS 2 t127 h52) h52) fun t128 h53 =>
k36 .normal [(0, (get tT 0)), (1, (get tT 1)), (3, (get tT 3)), (9, (get tT 9)), (11, (get tT 11)), (13, t128), (14, (get tT 14)), (15, (get tT 15)), (16, (get tT 16))] h53) (fun k36 =>
k36 .normal [(0, (get tT 0)), (1, (get tT 1)), (3, (get tT 3)), (9, (get tT 9)), (11, (get tT 11)), (13, (get tT 13)), (14, (get tT 14)), (15, (get tT 15)), (16, (get tT 16))] h49) (blkK [0, 1, 3, 9, 11, 13, 14, 15, 16] 3 k24)) (seqK (fun tT_1 h54 =>
bareK (xbin P .add T.int (.tmp 100) (.const (.int .i64 1)) (get tT_1 16) (.int .i64 1)) h54 fun t101 h55 =>
k .normal [(0, (get tT_1 0)), (1, (get tT_1 1)), (3, (get tT_1 3)), (9, (get tT_1 9)), (11, (get tT_1 11)), (13, (get tT_1 13)), (14, (get tT_1 14)), (15, (get tT_1 15)), (16, t101)] h55) (afterK [0, 1, 3, 9, 11, 13, 14, 15, 16] k))) (afterK [0, 1, 3, 9, 11, 13, 14, 15, 16] k))

noncomputable def s_law_CursorHolds_b2 (mg : GT) (mc : CT) (ms : ST) (P : Program) (C : CallF) (L0 : Value → Value → Value → Value → Value → Value → AHeap → K → Res) (L1 : Value → Value → Value → Value → Value → Value → Value → Value → Value → AHeap → K → Res) (L2 : Value → Value → Value → Value → Value → Value → AHeap → K → Res) (L3 : Value → Value → Value → Value → Value → AHeap → K → Res) (L4 : Value → Value → Value → Value → Value → Value → Value → Value → AHeap → K → Res) (L5 : Value → Value → Value → Value → Value → AHeap → K → Res) (L6 : Value → Value → Value → Value → Value → Value → Value → AHeap → K → Res) (L7 : Value → Value → AHeap → K → Res) (v3 : Value) (v9 : Value) (v11 : Value) (v13 : Value) (v14 : Value) (v17 : Value) (H : AHeap) (k : K) : Res :=
bareK (lenS v13) H fun t131 h33 =>
bareK (xbin P .leq T.int (.tmp 129) (.tmp 131) v17 t131) h33 fun t132 h34 =>
mc t132 (fun k24 => k24 .normal [(3, v3), (9, v9), (11, v11), (13, v13), (14, v14), (17, v17)] h34) (fun k24 =>
k24 (.exit 4) [(132, t132), (131, t131), (130, v13), (129, v17), (3, v3), (9, v9), (11, v11), (13, v13), (14, v14), (17, v17)] h34) (seqK (fun tT h35 =>
ms (fun k25 =>
enterK C F.cursor_Cursor_Next [(get tT 11), (get tT 9)] h35 fun t138 h36 =>
bareK (xextract t138 0) h36 fun t139 h37 =>
bareK (xextract t138 1) h37 fun t140 h38 =>
bothK (newv T.api_Pair (.agg #[(.string (mk [])), (.string (mk []))]) h38) fun t18 h39 =>
quietK (stN 2 h39 t18 t139) fun _ h40 =>
bareK (xbin P .eql T.api_Errno (.tmp 141) (.const (.int .i64 17)) t140 (.int .i64 17)) h40 fun t142 h41 =>
mc t142 (fun k26 => k26 (.exit 4) ((142, t142) :: (141, t140) :: (19, t140) :: (18, t18) :: (140, t140) :: (139, t139) :: (135, t138) :: (138, t138) :: (137, (get tT 9)) :: (136, (get tT 11)) :: tT) h41) (fun k26 =>
k26 .normal [(3, (get tT 3)), (9, (get tT 9)), (11, (get tT 11)), (13, (get tT 13)), (14, (get tT 14)), (17, (get tT 17)), (18, t18), (19, t140)] h41) (seqK (fun tT_1 h42 =>
bareK (xbin P .neq T.api_Errno (.tmp 143) (.const (.int .i64 0)) (get tT_1 19) (.int .i64 0)) h42 fun t144 h43 =>
mg t144 false (fun o27 => o27 (get tT_1 17) h43) h43 fun t146 h44 =>
mg t144 false (fun o28 => o28 (get tT_1 13) h44) h44 fun t147 h45 =>
mg t144 false (fun o29 => bareK (lenS t147) h45 o29) h45 fun t148 h46 =>
mg t144 false (fun o30 => bareK (xbin P .geq T.int (.tmp 146) (.tmp 148) t146 t148) h46 o30) h46 fun t149 h47 =>
pickK t144 (.bool true) t149 fun t150 =>
mg t150 false (fun o31 => bareK (ldN 2 h47 (get tT_1 18)) h47 o31) h47 fun t152 h48 =>
mg t150 false (fun o32 => o32 (get tT_1 13) h48) h48 fun t153 h49 =>
mg t150 false (fun o33 => o33 (get tT_1 17) h49) h49 fun t154 h50 =>
mg t150 false (fun o34 => bareK (ixS 2 t153 t154) h50 o34) h50 fun t155 h51 =>
mg t150 false (fun o35 => bareK (ldN 2 h51 t155) h51 o35) h51 fun t156 h52 =>
mg t150 false (fun o36 => bareK (xbin P .neq T.api_Pair (.tmp 152) (.tmp 156) t152 t156) h52 o36) h52 fun t157 h53 =>
pickK t150 (.bool true) t157 fun t158 =>
checkK true <|
mc t158 (fun k37 => k37 .ret [(8, (.bool false))] h53) (fun k37 =>
k37 .normal [(3, (get tT_1 3)), (9, (get tT_1 9)), (11, (get tT_1 11)), (13, (get tT_1 13)), (14, (get tT_1 14)), (17, (get tT_1 17)), (18, (get tT_1 18))] h53) (seqK (fun tT_2 h54 =>
enterK C F.cursor_Cursor_Copy [(get tT_2 11)] h54 fun t160 h55 =>
bareK (xbin P .gtr T.int (.tmp 161) (.const (.int .i64 0)) (get tT_2 17) (.int .i64 0)) h55 fun t162 h56 =>
mg t162 true (fun o38 => o38 t160 h56) h56 fun t164 h57 =>
mg t162 true (fun o39 => o39 (get tT_2 9) h57) h57 fun t165 h58 =>
mg t162 true (fun o40 => o40 (get tT_2 13) h58) h58 fun t166 h59 =>
mg t162 true (fun o41 => o41 (get tT_2 17) h59) h59 fun t167 h60 =>
mg t162 true (fun o42 => bareK (xbin P .sub T.int (.tmp 167) (.const (.int .i64 1)) t167 (.int .i64 1)) h60 o42) h60 fun t168 h61 =>
mg t162 true (fun o43 => bareK (ixS 2 t166 t168) h61 o43) h61 fun t169 h62 =>
mg t162 true (fun o44 => bareK (fad 0 t169) h62 o44) h62 fun t170 h63 =>
mg t162 true (fun o45 => bareK (ld1 h63 t170) h63 o45) h63 fun t171 h64 =>
mg t162 true (fun o46 => o46 (get tT_2 13) h64) h64 fun t172 h65 =>
mg t162 true (fun o47 => o47 (get tT_2 17) h65) h65 fun t173 h66 =>
mg t162 true (fun o48 => bareK (xbin P .sub T.int (.tmp 173) (.const (.int .i64 1)) t173 (.int .i64 1)) h66 o48) h66 fun t174 h67 =>
mg t162 true (fun o49 => bareK (ixS 2 t172 t174) h67 o49) h67 fun t175 h68 =>
mg t162 true (fun o50 => bareK (fad 1 t175) h68 o50) h68 fun t176 h69 =>
mg t162 true (fun o51 => bareK (ld1 h69 t176) h69 o51) h69 fun t177 h70 =>
mg t162 true (fun o52 => enterK C F.law_prev [t164, t165, t171, t177, (.int .i64 0)] h70 o52) h70 fun t178 h71 =>
mg t162 true (fun o53 => bareK (xun P .not t178) h71 o53) h71 fun t179 h72 =>
mg t162 true (fun o54 => o54 t179 h72) h72 fun t180 h73 =>
mg t180 false (fun o55 => o55 t160 h73) h73 fun t181 h74 =>
mg t180 false (fun o56 => o56 (get tT_2 9) h74) h74 fun t182 h75 =>
mg t180 false (fun o57 => bareK (fad 0 (get tT_2 18)) h75 o57) h75 fun t183 h76 =>
mg t180 false (fun o58 => bareK (ld1 h76 t183) h76 o58) h76 fun t184 h77 =>
mg t180 false (fun o59 => bareK (fad 1 (get tT_2 18)) h77 o59) h77 fun t185 h78 =>
mg t180 false (fun o60 => bareK (ld1 h78 t185) h78 o60) h78 fun t186 h79 =>
mg t180 false (fun o61 => enterK C F.law_next [t181, t182, t184, t186, (.int .i64 0)] h79 o61) h79 fun t187 h80 =>
mg t180 false (fun o62 => bareK (xun P .not t187) h80 o62) h80 fun t188 h81 =>
mg t162 true (fun o63 => pickK t180 (.bool true) t188 fun v => o63 v h81) h81 fun t189 h82 =>
pickK t162 t189 (.bool false) fun t190 =>
checkK true <|
mc t190 (fun k64 => k64 .ret [(8, (.bool false))] h82) (fun k64 =>
k64 .normal [(3, (get tT_2 3)), (9, (get tT_2 9)), (11, (get tT_2 11)), (13, (get tT_2 13)), (14, (get tT_2 14)), (17, (get tT_2 17)), (18, (get tT_2 18))] h82) (seqK (fun tT_3 h83 =>
bareK (ldN 2 h83 (get tT_3 18)) h83 fun t192 h84 =>
bothK (bldL T.api_Pair [(.string (mk [])), (.string (mk []))] 1 [(0, t192)] h84) fun t193 h85 =>
bothK (app T.api_Pair 2 32 (get tT_3 14) (srcS 2 t193 h85) h85) fun t194 h86 =>
k25 .normal [(3, (get tT_3 3)), (9, (get tT_3 9)), (11, (get tT_3 11)), (13, (get tT_3 13)), (14, t194), (17, (get tT_3 17))] h86) (blkK [3, 9, 11, 13, 14, 17] 5 k25))) (blkK [3, 9, 11, 13, 14, 17] 5 k25))) (blkK [3, 9, 11, 13, 14, 17] 5 k25))) (seqK (fun tT_4 h87 =>
bareK (xbin P .add T.int (.tmp 133) (.const (.int .i64 1)) (get tT_4 17) (.int .i64 1)) h87 fun t134 h88 =>
k .normal [(3, (get tT_4 3)), (9, (get tT_4 9)), (11, (get tT_4 11)), (13, (get tT_4 13)), (14, (get tT_4 14)), (17, t134)] h88) (afterK [3, 9, 11, 13, 14, 17] k))) (afterK [3, 9, 11, 13, 14, 17] k))

noncomputable def s_law_CursorHolds_b3 (mg : GT) (mc : CT) (ms : ST) (P : Program) (C : CallF) (L0 : Value → Value → Value → Value → Value → Value → AHeap → K → Res) (L1 : Value → Value → Value → Value → Value → Value → Value → Value → Value → AHeap → K → Res) (L2 : Value → Value → Value → Value → Value → Value → AHeap → K → Res) (L3 : Value → Value → Value → Value → Value → AHeap → K → Res) (L4 : Value → Value → Value → Value → Value → Value → Value → Value → AHeap → K → Res) (L5 : Value → Value → Value → Value → Value → AHeap → K → Res) (L6 : Value → Value → Value → Value → Value → Value → Value → AHeap → K → Res) (L7 : Value → Value → AHeap → K → Res) (v3 : Value) (v9 : Value) (v11 : Value) (v13 : Value) (v21 : Value) (H : AHeap) (k : K) : Res :=
bareK (xbin P .geq T.int (.tmp 208) (.const (.int .i64 0)) v21 (.int .i64 0)) H fun t209 h43 =>
mc t209 (fun k29 => k29 .normal [(3, v3), (9, v9), (11, v11), (13, v13), (21, v21)] h43) (fun k29 =>
k29 (.exit 6) [(209, t209), (208, v21), (3, v3), (9, v9), (11, v11), (13, v13), (21, v21)] h43) (seqK (fun tT h44 =>
ms (fun k30 =>
bareK (ixS 2 (get tT 13) (get tT 21)) h44 fun t216 h45 =>
bareK (fad 0 t216) h45 fun t217 h46 =>
bareK (ld1 h46 t217) h46 fun t218 h47 =>
bareK (ixS 2 (get tT 13) (get tT 21)) h47 fun t221 h48 =>
bareK (fad 1 t221) h48 fun t222 h49 =>
bareK (ld1 h49 t222) h49 fun t223 h50 =>
enterK C F.law_prev [(get tT 11), (get tT 9), t218, t223, (.int .i64 0)] h50 fun t224 h51 =>
bareK (xun P .not t224) h51 fun t225 h52 =>
checkK true <|
mc t225 (fun k31 => k31 .ret [(8, (.bool false))] h52) (fun k31 =>
k31 .normal [(3, (get tT 3)), (9, (get tT 9)), (11, (get tT 11)), (13, (get tT 13)), (21, (get tT 21))] h52) (blkK [3, 9, 11, 13, 21] 7 k30)) (seqK (fun tT_1 h53 =>
bareK (xbin P .sub T.int (.tmp 210) (.const (.int .i64 1)) (get tT_1 21) (.int .i64 1)) h53 fun t211 h54 =>
k .normal [(3, (get tT_1 3)), (9, (get tT_1 9)), (11, (get tT_1 11)), (13, (get tT_1 13)), (21, t211)] h54) (afterK [3, 9, 11, 13, 21] k))) (afterK [3, 9, 11, 13, 21] k))

noncomputable def s_law_CursorHolds_b4 (mg : GT) (mc : CT) (ms : ST) (P : Program) (C : CallF) (L0 : Value → Value → Value → Value → Value → Value → AHeap → K → Res) (L1 : Value → Value → Value → Value → Value → Value → Value → Value → Value → AHeap → K → Res) (L2 : Value → Value → Value → Value → Value → Value → AHeap → K → Res) (L3 : Value → Value → Value → Value → Value → AHeap → K → Res) (L4 : Value → Value → Value → Value → Value → Value → Value → Value → AHeap → K → Res) (L5 : Value → Value → Value → Value → Value → AHeap → K → Res) (L6 : Value → Value → Value → Value → Value → Value → Value → AHeap → K → Res) (L7 : Value → Value → AHeap → K → Res) (v3 : Value) (v9 : Value) (v11 : Value) (v13 : Value) (v22 : Value) (v23 : Value) (v24 : Value) (v25 : Value) (H : AHeap) (k : K) : Res :=
bareK (xbin P .lss T.int (.tmp 238) (.const (.int .i64 64)) v25 (.int .i64 64)) H fun t239 h52 =>
mc t239 (fun k34 => k34 .normal [(3, v3), (9, v9), (11, v11), (13, v13), (22, v22), (23, v23), (24, v24), (25, v25)] h52) (fun k34 =>
k34 (.exit 8) [(239, t239), (238, v25), (3, v3), (9, v9), (11, v11), (13, v13), (22, v22), (23, v23), (24, v24), (25, v25)] h52) (seqK (fun tT h53 =>
ms (fun k35 =>
enterK C F.cursor_Cursor_Next [(get tT 11), (get tT 9)] h53 fun t245 h54 =>
bareK (xextract t245 0) h54 fun t246 h55 =>
bareK (xextract t245 1) h55 fun t247 h56 =>
bothK (newv T.api_Pair (.agg #[(.string (mk [])), (.string (mk []))]) h56) fun t26 h57 =>
quietK (stN 2 h57 t26 t246) fun _ h58 =>
bareK (xbin P .neq T.api_Errno (.tmp 248) (.const (.int .i64 0)) t247 (.int .i64 0)) h58 fun t249 h59 =>
mc t249 (fun k36 => k36 (.exit 8) ((249, t249) :: (248, t247) :: (27, t247) :: (26, t26) :: (247, t247) :: (246, t246) :: (242, t245) :: (245, t245) :: (244, (get tT 9)) :: (243, (get tT 11)) :: tT) h59) (fun k36 =>
k36 .normal [(3, (get tT 3)), (9, (get tT 9)), (11, (get tT 11)), (13, (get tT 13)), (22, (get tT 22)), (23, (get tT 23)), (24, (get tT 24)), (25, (get tT 25)), (26, t26)] h59) (seqK (fun tT_1 h60 =>
bareK (fad 0 (get tT_1 26)) h60 fun t251 h61 =>
bareK (ld1 h61 t251) h61 fun t252 h62 =>
bothK (bldL T.string [(.string (mk []))] 1 [(0, t252)] h62) fun t253 h63 =>
bothK (app T.string 1 16 (get tT_1 23) (srcS 1 t253 h63) h63) fun t254 h64 =>
bareK (lenS (get tT_1 3)) h64 fun t257 h65 =>
bareK (xbin P .lss T.int (.tmp 255) (.tmp 257) (get tT_1 25) t257) h65 fun t258 h66 =>
mc t258 (fun k37 => bareK (ixS 3 (get tT_1 3) (get tT_1 25)) h66 fun t262 h67 =>
bareK (fad 1 t262) h67 fun t263 h68 =>
bareK (ld1 h68 t263) h68 fun t264 h69 =>
quietK (xmapUpdate P T.map_string_bool (get tT_1 24) t264 (.bool true) h69) fun _ h70 =>
bareK (ixS 3 (get tT_1 3) (get tT_1 25)) h70 fun t267 h71 =>
bareK (fad 0 t267) h71 fun t268 h72 =>
bareK (ld1 h72 t268) h72 fun t269 h73 =>
bareK (xbin P .eql T.int (.tmp 269) (.const (.int .i64 3)) t269 (.int .i64 3)) h73 fun t270 h74 =>
mc t270 (fun k38 => bareK (ixS 3 (get tT_1 3) (get tT_1 25)) h74 fun t274 h75 =>
bareK (fad 1 t274) h75 fun t275 h76 =>
bareK (ld1 h76 t275) h76 fun t276 h77 =>
bareK (ixS 3 (get tT_1 3) (get tT_1 25)) h77 fun t279 h78 =>
bareK (fad 2 t279) h78 fun t280 h79 =>
bareK (ld1 h79 t280) h79 fun t281 h80 =>
enterK C F.model_Model_Put [(get tT_1 9), t276, t281] h80 fun t282 h81 =>
checkK true <|
k38 .normal [(3, (get tT_1 3)), (9, (get tT_1 9)), (11, (get tT_1 11)), (13, (get tT_1 13)), (22, (get tT_1 22)), (23, t254), (24, (get tT_1 24)), (25, (get tT_1 25))] h81) (fun k38 =>
bareK (ixS 3 (get tT_1 3) (get tT_1 25)) h74 fun t286 h82 =>
bareK (fad 1 t286) h82 fun t287 h83 =>
bareK (ld1 h83 t287) h83 fun t288 h84 =>
enterK C F.model_Model_Delete [(get tT_1 9), t288] h84 fun t289 h85 =>
k38 .normal [(3, (get tT_1 3)), (9, (get tT_1 9)), (11, (get tT_1 11)), (13, (get tT_1 13)), (22, (get tT_1 22)), (23, t254), (24, (get tT_1 24)), (25, (get tT_1 25))] h85) (afterK [3, 9, 11, 13, 22, 23, 24, 25] k37)) (fun k37 =>
k37 .normal [(3, (get tT_1 3)), (9, (get tT_1 9)), (11, (get tT_1 11)), (13, (get tT_1 13)), (22, (get tT_1 22)), (23, t254), (24, (get tT_1 24)), (25, (get tT_1 25))] h66) (blkK [3, 9, 11, 13, 22, 23, 24, 25] 9 k35)) (blkK [3, 9, 11, 13, 22, 23, 24, 25] 9 k35))) (seqK (fun tT_2 h86 =>
bareK (xbin P .add T.int (.tmp 240) (.const (.int .i64 1)) (get tT_2 25) (.int .i64 1)) h86 fun t241 h87 =>
k .normal [(3, (get tT_2 3)), (9, (get tT_2 9)), (11, (get tT_2 11)), (13, (get tT_2 13)), (22, (get tT_2 22)), (23, (get tT_2 23)), (24, (get tT_2 24)), (25, t241)] h87) (afterK [3, 9, 11, 13, 22, 23, 24, 25] k))) (afterK [3, 9, 11, 13, 22, 23, 24, 25] k))

noncomputable def s_law_CursorHolds_b5 (mg : GT) (mc : CT) (ms : ST) (P : Program) (C : CallF) (L0 : Value → Value → Value → Value → Value → Value → AHeap → K → Res) (L1 : Value → Value → Value → Value → Value → Value → Value → Value → Value → AHeap → K → Res) (L2 : Value → Value → Value → Value → Value → Value → AHeap → K → Res) (L3 : Value → Value → Value → Value → Value → AHeap → K → Res) (L4 : Value → Value → Value → Value → Value → Value → Value → Value → AHeap → K → Res) (L5 : Value → Value → Value → Value → Value → AHeap → K → Res) (L6 : Value → Value → Value → Value → Value → Value → Value → AHeap → K → Res) (L7 : Value → Value → AHeap → K → Res) (v13 : Value) (v22 : Value) (v23 : Value) (v24 : Value) (v28 : Value) (H : AHeap) (k : K) : Res :=
bareK (lenS v13) H fun t292 h53 =>
bareK (xbin P .lss T.int (.tmp 290) (.tmp 292) v28 t292) h53 fun t293 h54 =>
mc t293 (fun k35 => k35 .normal [(13, v13), (22, v22), (23, v23), (24, v24), (28, v28)] h54) (fun k35 =>
k35 (.exit 10) [(293, t293), (292, t292), (291, v13), (290, v28), (13, v13), (22, v22), (23, v23), (24, v24), (28, v28)] h54) (seqK (fun tT h55 =>
ms (fun k36 =>
bareK (ixS 2 (get tT 13) (get tT 28)) h55 fun t299 h56 =>
bareK (fad 0 t299) h56 fun t300 h57 =>
bareK (ld1 h57 t300) h57 fun t301 h58 =>
bareK (xlookup P T.map_string_bool (get tT 24) t301 false h58) h58 fun t302 h59 =>
mc t302 (fun k37 => k37 (.exit 11) ((302, t302) :: (301, t301) :: (300, t300) :: (299, t299) :: (298, (get tT 28)) :: (297, (get tT 13)) :: (296, (get tT 24)) :: tT) h59) (fun k37 =>
k37 .normal [(13, (get tT 13)), (22, (get tT 22)), (23, (get tT 23)), (24, (get tT 24)), (28, (get tT 28))] h59) (seqK (fun tT_1 h60 =>
bareK (ixS 2 (get tT_1 13) (get tT_1 28)) h60 fun t307 h61 =>
bareK (fad 0 t307) h61 fun t308 h62 =>
bareK (ld1 h62 t308) h62 fun t309 h63 =>
enterK C F.model_Model_Get [(get tT_1 22), t309] h63 fun t310 h64 =>
bareK (xextract t310 0) h64 fun t311 h65 =>
bareK (xextract t310 1) h65 fun t312 h66 =>
bareK (xbin P .neq T.api_Errno (.tmp 313) (.const (.int .i64 0)) t312 (.int .i64 0)) h66 fun t314 h67 =>
mc t314 (fun k38 => k38 .ret [(8, (.bool false))] h67) (fun k38 =>
k38 .normal [(13, (get tT_1 13)), (22, (get tT_1 22)), (23, (get tT_1 23)), (24, (get tT_1 24)), (28, (get tT_1 28))] h67) (seqK (fun tT_2 h68 =>
ms (fun k39 =>
L6 (get tT_2 13) (get tT_2 22) (get tT_2 23) (get tT_2 24) (get tT_2 28) (.int .i64 0) (.int .i64 0) h68 (blkK [13, 22, 23, 24, 28, 31] 12 k39)) (seqK (fun tT_3 h69 =>
bareK (xbin P .neq T.int (.tmp 333) (.const (.int .i64 1)) (get tT_3 31) (.int .i64 1)) h69 fun t334 h70 =>
mc t334 (fun k40 => k40 .ret [(8, (.bool false))] h70) (fun k40 =>
k40 .normal [(13, (get tT_3 13)), (22, (get tT_3 22)), (23, (get tT_3 23)), (24, (get tT_3 24)), (28, (get tT_3 28))] h70) (blkK [13, 22, 23, 24, 28] 11 k36)) (blkK [13, 22, 23, 24, 28] 11 k36))) (blkK [13, 22, 23, 24, 28] 11 k36))) (blkK [13, 22, 23, 24, 28] 11 k36))) (seqK (fun tT_4 h71 =>
bareK (xbin P .add T.int (.tmp 294) (.const (.int .i64 1)) (get tT_4 28) (.int .i64 1)) h71 fun t295 h72 =>
k .normal [(13, (get tT_4 13)), (22, (get tT_4 22)), (23, (get tT_4 23)), (24, (get tT_4 24)), (28, t295)] h72) (afterK [13, 22, 23, 24, 28] k))) (afterK [13, 22, 23, 24, 28] k))

noncomputable def s_law_CursorHolds_b6 (mg : GT) (mc : CT) (ms : ST) (P : Program) (C : CallF) (L0 : Value → Value → Value → Value → Value → Value → AHeap → K → Res) (L1 : Value → Value → Value → Value → Value → Value → Value → Value → Value → AHeap → K → Res) (L2 : Value → Value → Value → Value → Value → Value → AHeap → K → Res) (L3 : Value → Value → Value → Value → Value → AHeap → K → Res) (L4 : Value → Value → Value → Value → Value → Value → Value → Value → AHeap → K → Res) (L5 : Value → Value → Value → Value → Value → AHeap → K → Res) (L6 : Value → Value → Value → Value → Value → Value → Value → AHeap → K → Res) (L7 : Value → Value → AHeap → K → Res) (v13 : Value) (v22 : Value) (v23 : Value) (v24 : Value) (v28 : Value) (v31 : Value) (v32 : Value) (H : AHeap) (k : K) : Res :=
bareK (lenS v23) H fun t317 h69 =>
bareK (xbin P .lss T.int (.tmp 315) (.tmp 317) v32 t317) h69 fun t318 h70 =>
mc t318 (fun k40 => k40 .normal [(13, v13), (22, v22), (23, v23), (24, v24), (28, v28), (31, v31), (32, v32)] h70) (fun k40 =>
k40 (.exit 12) [(318, t318), (317, t317), (316, v23), (315, v32), (13, v13), (22, v22), (23, v23), (24, v24), (28, v28), (31, v31), (32, v32)] h70) (seqK (fun tT h71 =>
ms (fun k41 =>
bareK (ixS 1 (get tT 23) (get tT 32)) h71 fun t323 h72 =>
bareK (ld1 h72 t323) h72 fun t324 h73 =>
bareK (ixS 2 (get tT 13) (get tT 28)) h73 fun t327 h74 =>
bareK (fad 0 t327) h74 fun t328 h75 =>
bareK (ld1 h75 t328) h75 fun t329 h76 =>
bareK (xbin P .eql T.string (.tmp 324) (.tmp 329) t324 t329) h76 fun t330 h77 =>
checkK true <|
mc t330 (fun k42 => bareK (xbin P .add T.int (.tmp 331) (.const (.int .i64 1)) (get tT 31) (.int .i64 1)) h77 fun t332 h78 =>
k42 .normal [(13, (get tT 13)), (22, (get tT 22)), (23, (get tT 23)), (24, (get tT 24)), (28, (get tT 28)), (31, t332), (32, (get tT 32))] h78) (fun k42 =>
k42 .normal [(13, (get tT 13)), (22, (get tT 22)), (23, (get tT 23)), (24, (get tT 24)), (28, (get tT 28)), (31, (get tT 31)), (32, (get tT 32))] h77) (blkK [13, 22, 23, 24, 28, 31, 32] 13 k41)) (seqK (fun tT_1 h79 =>
bareK (xbin P .add T.int (.tmp 319) (.const (.int .i64 1)) (get tT_1 32) (.int .i64 1)) h79 fun t320 h80 =>
k .normal [(13, (get tT_1 13)), (22, (get tT_1 22)), (23, (get tT_1 23)), (24, (get tT_1 24)), (28, (get tT_1 28)), (31, (get tT_1 31)), (32, t320)] h80) (afterK [13, 22, 23, 24, 28, 31, 32] k))) (afterK [13, 22, 23, 24, 28, 31, 32] k))

noncomputable def s_law_CursorHolds_b7 (mg : GT) (mc : CT) (ms : ST) (P : Program) (C : CallF) (L0 : Value → Value → Value → Value → Value → Value → AHeap → K → Res) (L1 : Value → Value → Value → Value → Value → Value → Value → Value → Value → AHeap → K → Res) (L2 : Value → Value → Value → Value → Value → Value → AHeap → K → Res) (L3 : Value → Value → Value → Value → Value → AHeap → K → Res) (L4 : Value → Value → Value → Value → Value → Value → Value → Value → AHeap → K → Res) (L5 : Value → Value → Value → Value → Value → AHeap → K → Res) (L6 : Value → Value → Value → Value → Value → Value → Value → AHeap → K → Res) (L7 : Value → Value → AHeap → K → Res) (v23 : Value) (v33 : Value) (H : AHeap) (k : K) : Res :=
bareK (lenS v23) H fun t337 h54 =>
bareK (xbin P .lss T.int (.tmp 335) (.tmp 337) v33 t337) h54 fun t338 h55 =>
mc t338 (fun k36 => k36 .normal [(23, v23), (33, v33)] h55) (fun k36 =>
k36 (.exit 14) [(338, t338), (337, t337), (336, v23), (335, v33), (23, v23), (33, v33)] h55) (seqK (fun tT h56 =>
ms (fun k37 =>
bareK (ixS 1 (get tT 23) (get tT 33)) h56 fun t343 h57 =>
bareK (ld1 h57 t343) h57 fun t344 h58 =>
bareK (xbin P .sub T.int (.tmp 346) (.const (.int .i64 1)) (get tT 33) (.int .i64 1)) h58 fun t347 h59 =>
bareK (ixS 1 (get tT 23) t347) h59 fun t348 h60 =>
bareK (ld1 h60 t348) h60 fun t349 h61 =>
bareK (xbin P .leq T.string (.tmp 344) (.tmp 349) t344 t349) h61 fun t350 h62 =>
checkK true <|
mc t350 (fun k38 => k38 .ret [(8, (.bool false))] h62) (fun k38 =>
k38 .normal [(23, (get tT 23)), (33, (get tT 33))] h62) (blkK [23, 33] 15 k37)) (seqK (fun tT_1 h63 =>
bareK (xbin P .add T.int (.tmp 339) (.const (.int .i64 1)) (get tT_1 33) (.int .i64 1)) h63 fun t340 h64 =>
k .normal [(23, (get tT_1 23)), (33, t340)] h64) (afterK [23, 33] k))) (afterK [23, 33] k))

theorem s_law_CursorHolds_eq (M : CombL) (C : CallF) (LP : LoopH) (a0 : Value) (a1 : Value) (a2 : Value) (a3 : Value) (H : AHeap) : dBodyL M Try.prog hints C LP F.law_CursorHolds [a0, a1, a2, a3] H = s_law_CursorHolds M.b.g M.c M.s Try.prog C (fun v0 v1 v2 v3 v9 v10 H k => loopL M Try.prog hints C LP F.law_CursorHolds 0 [(0, v0), (1, v1), (2, v2), (3, v3), (9, v9), (10, v10)] H k) (fun v0 v1 v3 v9 v11 v13 v14 v15 v16 H k => loopL M Try.prog hints C LP F.law_CursorHolds 1 [(0, v0), (1, v1), (3, v3), (9, v9), (11, v11), (13, v13), (14, v14), (15, v15), (16, v16)] H k) (fun v3 v9 v11 v13 v14 v17 H k => loopL M Try.prog hints C LP F.law_CursorHolds 2 [(3, v3), (9, v9), (11, v11), (13, v13), (14, v14), (17, v17)] H k) (fun v3 v9 v11 v13 v21 H k => loopL M Try.prog hints C LP F.law_CursorHolds 3 [(3, v3), (9, v9), (11, v11), (13, v13), (21, v21)] H k) (fun v3 v9 v11 v13 v22 v23 v24 v25 H k => loopL M Try.prog hints C LP F.law_CursorHolds 4 [(3, v3), (9, v9), (11, v11), (13, v13), (22, v22), (23, v23), (24, v24), (25, v25)] H k) (fun v13 v22 v23 v24 v28 H k => loopL M Try.prog hints C LP F.law_CursorHolds 5 [(13, v13), (22, v22), (23, v23), (24, v24), (28, v28)] H k) (fun v13 v22 v23 v24 v28 v31 v32 H k => loopL M Try.prog hints C LP F.law_CursorHolds 6 [(13, v13), (22, v22), (23, v23), (24, v24), (28, v28), (31, v31), (32, v32)] H k) (fun v23 v33 H k => loopL M Try.prog hints C LP F.law_CursorHolds 7 [(23, v23), (33, v33)] H k) a0 a1 a2 a3 H (endK Try.prog [.tmp 8]) := by kernel_rfl

theorem s_law_CursorHolds_b0_eq (M : CombL) (C : CallF) (LP : LoopH) (v0 : Value) (v1 : Value) (v2 : Value) (v3 : Value) (v9 : Value) (v10 : Value) (H : AHeap) (k : K) : bodyL M Try.prog hints C LP F.law_CursorHolds 0 [(0, v0), (1, v1), (2, v2), (3, v3), (9, v9), (10, v10)] H (afterK [0, 1, 2, 3, 9, 10] k) = s_law_CursorHolds_b0 M.b.g M.c M.s Try.prog C (fun v0 v1 v2 v3 v9 v10 H k => loopL M Try.prog hints C LP F.law_CursorHolds 0 [(0, v0), (1, v1), (2, v2), (3, v3), (9, v9), (10, v10)] H k) (fun v0 v1 v3 v9 v11 v13 v14 v15 v16 H k => loopL M Try.prog hints C LP F.law_CursorHolds 1 [(0, v0), (1, v1), (3, v3), (9, v9), (11, v11), (13, v13), (14, v14), (15, v15), (16, v16)] H k) (fun v3 v9 v11 v13 v14 v17 H k => loopL M Try.prog hints C LP F.law_CursorHolds 2 [(3, v3), (9, v9), (11, v11), (13, v13), (14, v14), (17, v17)] H k) (fun v3 v9 v11 v13 v21 H k => loopL M Try.prog hints C LP F.law_CursorHolds 3 [(3, v3), (9, v9), (11, v11), (13, v13), (21, v21)] H k) (fun v3 v9 v11 v13 v22 v23 v24 v25 H k => loopL M Try.prog hints C LP F.law_CursorHolds 4 [(3, v3), (9, v9), (11, v11), (13, v13), (22, v22), (23, v23), (24, v24), (25, v25)] H k) (fun v13 v22 v23 v24 v28 H k => loopL M Try.prog hints C LP F.law_CursorHolds 5 [(13, v13), (22, v22), (23, v23), (24, v24), (28, v28)] H k) (fun v13 v22 v23 v24 v28 v31 v32 H k => loopL M Try.prog hints C LP F.law_CursorHolds 6 [(13, v13), (22, v22), (23, v23), (24, v24), (28, v28), (31, v31), (32, v32)] H k) (fun v23 v33 H k => loopL M Try.prog hints C LP F.law_CursorHolds 7 [(23, v23), (33, v33)] H k) v0 v1 v2 v3 v9 v10 H k := by kernel_rfl

theorem s_law_CursorHolds_b1_eq (M : CombL) (C : CallF) (LP : LoopH) (v0 : Value) (v1 : Value) (v3 : Value) (v9 : Value) (v11 : Value) (v13 : Value) (v14 : Value) (v15 : Value) (v16 : Value) (H : AHeap) (k : K) : bodyL M Try.prog hints C LP F.law_CursorHolds 1 [(0, v0), (1, v1), (3, v3), (9, v9), (11, v11), (13, v13), (14, v14), (15, v15), (16, v16)] H (afterK [0, 1, 3, 9, 11, 13, 14, 15, 16] k) = s_law_CursorHolds_b1 M.b.g M.c M.s Try.prog C (fun v0 v1 v2 v3 v9 v10 H k => loopL M Try.prog hints C LP F.law_CursorHolds 0 [(0, v0), (1, v1), (2, v2), (3, v3), (9, v9), (10, v10)] H k) (fun v0 v1 v3 v9 v11 v13 v14 v15 v16 H k => loopL M Try.prog hints C LP F.law_CursorHolds 1 [(0, v0), (1, v1), (3, v3), (9, v9), (11, v11), (13, v13), (14, v14), (15, v15), (16, v16)] H k) (fun v3 v9 v11 v13 v14 v17 H k => loopL M Try.prog hints C LP F.law_CursorHolds 2 [(3, v3), (9, v9), (11, v11), (13, v13), (14, v14), (17, v17)] H k) (fun v3 v9 v11 v13 v21 H k => loopL M Try.prog hints C LP F.law_CursorHolds 3 [(3, v3), (9, v9), (11, v11), (13, v13), (21, v21)] H k) (fun v3 v9 v11 v13 v22 v23 v24 v25 H k => loopL M Try.prog hints C LP F.law_CursorHolds 4 [(3, v3), (9, v9), (11, v11), (13, v13), (22, v22), (23, v23), (24, v24), (25, v25)] H k) (fun v13 v22 v23 v24 v28 H k => loopL M Try.prog hints C LP F.law_CursorHolds 5 [(13, v13), (22, v22), (23, v23), (24, v24), (28, v28)] H k) (fun v13 v22 v23 v24 v28 v31 v32 H k => loopL M Try.prog hints C LP F.law_CursorHolds 6 [(13, v13), (22, v22), (23, v23), (24, v24), (28, v28), (31, v31), (32, v32)] H k) (fun v23 v33 H k => loopL M Try.prog hints C LP F.law_CursorHolds 7 [(23, v23), (33, v33)] H k) v0 v1 v3 v9 v11 v13 v14 v15 v16 H k := by kernel_rfl

theorem s_law_CursorHolds_b2_eq (M : CombL) (C : CallF) (LP : LoopH) (v3 : Value) (v9 : Value) (v11 : Value) (v13 : Value) (v14 : Value) (v17 : Value) (H : AHeap) (k : K) : bodyL M Try.prog hints C LP F.law_CursorHolds 2 [(3, v3), (9, v9), (11, v11), (13, v13), (14, v14), (17, v17)] H (afterK [3, 9, 11, 13, 14, 17] k) = s_law_CursorHolds_b2 M.b.g M.c M.s Try.prog C (fun v0 v1 v2 v3 v9 v10 H k => loopL M Try.prog hints C LP F.law_CursorHolds 0 [(0, v0), (1, v1), (2, v2), (3, v3), (9, v9), (10, v10)] H k) (fun v0 v1 v3 v9 v11 v13 v14 v15 v16 H k => loopL M Try.prog hints C LP F.law_CursorHolds 1 [(0, v0), (1, v1), (3, v3), (9, v9), (11, v11), (13, v13), (14, v14), (15, v15), (16, v16)] H k) (fun v3 v9 v11 v13 v14 v17 H k => loopL M Try.prog hints C LP F.law_CursorHolds 2 [(3, v3), (9, v9), (11, v11), (13, v13), (14, v14), (17, v17)] H k) (fun v3 v9 v11 v13 v21 H k => loopL M Try.prog hints C LP F.law_CursorHolds 3 [(3, v3), (9, v9), (11, v11), (13, v13), (21, v21)] H k) (fun v3 v9 v11 v13 v22 v23 v24 v25 H k => loopL M Try.prog hints C LP F.law_CursorHolds 4 [(3, v3), (9, v9), (11, v11), (13, v13), (22, v22), (23, v23), (24, v24), (25, v25)] H k) (fun v13 v22 v23 v24 v28 H k => loopL M Try.prog hints C LP F.law_CursorHolds 5 [(13, v13), (22, v22), (23, v23), (24, v24), (28, v28)] H k) (fun v13 v22 v23 v24 v28 v31 v32 H k => loopL M Try.prog hints C LP F.law_CursorHolds 6 [(13, v13), (22, v22), (23, v23), (24, v24), (28, v28), (31, v31), (32, v32)] H k) (fun v23 v33 H k => loopL M Try.prog hints C LP F.law_CursorHolds 7 [(23, v23), (33, v33)] H k) v3 v9 v11 v13 v14 v17 H k := by kernel_rfl

theorem s_law_CursorHolds_b3_eq (M : CombL) (C : CallF) (LP : LoopH) (v3 : Value) (v9 : Value) (v11 : Value) (v13 : Value) (v21 : Value) (H : AHeap) (k : K) : bodyL M Try.prog hints C LP F.law_CursorHolds 3 [(3, v3), (9, v9), (11, v11), (13, v13), (21, v21)] H (afterK [3, 9, 11, 13, 21] k) = s_law_CursorHolds_b3 M.b.g M.c M.s Try.prog C (fun v0 v1 v2 v3 v9 v10 H k => loopL M Try.prog hints C LP F.law_CursorHolds 0 [(0, v0), (1, v1), (2, v2), (3, v3), (9, v9), (10, v10)] H k) (fun v0 v1 v3 v9 v11 v13 v14 v15 v16 H k => loopL M Try.prog hints C LP F.law_CursorHolds 1 [(0, v0), (1, v1), (3, v3), (9, v9), (11, v11), (13, v13), (14, v14), (15, v15), (16, v16)] H k) (fun v3 v9 v11 v13 v14 v17 H k => loopL M Try.prog hints C LP F.law_CursorHolds 2 [(3, v3), (9, v9), (11, v11), (13, v13), (14, v14), (17, v17)] H k) (fun v3 v9 v11 v13 v21 H k => loopL M Try.prog hints C LP F.law_CursorHolds 3 [(3, v3), (9, v9), (11, v11), (13, v13), (21, v21)] H k) (fun v3 v9 v11 v13 v22 v23 v24 v25 H k => loopL M Try.prog hints C LP F.law_CursorHolds 4 [(3, v3), (9, v9), (11, v11), (13, v13), (22, v22), (23, v23), (24, v24), (25, v25)] H k) (fun v13 v22 v23 v24 v28 H k => loopL M Try.prog hints C LP F.law_CursorHolds 5 [(13, v13), (22, v22), (23, v23), (24, v24), (28, v28)] H k) (fun v13 v22 v23 v24 v28 v31 v32 H k => loopL M Try.prog hints C LP F.law_CursorHolds 6 [(13, v13), (22, v22), (23, v23), (24, v24), (28, v28), (31, v31), (32, v32)] H k) (fun v23 v33 H k => loopL M Try.prog hints C LP F.law_CursorHolds 7 [(23, v23), (33, v33)] H k) v3 v9 v11 v13 v21 H k := by kernel_rfl

theorem s_law_CursorHolds_b4_eq (M : CombL) (C : CallF) (LP : LoopH) (v3 : Value) (v9 : Value) (v11 : Value) (v13 : Value) (v22 : Value) (v23 : Value) (v24 : Value) (v25 : Value) (H : AHeap) (k : K) : bodyL M Try.prog hints C LP F.law_CursorHolds 4 [(3, v3), (9, v9), (11, v11), (13, v13), (22, v22), (23, v23), (24, v24), (25, v25)] H (afterK [3, 9, 11, 13, 22, 23, 24, 25] k) = s_law_CursorHolds_b4 M.b.g M.c M.s Try.prog C (fun v0 v1 v2 v3 v9 v10 H k => loopL M Try.prog hints C LP F.law_CursorHolds 0 [(0, v0), (1, v1), (2, v2), (3, v3), (9, v9), (10, v10)] H k) (fun v0 v1 v3 v9 v11 v13 v14 v15 v16 H k => loopL M Try.prog hints C LP F.law_CursorHolds 1 [(0, v0), (1, v1), (3, v3), (9, v9), (11, v11), (13, v13), (14, v14), (15, v15), (16, v16)] H k) (fun v3 v9 v11 v13 v14 v17 H k => loopL M Try.prog hints C LP F.law_CursorHolds 2 [(3, v3), (9, v9), (11, v11), (13, v13), (14, v14), (17, v17)] H k) (fun v3 v9 v11 v13 v21 H k => loopL M Try.prog hints C LP F.law_CursorHolds 3 [(3, v3), (9, v9), (11, v11), (13, v13), (21, v21)] H k) (fun v3 v9 v11 v13 v22 v23 v24 v25 H k => loopL M Try.prog hints C LP F.law_CursorHolds 4 [(3, v3), (9, v9), (11, v11), (13, v13), (22, v22), (23, v23), (24, v24), (25, v25)] H k) (fun v13 v22 v23 v24 v28 H k => loopL M Try.prog hints C LP F.law_CursorHolds 5 [(13, v13), (22, v22), (23, v23), (24, v24), (28, v28)] H k) (fun v13 v22 v23 v24 v28 v31 v32 H k => loopL M Try.prog hints C LP F.law_CursorHolds 6 [(13, v13), (22, v22), (23, v23), (24, v24), (28, v28), (31, v31), (32, v32)] H k) (fun v23 v33 H k => loopL M Try.prog hints C LP F.law_CursorHolds 7 [(23, v23), (33, v33)] H k) v3 v9 v11 v13 v22 v23 v24 v25 H k := by kernel_rfl

theorem s_law_CursorHolds_b5_eq (M : CombL) (C : CallF) (LP : LoopH) (v13 : Value) (v22 : Value) (v23 : Value) (v24 : Value) (v28 : Value) (H : AHeap) (k : K) : bodyL M Try.prog hints C LP F.law_CursorHolds 5 [(13, v13), (22, v22), (23, v23), (24, v24), (28, v28)] H (afterK [13, 22, 23, 24, 28] k) = s_law_CursorHolds_b5 M.b.g M.c M.s Try.prog C (fun v0 v1 v2 v3 v9 v10 H k => loopL M Try.prog hints C LP F.law_CursorHolds 0 [(0, v0), (1, v1), (2, v2), (3, v3), (9, v9), (10, v10)] H k) (fun v0 v1 v3 v9 v11 v13 v14 v15 v16 H k => loopL M Try.prog hints C LP F.law_CursorHolds 1 [(0, v0), (1, v1), (3, v3), (9, v9), (11, v11), (13, v13), (14, v14), (15, v15), (16, v16)] H k) (fun v3 v9 v11 v13 v14 v17 H k => loopL M Try.prog hints C LP F.law_CursorHolds 2 [(3, v3), (9, v9), (11, v11), (13, v13), (14, v14), (17, v17)] H k) (fun v3 v9 v11 v13 v21 H k => loopL M Try.prog hints C LP F.law_CursorHolds 3 [(3, v3), (9, v9), (11, v11), (13, v13), (21, v21)] H k) (fun v3 v9 v11 v13 v22 v23 v24 v25 H k => loopL M Try.prog hints C LP F.law_CursorHolds 4 [(3, v3), (9, v9), (11, v11), (13, v13), (22, v22), (23, v23), (24, v24), (25, v25)] H k) (fun v13 v22 v23 v24 v28 H k => loopL M Try.prog hints C LP F.law_CursorHolds 5 [(13, v13), (22, v22), (23, v23), (24, v24), (28, v28)] H k) (fun v13 v22 v23 v24 v28 v31 v32 H k => loopL M Try.prog hints C LP F.law_CursorHolds 6 [(13, v13), (22, v22), (23, v23), (24, v24), (28, v28), (31, v31), (32, v32)] H k) (fun v23 v33 H k => loopL M Try.prog hints C LP F.law_CursorHolds 7 [(23, v23), (33, v33)] H k) v13 v22 v23 v24 v28 H k := by kernel_rfl

theorem s_law_CursorHolds_b6_eq (M : CombL) (C : CallF) (LP : LoopH) (v13 : Value) (v22 : Value) (v23 : Value) (v24 : Value) (v28 : Value) (v31 : Value) (v32 : Value) (H : AHeap) (k : K) : bodyL M Try.prog hints C LP F.law_CursorHolds 6 [(13, v13), (22, v22), (23, v23), (24, v24), (28, v28), (31, v31), (32, v32)] H (afterK [13, 22, 23, 24, 28, 31, 32] k) = s_law_CursorHolds_b6 M.b.g M.c M.s Try.prog C (fun v0 v1 v2 v3 v9 v10 H k => loopL M Try.prog hints C LP F.law_CursorHolds 0 [(0, v0), (1, v1), (2, v2), (3, v3), (9, v9), (10, v10)] H k) (fun v0 v1 v3 v9 v11 v13 v14 v15 v16 H k => loopL M Try.prog hints C LP F.law_CursorHolds 1 [(0, v0), (1, v1), (3, v3), (9, v9), (11, v11), (13, v13), (14, v14), (15, v15), (16, v16)] H k) (fun v3 v9 v11 v13 v14 v17 H k => loopL M Try.prog hints C LP F.law_CursorHolds 2 [(3, v3), (9, v9), (11, v11), (13, v13), (14, v14), (17, v17)] H k) (fun v3 v9 v11 v13 v21 H k => loopL M Try.prog hints C LP F.law_CursorHolds 3 [(3, v3), (9, v9), (11, v11), (13, v13), (21, v21)] H k) (fun v3 v9 v11 v13 v22 v23 v24 v25 H k => loopL M Try.prog hints C LP F.law_CursorHolds 4 [(3, v3), (9, v9), (11, v11), (13, v13), (22, v22), (23, v23), (24, v24), (25, v25)] H k) (fun v13 v22 v23 v24 v28 H k => loopL M Try.prog hints C LP F.law_CursorHolds 5 [(13, v13), (22, v22), (23, v23), (24, v24), (28, v28)] H k) (fun v13 v22 v23 v24 v28 v31 v32 H k => loopL M Try.prog hints C LP F.law_CursorHolds 6 [(13, v13), (22, v22), (23, v23), (24, v24), (28, v28), (31, v31), (32, v32)] H k) (fun v23 v33 H k => loopL M Try.prog hints C LP F.law_CursorHolds 7 [(23, v23), (33, v33)] H k) v13 v22 v23 v24 v28 v31 v32 H k := by kernel_rfl

theorem s_law_CursorHolds_b7_eq (M : CombL) (C : CallF) (LP : LoopH) (v23 : Value) (v33 : Value) (H : AHeap) (k : K) : bodyL M Try.prog hints C LP F.law_CursorHolds 7 [(23, v23), (33, v33)] H (afterK [23, 33] k) = s_law_CursorHolds_b7 M.b.g M.c M.s Try.prog C (fun v0 v1 v2 v3 v9 v10 H k => loopL M Try.prog hints C LP F.law_CursorHolds 0 [(0, v0), (1, v1), (2, v2), (3, v3), (9, v9), (10, v10)] H k) (fun v0 v1 v3 v9 v11 v13 v14 v15 v16 H k => loopL M Try.prog hints C LP F.law_CursorHolds 1 [(0, v0), (1, v1), (3, v3), (9, v9), (11, v11), (13, v13), (14, v14), (15, v15), (16, v16)] H k) (fun v3 v9 v11 v13 v14 v17 H k => loopL M Try.prog hints C LP F.law_CursorHolds 2 [(3, v3), (9, v9), (11, v11), (13, v13), (14, v14), (17, v17)] H k) (fun v3 v9 v11 v13 v21 H k => loopL M Try.prog hints C LP F.law_CursorHolds 3 [(3, v3), (9, v9), (11, v11), (13, v13), (21, v21)] H k) (fun v3 v9 v11 v13 v22 v23 v24 v25 H k => loopL M Try.prog hints C LP F.law_CursorHolds 4 [(3, v3), (9, v9), (11, v11), (13, v13), (22, v22), (23, v23), (24, v24), (25, v25)] H k) (fun v13 v22 v23 v24 v28 H k => loopL M Try.prog hints C LP F.law_CursorHolds 5 [(13, v13), (22, v22), (23, v23), (24, v24), (28, v28)] H k) (fun v13 v22 v23 v24 v28 v31 v32 H k => loopL M Try.prog hints C LP F.law_CursorHolds 6 [(13, v13), (22, v22), (23, v23), (24, v24), (28, v28), (31, v31), (32, v32)] H k) (fun v23 v33 H k => loopL M Try.prog hints C LP F.law_CursorHolds 7 [(23, v23), (33, v33)] H k) v23 v33 H k := by kernel_rfl

end Go.Proofs.Ytmbppjilnnjdaaa

/-
  The equations of the seat's functions over calls in the limit (a program of ours printed it).
  Conditions: none. By an AI agent.
-/
set_option linter.unusedVariables false
namespace Go.Proofs.Ytmbppjilnnjdaaa
open Go Eng

theorem u_map_string_bool : Try.prog.underlying T.map_string_bool = Try.prog.underlying 65 := rfl

noncomputable def l_law_CursorHolds_0 (v0 : Value) (v1 : Value) (v2 : Value) (v3 : Value) (v9 : Value) (v10 : Value) (H : AHeap) (k : K) : Res := loopL stdL Try.prog hints CC limLP F.law_CursorHolds 0 [(0, v0), (1, v1), (2, v2), (3, v3), (9, v9), (10, v10)] H k
noncomputable def l_law_CursorHolds_1 (v0 : Value) (v1 : Value) (v3 : Value) (v9 : Value) (v11 : Value) (v13 : Value) (v14 : Value) (v15 : Value) (v16 : Value) (H : AHeap) (k : K) : Res := loopL stdL Try.prog hints CC limLP F.law_CursorHolds 1 [(0, v0), (1, v1), (3, v3), (9, v9), (11, v11), (13, v13), (14, v14), (15, v15), (16, v16)] H k
noncomputable def l_law_CursorHolds_2 (v3 : Value) (v9 : Value) (v11 : Value) (v13 : Value) (v14 : Value) (v17 : Value) (H : AHeap) (k : K) : Res := loopL stdL Try.prog hints CC limLP F.law_CursorHolds 2 [(3, v3), (9, v9), (11, v11), (13, v13), (14, v14), (17, v17)] H k
noncomputable def l_law_CursorHolds_3 (v3 : Value) (v9 : Value) (v11 : Value) (v13 : Value) (v21 : Value) (H : AHeap) (k : K) : Res := loopL stdL Try.prog hints CC limLP F.law_CursorHolds 3 [(3, v3), (9, v9), (11, v11), (13, v13), (21, v21)] H k
noncomputable def l_law_CursorHolds_4 (v3 : Value) (v9 : Value) (v11 : Value) (v13 : Value) (v22 : Value) (v23 : Value) (v24 : Value) (v25 : Value) (H : AHeap) (k : K) : Res := loopL stdL Try.prog hints CC limLP F.law_CursorHolds 4 [(3, v3), (9, v9), (11, v11), (13, v13), (22, v22), (23, v23), (24, v24), (25, v25)] H k
noncomputable def l_law_CursorHolds_5 (v13 : Value) (v22 : Value) (v23 : Value) (v24 : Value) (v28 : Value) (H : AHeap) (k : K) : Res := loopL stdL Try.prog hints CC limLP F.law_CursorHolds 5 [(13, v13), (22, v22), (23, v23), (24, v24), (28, v28)] H k
noncomputable def l_law_CursorHolds_6 (v13 : Value) (v22 : Value) (v23 : Value) (v24 : Value) (v28 : Value) (v31 : Value) (v32 : Value) (H : AHeap) (k : K) : Res := loopL stdL Try.prog hints CC limLP F.law_CursorHolds 6 [(13, v13), (22, v22), (23, v23), (24, v24), (28, v28), (31, v31), (32, v32)] H k
noncomputable def l_law_CursorHolds_7 (v23 : Value) (v33 : Value) (H : AHeap) (k : K) : Res := loopL stdL Try.prog hints CC limLP F.law_CursorHolds 7 [(23, v23), (33, v33)] H k
theorem r_law_CursorHolds_0 (v0 : Value) (v1 : Value) (v2 : Value) (v3 : Value) (v9 : Value) (v10 : Value) (H : AHeap) (k : K) : l_law_CursorHolds_0 v0 v1 v2 v3 v9 v10 H k = s_law_CursorHolds_b0 guardK condL shareL Try.prog CC l_law_CursorHolds_0 l_law_CursorHolds_1 l_law_CursorHolds_2 l_law_CursorHolds_3 l_law_CursorHolds_4 l_law_CursorHolds_5 l_law_CursorHolds_6 l_law_CursorHolds_7 v0 v1 v2 v3 v9 v10 H (seqK (fun T H => l_law_CursorHolds_0 (get T 0) (get T 1) (get T 2) (get T 3) (get T 9) (get T 10) H k) k) := ((loopL_next (by kernel_rfl) rfl H k).trans (s_law_CursorHolds_b0_eq stdL CC limLP v0 v1 v2 v3 v9 v10 H _)).trans (by kernel_rfl)
theorem r_law_CursorHolds_1 (v0 : Value) (v1 : Value) (v3 : Value) (v9 : Value) (v11 : Value) (v13 : Value) (v14 : Value) (v15 : Value) (v16 : Value) (H : AHeap) (k : K) : l_law_CursorHolds_1 v0 v1 v3 v9 v11 v13 v14 v15 v16 H k = s_law_CursorHolds_b1 guardK condL shareL Try.prog CC l_law_CursorHolds_0 l_law_CursorHolds_1 l_law_CursorHolds_2 l_law_CursorHolds_3 l_law_CursorHolds_4 l_law_CursorHolds_5 l_law_CursorHolds_6 l_law_CursorHolds_7 v0 v1 v3 v9 v11 v13 v14 v15 v16 H (seqK (fun T H => l_law_CursorHolds_1 (get T 0) (get T 1) (get T 3) (get T 9) (get T 11) (get T 13) (get T 14) (get T 15) (get T 16) H k) k) := ((loopL_next (by kernel_rfl) rfl H k).trans (s_law_CursorHolds_b1_eq stdL CC limLP v0 v1 v3 v9 v11 v13 v14 v15 v16 H _)).trans (by kernel_rfl)
theorem r_law_CursorHolds_2 (v3 : Value) (v9 : Value) (v11 : Value) (v13 : Value) (v14 : Value) (v17 : Value) (H : AHeap) (k : K) : l_law_CursorHolds_2 v3 v9 v11 v13 v14 v17 H k = s_law_CursorHolds_b2 guardK condL shareL Try.prog CC l_law_CursorHolds_0 l_law_CursorHolds_1 l_law_CursorHolds_2 l_law_CursorHolds_3 l_law_CursorHolds_4 l_law_CursorHolds_5 l_law_CursorHolds_6 l_law_CursorHolds_7 v3 v9 v11 v13 v14 v17 H (seqK (fun T H => l_law_CursorHolds_2 (get T 3) (get T 9) (get T 11) (get T 13) (get T 14) (get T 17) H k) k) := ((loopL_next (by kernel_rfl) rfl H k).trans (s_law_CursorHolds_b2_eq stdL CC limLP v3 v9 v11 v13 v14 v17 H _)).trans (by kernel_rfl)
theorem r_law_CursorHolds_3 (v3 : Value) (v9 : Value) (v11 : Value) (v13 : Value) (v21 : Value) (H : AHeap) (k : K) : l_law_CursorHolds_3 v3 v9 v11 v13 v21 H k = s_law_CursorHolds_b3 guardK condL shareL Try.prog CC l_law_CursorHolds_0 l_law_CursorHolds_1 l_law_CursorHolds_2 l_law_CursorHolds_3 l_law_CursorHolds_4 l_law_CursorHolds_5 l_law_CursorHolds_6 l_law_CursorHolds_7 v3 v9 v11 v13 v21 H (seqK (fun T H => l_law_CursorHolds_3 (get T 3) (get T 9) (get T 11) (get T 13) (get T 21) H k) k) := ((loopL_next (by kernel_rfl) rfl H k).trans (s_law_CursorHolds_b3_eq stdL CC limLP v3 v9 v11 v13 v21 H _)).trans (by kernel_rfl)
theorem r_law_CursorHolds_4 (v3 : Value) (v9 : Value) (v11 : Value) (v13 : Value) (v22 : Value) (v23 : Value) (v24 : Value) (v25 : Value) (H : AHeap) (k : K) : l_law_CursorHolds_4 v3 v9 v11 v13 v22 v23 v24 v25 H k = s_law_CursorHolds_b4 guardK condL shareL Try.prog CC l_law_CursorHolds_0 l_law_CursorHolds_1 l_law_CursorHolds_2 l_law_CursorHolds_3 l_law_CursorHolds_4 l_law_CursorHolds_5 l_law_CursorHolds_6 l_law_CursorHolds_7 v3 v9 v11 v13 v22 v23 v24 v25 H (seqK (fun T H => l_law_CursorHolds_4 (get T 3) (get T 9) (get T 11) (get T 13) (get T 22) (get T 23) (get T 24) (get T 25) H k) k) := ((loopL_next (by kernel_rfl) rfl H k).trans (s_law_CursorHolds_b4_eq stdL CC limLP v3 v9 v11 v13 v22 v23 v24 v25 H _)).trans (by kernel_rfl)
theorem r_law_CursorHolds_5 (v13 : Value) (v22 : Value) (v23 : Value) (v24 : Value) (v28 : Value) (H : AHeap) (k : K) : l_law_CursorHolds_5 v13 v22 v23 v24 v28 H k = s_law_CursorHolds_b5 guardK condL shareL Try.prog CC l_law_CursorHolds_0 l_law_CursorHolds_1 l_law_CursorHolds_2 l_law_CursorHolds_3 l_law_CursorHolds_4 l_law_CursorHolds_5 l_law_CursorHolds_6 l_law_CursorHolds_7 v13 v22 v23 v24 v28 H (seqK (fun T H => l_law_CursorHolds_5 (get T 13) (get T 22) (get T 23) (get T 24) (get T 28) H k) k) := ((loopL_next (by kernel_rfl) rfl H k).trans (s_law_CursorHolds_b5_eq stdL CC limLP v13 v22 v23 v24 v28 H _)).trans (by kernel_rfl)
theorem r_law_CursorHolds_6 (v13 : Value) (v22 : Value) (v23 : Value) (v24 : Value) (v28 : Value) (v31 : Value) (v32 : Value) (H : AHeap) (k : K) : l_law_CursorHolds_6 v13 v22 v23 v24 v28 v31 v32 H k = s_law_CursorHolds_b6 guardK condL shareL Try.prog CC l_law_CursorHolds_0 l_law_CursorHolds_1 l_law_CursorHolds_2 l_law_CursorHolds_3 l_law_CursorHolds_4 l_law_CursorHolds_5 l_law_CursorHolds_6 l_law_CursorHolds_7 v13 v22 v23 v24 v28 v31 v32 H (seqK (fun T H => l_law_CursorHolds_6 (get T 13) (get T 22) (get T 23) (get T 24) (get T 28) (get T 31) (get T 32) H k) k) := ((loopL_next (by kernel_rfl) rfl H k).trans (s_law_CursorHolds_b6_eq stdL CC limLP v13 v22 v23 v24 v28 v31 v32 H _)).trans (by kernel_rfl)
theorem r_law_CursorHolds_7 (v23 : Value) (v33 : Value) (H : AHeap) (k : K) : l_law_CursorHolds_7 v23 v33 H k = s_law_CursorHolds_b7 guardK condL shareL Try.prog CC l_law_CursorHolds_0 l_law_CursorHolds_1 l_law_CursorHolds_2 l_law_CursorHolds_3 l_law_CursorHolds_4 l_law_CursorHolds_5 l_law_CursorHolds_6 l_law_CursorHolds_7 v23 v33 H (seqK (fun T H => l_law_CursorHolds_7 (get T 23) (get T 33) H k) k) := ((loopL_next (by kernel_rfl) rfl H k).trans (s_law_CursorHolds_b7_eq stdL CC limLP v23 v33 H _)).trans (by kernel_rfl)
theorem d_law_CursorHolds (a0 : Value) (a1 : Value) (a2 : Value) (a3 : Value) (H : AHeap) {r : Value × AHeap} (h : s_law_CursorHolds guardK condL shareL Try.prog CC l_law_CursorHolds_0 l_law_CursorHolds_1 l_law_CursorHolds_2 l_law_CursorHolds_3 l_law_CursorHolds_4 l_law_CursorHolds_5 l_law_CursorHolds_6 l_law_CursorHolds_7 a0 a1 a2 a3 H (endK Try.prog [.tmp 8]) = some r) : CC F.law_CursorHolds [a0, a1, a2, a3] H = some (tidy H r) := D_body (by kernel_rfl) ((s_law_CursorHolds_eq stdL CC limLP a0 a1 a2 a3 H).trans (Eq.trans (show s_law_CursorHolds stdL.b.g stdL.c stdL.s Try.prog CC (fun v0 v1 v2 v3 v9 v10 H k => loopL stdL Try.prog hints CC limLP F.law_CursorHolds 0 [(0, v0), (1, v1), (2, v2), (3, v3), (9, v9), (10, v10)] H k) (fun v0 v1 v3 v9 v11 v13 v14 v15 v16 H k => loopL stdL Try.prog hints CC limLP F.law_CursorHolds 1 [(0, v0), (1, v1), (3, v3), (9, v9), (11, v11), (13, v13), (14, v14), (15, v15), (16, v16)] H k) (fun v3 v9 v11 v13 v14 v17 H k => loopL stdL Try.prog hints CC limLP F.law_CursorHolds 2 [(3, v3), (9, v9), (11, v11), (13, v13), (14, v14), (17, v17)] H k) (fun v3 v9 v11 v13 v21 H k => loopL stdL Try.prog hints CC limLP F.law_CursorHolds 3 [(3, v3), (9, v9), (11, v11), (13, v13), (21, v21)] H k) (fun v3 v9 v11 v13 v22 v23 v24 v25 H k => loopL stdL Try.prog hints CC limLP F.law_CursorHolds 4 [(3, v3), (9, v9), (11, v11), (13, v13), (22, v22), (23, v23), (24, v24), (25, v25)] H k) (fun v13 v22 v23 v24 v28 H k => loopL stdL Try.prog hints CC limLP F.law_CursorHolds 5 [(13, v13), (22, v22), (23, v23), (24, v24), (28, v28)] H k) (fun v13 v22 v23 v24 v28 v31 v32 H k => loopL stdL Try.prog hints CC limLP F.law_CursorHolds 6 [(13, v13), (22, v22), (23, v23), (24, v24), (28, v28), (31, v31), (32, v32)] H k) (fun v23 v33 H k => loopL stdL Try.prog hints CC limLP F.law_CursorHolds 7 [(23, v23), (33, v33)] H k) a0 a1 a2 a3 H (endK Try.prog [.tmp 8]) = s_law_CursorHolds guardK condL shareL Try.prog CC l_law_CursorHolds_0 l_law_CursorHolds_1 l_law_CursorHolds_2 l_law_CursorHolds_3 l_law_CursorHolds_4 l_law_CursorHolds_5 l_law_CursorHolds_6 l_law_CursorHolds_7 a0 a1 a2 a3 H (endK Try.prog [.tmp 8]) by kernel_rfl) h))

end Go.Proofs.Ytmbppjilnnjdaaa
