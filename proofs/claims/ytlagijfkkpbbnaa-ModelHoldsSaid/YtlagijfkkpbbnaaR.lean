/-
  Chapter 24: the reference.
  Conditions: none. By an AI agent.
-/
import Derived.Test.YtlagijfkkpbbnaaP
set_option maxRecDepth 10000
set_option linter.unusedSimpArgs false
set_option linter.unusedVariables false
namespace Go.Proofs.Ytlagijfkkpbbnaa
open Go Eng

abbrev MdlR := MdlT T.ref24_Model

theorem q_RKey (key : ByteArray) (H : AHeap) : CC F.ref24_Key [.string key] H = some (.int .i64 (chk key []), H) := by
  have e : chk key [] = if bl key = [] then 2 else if 24 < (bl key).length then 5 else 0 := by simp [chk]
  rw [e]
  by_cases h1 : bl key = []
  · rw [if_pos h1]
    apply pure_of _ (d_ref24_Key _ H) rfl
    rotate_left 2
    · simp (disch := first | with_reducible rfl | assumption | omega | rfl | (simp only [go_sem]; first | done | omega)) only [go_sem, ↓reduceIte, reduceCtorEq, Nat.reduceEqDiff, Nat.reduceAdd, Nat.reduceSub, Nat.reduceMul, Nat.reduceDiv, Nat.reduceMod, Nat.reduceLeDiff, Nat.reduceLT, Nat.reduceBEq, Int.reduceEq, Int.reduceBEq, Int.reduceBNe, Int.reduceLT, Int.reduceLE, Int.reduceAdd, Int.reduceSub, Int.reduceNeg, Int.reduceToNat, Int.reducePow, Nat.reducePow, Int.reduceMul, Int.reduceDiv, ↓s_ref24_Key, bl_mk, decide_eq_true h1]
      rfl
    · (repeat (first | exact Fr.refl _ | refine Fr.push ?_ _ | refine Fr.set ?_ _ _ (by intro h; first | omega | (simp only [go_sem] at h; omega))))
  · rw [if_neg h1]
    by_cases h2 : 24 < (bl key).length
    · have h2' : (24 : Int) < ((bl key).length : Int) := by omega
      rw [if_pos h2]
      apply pure_of _ (d_ref24_Key _ H) rfl
      rotate_left 2
      · simp (disch := first | with_reducible rfl | assumption | omega | rfl | (simp only [go_sem]; first | done | omega)) only [go_sem, ↓reduceIte, reduceCtorEq, Nat.reduceEqDiff, Nat.reduceAdd, Nat.reduceSub, Nat.reduceMul, Nat.reduceDiv, Nat.reduceMod, Nat.reduceLeDiff, Nat.reduceLT, Nat.reduceBEq, Int.reduceEq, Int.reduceBEq, Int.reduceBNe, Int.reduceLT, Int.reduceLE, Int.reduceAdd, Int.reduceSub, Int.reduceNeg, Int.reduceToNat, Int.reducePow, Nat.reducePow, Int.reduceMul, Int.reduceDiv, ↓s_ref24_Key, bl_mk, decide_eq_false h1, decide_eq_true h2']
        rfl
      · (repeat (first | exact Fr.refl _ | refine Fr.push ?_ _ | refine Fr.set ?_ _ _ (by intro h; first | omega | (simp only [go_sem] at h; omega))))
    · have h2' : ¬ (24 : Int) < ((bl key).length : Int) := by omega
      rw [if_neg h2]
      apply pure_of _ (d_ref24_Key _ H) rfl
      rotate_left 2
      · simp (disch := first | with_reducible rfl | assumption | omega | rfl | (simp only [go_sem]; first | done | omega)) only [go_sem, ↓reduceIte, reduceCtorEq, Nat.reduceEqDiff, Nat.reduceAdd, Nat.reduceSub, Nat.reduceMul, Nat.reduceDiv, Nat.reduceMod, Nat.reduceLeDiff, Nat.reduceLT, Nat.reduceBEq, Int.reduceEq, Int.reduceBEq, Int.reduceBNe, Int.reduceLT, Int.reduceLE, Int.reduceAdd, Int.reduceSub, Int.reduceNeg, Int.reduceToNat, Int.reducePow, Nat.reducePow, Int.reduceMul, Int.reduceDiv, ↓s_ref24_Key, bl_mk, decide_eq_false h1, decide_eq_false h2']
        rfl
      · (repeat (first | exact Fr.refl _ | refine Fr.push ?_ _ | refine Fr.set ?_ _ _ (by intro h; first | omega | (simp only [go_sem] at h; omega))))

theorem l_bad (l : List ByteArray) (v : Value) (H : AHeap) (hr : Rd EStr H v l) (hl : l.length < 4611686018427387904) (K : K) : ∀ (m : List ByteArray) (i : Nat), l.drop i = m → i ≤ l.length →
    l_ref24_bad_0 v (.int .i64 i) H (blkK [] 0 (seqK (fun _ h2 => K .ret [(4, .int .i64 0)] h2) K)) = K .ret [(4, .int .i64 (if (m.any fun a => decide (40 < (bl a).length)) = true then 5 else 0))] H
  | [], i, hm, hi => by
    have h : l.length ≤ i := List.drop_eq_nil_iff.1 hm
    have hlt : ¬ (i : Int) < (l.length : Int) := by omega
    have hlen := hr.lenS
    rw [r_ref24_bad_0]
    simp (disch := first | with_reducible rfl | assumption | omega | rfl | (simp only [go_sem]; first | done | omega)) only [go_sem, ↓reduceIte, reduceCtorEq, Nat.reduceEqDiff, Nat.reduceAdd, Nat.reduceSub, Nat.reduceMul, Nat.reduceDiv, Nat.reduceMod, Nat.reduceLeDiff, Nat.reduceLT, Nat.reduceBEq, Int.reduceEq, Int.reduceBEq, Int.reduceBNe, Int.reduceLT, Int.reduceLE, Int.reduceAdd, Int.reduceSub, Int.reduceNeg, Int.reduceToNat, Int.reducePow, Nat.reducePow, Int.reduceMul, Int.reduceDiv, ↓s_ref24_bad_b0, hlen, hlt, List.any_nil]
  | a :: m, i, hm, hi => by
    obtain ⟨h, ha, hm'⟩ := drop_cons hm
    have hlt : (i : Int) < (l.length : Int) := by omega
    have hlen := hr.lenS
    have ih := l_bad l v H hr hl K m (i + 1) hm' h
    obtain ⟨b, o, hix, hb, hc, _⟩ := hr.ix (q := .i64) h
    rw [ha] at hc
    have hix : ixS 1 v (.int .i64 i) = some (.pointer (some ⟨b, o, none⟩)) := hix
    have hc : cellB (H.f b) o = some (.string a) := cutB_cell hc (i := 0) (by decide)
    rw [Int.natCast_add] at ih
    rw [r_ref24_bad_0, List.any_cons]
    by_cases he : 40 < (bl a).length
    · have hd : decide (40 < (bl a).length) = true := decide_eq_true he
      have hd' : decide ((40 : Int) < ((bl a).length : Int)) = true := decide_eq_true (by omega)
      rw [hd, Bool.true_or]
      simp (disch := first | with_reducible rfl | assumption | omega | rfl | (simp only [go_sem]; first | done | omega)) only [go_sem, ↓reduceIte, reduceCtorEq, Nat.reduceEqDiff, Nat.reduceAdd, Nat.reduceSub, Nat.reduceMul, Nat.reduceDiv, Nat.reduceMod, Nat.reduceLeDiff, Nat.reduceLT, Nat.reduceBEq, Int.reduceEq, Int.reduceBEq, Int.reduceBNe, Int.reduceLT, Int.reduceLE, Int.reduceAdd, Int.reduceSub, Int.reduceNeg, Int.reduceToNat, Int.reducePow, Nat.reducePow, Int.reduceMul, Int.reduceDiv, ↓s_ref24_bad_b0, hlen, hlt, hix, hc, hd']
    · have hd : decide (40 < (bl a).length) = false := decide_eq_false he
      have hd' : decide ((40 : Int) < ((bl a).length : Int)) = false := decide_eq_false (by omega)
      rw [hd, Bool.false_or]
      simp (disch := first | with_reducible rfl | assumption | omega | rfl | (simp only [go_sem]; first | done | omega)) only [go_sem, ↓reduceIte, reduceCtorEq, Nat.reduceEqDiff, Nat.reduceAdd, Nat.reduceSub, Nat.reduceMul, Nat.reduceDiv, Nat.reduceMod, Nat.reduceLeDiff, Nat.reduceLT, Nat.reduceBEq, Int.reduceEq, Int.reduceBEq, Int.reduceBNe, Int.reduceLT, Int.reduceLE, Int.reduceAdd, Int.reduceSub, Int.reduceNeg, Int.reduceToNat, Int.reducePow, Nat.reducePow, Int.reduceMul, Int.reduceDiv, ↓s_ref24_bad_b0, hlen, hlt, hix, hc, hd']
      exact ih

theorem q_bad (key : ByteArray) (l : List ByteArray) (v : Value) (H : AHeap) (hr : Rd EStr H v l) (hl : l.length < 4611686018427387904) : CC F.ref24_bad [.string key, v] H = some (.int .i64 (chk key l), H) := by
  have hk := q_RKey key H
  by_cases h0 : chk key [] = 0
  · have e : chk key l = if (l.any fun a => decide (40 < (bl a).length)) = true then 5 else 0 := by
      unfold chk at h0 ⊢
      split at h0
      · cases h0
      · rename_i h1
        rw [if_neg h1]
        split at h0
        · cases h0
        · rename_i h2
          simp at h2
          have h2 : ¬ 24 < (bl key).length := by omega
          simp [h2]
    rw [e]
    rw [h0] at hk
    have hloop := l_bad l v H hr hl (endK Try.prog [.tmp 4]) l 0 rfl (by omega)
    generalize (if (l.any fun a => decide (40 < (bl a).length)) = true then (5 : Int) else 0) = y at hloop
    apply pure_of _ (d_ref24_bad _ _ H) rfl
    rotate_left 2
    · simp (disch := first | with_reducible rfl | assumption | omega | rfl | (simp only [go_sem]; first | done | omega)) only [go_sem, ↓reduceIte, reduceCtorEq, Nat.reduceEqDiff, Nat.reduceAdd, Nat.reduceSub, Nat.reduceMul, Nat.reduceDiv, Nat.reduceMod, Nat.reduceLeDiff, Nat.reduceLT, Nat.reduceBEq, Int.reduceEq, Int.reduceBEq, Int.reduceBNe, Int.reduceLT, Int.reduceLE, Int.reduceAdd, Int.reduceSub, Int.reduceNeg, Int.reduceToNat, Int.reducePow, Nat.reducePow, Int.reduceMul, Int.reduceDiv, ↓s_ref24_bad, enterK_eq hk]
      exact hloop
    · (repeat (first | exact Fr.refl _ | refine Fr.push ?_ _ | refine Fr.set ?_ _ _ (by intro h; first | omega | (simp only [go_sem] at h; omega))))
  · have e : chk key l = chk key [] := by
      unfold chk at h0 ⊢
      by_cases h1 : bl key = []
      · simp [h1]
      · by_cases h2 : 24 < (bl key).length
        · simp [h1, h2]
        · simp [h1, h2] at h0
    rw [e]
    generalize chk key [] = y at hk h0
    apply pure_of _ (d_ref24_bad _ _ H) rfl
    rotate_left 2
    · simp (disch := first | with_reducible rfl | assumption | omega | rfl | (simp only [go_sem]; first | done | omega)) only [go_sem, ↓reduceIte, reduceCtorEq, Nat.reduceEqDiff, Nat.reduceAdd, Nat.reduceSub, Nat.reduceMul, Nat.reduceDiv, Nat.reduceMod, Nat.reduceLeDiff, Nat.reduceLT, Nat.reduceBEq, Int.reduceEq, Int.reduceBEq, Int.reduceBNe, Int.reduceLT, Int.reduceLE, Int.reduceAdd, Int.reduceSub, Int.reduceNeg, Int.reduceToNat, Int.reducePow, Nat.reducePow, Int.reduceMul, Int.reduceDiv, ↓s_ref24_bad, enterK_eq hk, h0]
      rfl
    · (repeat (first | exact Fr.refl _ | refine Fr.push ?_ _ | refine Fr.set ?_ _ _ (by intro h; first | omega | (simp only [go_sem] at h; omega))))

theorem l_find (b : Nat) (l : List Pr) (v : Value) (key : ByteArray) (H : AHeap) (hf : H.f b = .cells [v] T.ref24_Model true) (hr : Rd EPr H v l) (hl : l.length < 4611686018427387904) (K : K) : ∀ (m : List Pr) (i : Nat), l.drop i = m → i ≤ l.length →
    l_ref24_Model_find_0 (.pointer (some ⟨b, 0, none⟩)) (.string key) (.int .i64 i) H (blkK [] 0 (seqK (fun _ h2 => K .ret [(4, .int .i64 (-1))] h2) K)) = K .ret [(4, .int .i64 (findP m key i))] H
  | [], i, hm, hi => by
    have h : l.length ≤ i := List.drop_eq_nil_iff.1 hm
    have hlt : ¬ (i : Int) < (l.length : Int) := by omega
    have hlen := hr.lenS
    rw [r_ref24_Model_find_0]
    simp (disch := first | with_reducible rfl | assumption | omega | rfl | (simp only [go_sem]; first | done | omega)) only [go_sem, ↓reduceIte, reduceCtorEq, Nat.reduceEqDiff, Nat.reduceAdd, Nat.reduceSub, Nat.reduceMul, Nat.reduceDiv, Nat.reduceMod, Nat.reduceLeDiff, Nat.reduceLT, Nat.reduceBEq, Int.reduceEq, Int.reduceBEq, Int.reduceBNe, Int.reduceLT, Int.reduceLE, Int.reduceAdd, Int.reduceSub, Int.reduceNeg, Int.reduceToNat, Int.reducePow, Nat.reducePow, Int.reduceMul, Int.reduceDiv, ↓s_ref24_Model_find_b0, hf, hlen, hlt, findP]
  | a :: m, i, hm, hi => by
    obtain ⟨h, ha, hm'⟩ := drop_cons hm
    have hlt : (i : Int) < (l.length : Int) := by omega
    have hlen := hr.lenS
    have ih := l_find b l v key H hf hr hl K m (i + 1) hm' h
    obtain ⟨bb, o, hix, hb, hc, _⟩ := hr.ix (q := .i64) h
    rw [ha] at hc
    have hix : ixS 2 v (.int .i64 i) = some (.pointer (some ⟨bb, o, none⟩)) := hix
    have hc : cellB (H.f bb) o = some (.string a.key) := cutB_cell hc (i := 0) (by decide)
    rw [Int.natCast_add] at ih
    rw [r_ref24_Model_find_0, findP]
    by_cases he : bl a.key = bl key
    · rw [if_pos he]
      simp (disch := first | with_reducible rfl | assumption | omega | rfl | (simp only [go_sem]; first | done | omega)) only [go_sem, ↓reduceIte, reduceCtorEq, Nat.reduceEqDiff, Nat.reduceAdd, Nat.reduceSub, Nat.reduceMul, Nat.reduceDiv, Nat.reduceMod, Nat.reduceLeDiff, Nat.reduceLT, Nat.reduceBEq, Int.reduceEq, Int.reduceBEq, Int.reduceBNe, Int.reduceLT, Int.reduceLE, Int.reduceAdd, Int.reduceSub, Int.reduceNeg, Int.reduceToNat, Int.reducePow, Nat.reducePow, Int.reduceMul, Int.reduceDiv, ↓s_ref24_Model_find_b0, hf, hlen, hlt, hix, hc, decide_eq_true he]
    · rw [if_neg he]
      simp (disch := first | with_reducible rfl | assumption | omega | rfl | (simp only [go_sem]; first | done | omega)) only [go_sem, ↓reduceIte, reduceCtorEq, Nat.reduceEqDiff, Nat.reduceAdd, Nat.reduceSub, Nat.reduceMul, Nat.reduceDiv, Nat.reduceMod, Nat.reduceLeDiff, Nat.reduceLT, Nat.reduceBEq, Int.reduceEq, Int.reduceBEq, Int.reduceBNe, Int.reduceLT, Int.reduceLE, Int.reduceAdd, Int.reduceSub, Int.reduceNeg, Int.reduceToNat, Int.reducePow, Nat.reducePow, Int.reduceMul, Int.reduceDiv, ↓s_ref24_Model_find_b0, hf, hlen, hlt, hix, hc, decide_eq_false he]
      exact ih

theorem q_find (b : Nat) (l : List Pr) (key : ByteArray) (H : AHeap) (r : MdlR H b l) (hl : l.length < 4611686018427387904) : CC F.ref24_Model_find [.pointer (some ⟨b, 0, none⟩), .string key] H = some (.int .i64 (findP l key 0), H) := by
  obtain ⟨v, h1, h2, h3, h4⟩ := r
  have hloop := l_find b l v key H h1 h3.rd hl (endK Try.prog [.tmp 4]) l 0 rfl (by omega)
  apply pure_of _ (d_ref24_Model_find _ _ H) rfl
  rotate_left 2
  · simp (disch := first | with_reducible rfl | assumption | omega | rfl | (simp only [go_sem]; first | done | omega)) only [go_sem, ↓reduceIte, reduceCtorEq, Nat.reduceEqDiff, Nat.reduceAdd, Nat.reduceSub, Nat.reduceMul, Nat.reduceDiv, Nat.reduceMod, Nat.reduceLeDiff, Nat.reduceLT, Nat.reduceBEq, Int.reduceEq, Int.reduceBEq, Int.reduceBNe, Int.reduceLT, Int.reduceLE, Int.reduceAdd, Int.reduceSub, Int.reduceNeg, Int.reduceToNat, Int.reducePow, Nat.reducePow, Int.reduceMul, Int.reduceDiv, ↓s_ref24_Model_find]
    exact hloop
  · (repeat (first | exact Fr.refl _ | refine Fr.push ?_ _ | refine Fr.set ?_ _ _ (by intro h; first | omega | (simp only [go_sem] at h; omega))))

theorem q_RGet_bad (b : Nat) (key : ByteArray) (H : AHeap) (hc : chk key [] ≠ 0) : CC F.ref24_Model_Get [.pointer (some ⟨b, 0, none⟩), .string key] H = some (.tuple #[.string (mk []), .int .i64 (chk key [])], H) := by
  have hk := q_RKey key H
  generalize chk key [] = e at hk hc
  apply pure_of _ (d_ref24_Model_Get _ _ H) rfl
  rotate_left 2
  · simp (disch := first | with_reducible rfl | assumption | omega | rfl | (simp only [go_sem]; first | done | omega)) only [go_sem, ↓reduceIte, reduceCtorEq, Nat.reduceEqDiff, Nat.reduceAdd, Nat.reduceSub, Nat.reduceMul, Nat.reduceDiv, Nat.reduceMod, Nat.reduceLeDiff, Nat.reduceLT, Nat.reduceBEq, Int.reduceEq, Int.reduceBEq, Int.reduceBNe, Int.reduceLT, Int.reduceLE, Int.reduceAdd, Int.reduceSub, Int.reduceNeg, Int.reduceToNat, Int.reducePow, Nat.reducePow, Int.reduceMul, Int.reduceDiv, ↓s_ref24_Model_Get, enterK_eq hk, hc]
    rfl
  · (repeat (first | exact Fr.refl _ | refine Fr.push ?_ _ | refine Fr.set ?_ _ _ (by intro h; first | omega | (simp only [go_sem] at h; omega))))

theorem q_RGet (b : Nat) (l : List Pr) (key : ByteArray) (H : AHeap) (r : MdlR H b l) (hs : Srt l) (hl : l.length < 4611686018427387904) (hc : chk key [] = 0) :
    CC F.ref24_Model_Get [.pointer (some ⟨b, 0, none⟩), .string key] H = some (getP l key (posP l key), H) := by
  have hk := q_RKey key H
  rw [hc] at hk
  have hf := q_find b l key H r hl
  rw [findP_eq hs] at hf
  generalize posP l key = p at hf ⊢
  obtain ⟨v, h1, h2, h3, h4⟩ := r
  unfold getP
  cases his : isP l key p with
  | false =>
    rw [his] at hf
    simp only [Bool.false_eq_true, if_false] at hf ⊢
    apply pure_of _ (d_ref24_Model_Get _ _ H) rfl
    rotate_left 2
    · simp (disch := first | with_reducible rfl | assumption | omega | rfl | (simp only [go_sem]; first | done | omega)) only [go_sem, ↓reduceIte, reduceCtorEq, Nat.reduceEqDiff, Nat.reduceAdd, Nat.reduceSub, Nat.reduceMul, Nat.reduceDiv, Nat.reduceMod, Nat.reduceLeDiff, Nat.reduceLT, Nat.reduceBEq, Int.reduceEq, Int.reduceBEq, Int.reduceBNe, Int.reduceLT, Int.reduceLE, Int.reduceAdd, Int.reduceSub, Int.reduceNeg, Int.reduceToNat, Int.reducePow, Nat.reducePow, Int.reduceMul, Int.reduceDiv, ↓s_ref24_Model_Get, enterK_eq hk, enterK_eq hf]
      rfl
    · (repeat (first | exact Fr.refl _ | refine Fr.push ?_ _ | refine Fr.set ?_ _ _ (by intro h; first | omega | (simp only [go_sem] at h; omega))))
  | true =>
    rw [his] at hf
    have hlt := isP_lt his
    obtain ⟨bb, o, hix, hb, hcc, _⟩ := h3.rd.ix (q := .i64) hlt
    have hix : ixS 2 v (.int .i64 p) = some (.pointer (some ⟨bb, o, none⟩)) := hix
    have hcc : cellB (H.f bb) (o + 1) = some (.string l[p].value) := cutB_cell hcc (i := 1) (by decide)
    have hge : ¬ (p : Int) < 0 := by omega
    simp only [if_true, List.getElem?_eq_getElem hlt, Option.elim] at hf ⊢
    apply pure_of _ (d_ref24_Model_Get _ _ H) rfl
    rotate_left 2
    · simp (disch := first | with_reducible rfl | assumption | omega | rfl | (simp only [go_sem]; first | done | omega)) only [go_sem, ↓reduceIte, reduceCtorEq, Nat.reduceEqDiff, Nat.reduceAdd, Nat.reduceSub, Nat.reduceMul, Nat.reduceDiv, Nat.reduceMod, Nat.reduceLeDiff, Nat.reduceLT, Nat.reduceBEq, Int.reduceEq, Int.reduceBEq, Int.reduceBNe, Int.reduceLT, Int.reduceLE, Int.reduceAdd, Int.reduceSub, Int.reduceNeg, Int.reduceToNat, Int.reducePow, Nat.reducePow, Int.reduceMul, Int.reduceDiv, ↓s_ref24_Model_Get, enterK_eq hk, enterK_eq hf, decide_eq_false hge, h1, hix, hcc]
      rfl
    · (repeat (first | exact Fr.refl _ | refine Fr.push ?_ _ | refine Fr.set ?_ _ _ (by intro h; first | omega | (simp only [go_sem] at h; omega))))

end Go.Proofs.Ytlagijfkkpbbnaa
