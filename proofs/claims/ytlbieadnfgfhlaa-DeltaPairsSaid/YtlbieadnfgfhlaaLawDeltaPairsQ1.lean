/-
  7 texts in one (merge.py): Ct Cv ShDeltaPairs DsDeltaPairs Cw Cx LawDeltaPairs.
  Conditions: none. By an AI agent.
-/
import Derived.Test.YtlbieadnfgfhlaaQb2
import Derived.Test.YtlbieadnfgfhlaaChecked
import Derived.KernelRfl
import Derived.Test.YtlbieadnfgfhlaaRows
import Derived.WalkKit
import Derived.ProofKit
import Derived.OpenShut
import Derived.ShutString
import Derived.ChangeOld
import Derived.Below
import Derived.SizedLaws
import Derived.ChangeArms
import Derived.Carry

/-
  Chapter 49: few changes; a field of a row's element is set; the law's own fits.
  Conditions: none. By an AI agent.
-/
set_option maxRecDepth 10000
set_option linter.unusedSimpArgs false
set_option linter.unusedVariables false
namespace Go.Proofs.Ytlbieadnfgfhlaa
open Go Eng

@[go_sem] theorem tt_bne : (true != true) = false := by rfl
@[go_sem] theorem ff_bne : (false != false) = false := by rfl
@[go_sem] theorem tt_beq : (true == true) = true := by rfl
@[go_sem] theorem ff_beq : (false == false) = true := by rfl

/-! ### A field of a row's element is set -/
theorem cells_setF {α : Type} (E : Enc α) : ∀ (l : List α) (i : Nat) (h : i < l.length) (j : Nat) (_ : j < E.w) (z : Value) (a : α), E.enc a = (E.enc l[i]).set j z → (E.cells l).set (i * E.w + j) z = E.cells (l.set i a)
  | [], _, h, _, _, _, _, _ => by simp at h
  | y :: l, 0, _, j, hj, z, a, ha => by
    rw [List.set_cons_zero, E.cells_cons, E.cells_cons, ha, Nat.zero_mul, Nat.zero_add, List.set_append_left _ _ (by rw [E.len]; exact hj)]
    rfl
  | y :: l, i + 1, h, j, hj, z, a, ha => by
    have hi : i < l.length := by simpa using h
    rw [List.set_cons_succ, E.cells_cons, E.cells_cons, ← cells_setF E l i hi j hj z a (by simpa using ha), List.set_append_right _ _ (by rw [E.len, Nat.add_mul]; omega), E.len]
    rw [show (i + 1) * E.w + j - E.w = i * E.w + j by rw [Nat.add_mul]; omega]
theorem Eng.Own.field {α : Type} {E : Enc α} {H : AHeap} {e : TypeId} {v : Value} {l : List α} (r : Own E H e v l) {i : Nat} (hi : i < l.length) {j : Nat} (hj : j < E.w) {z : Value} (hz : one z = true) {a : α} (ha : E.enc a = (E.enc l[i]).set j z) :
    ∃ b o H', ixS E.w v (.int .i64 (i : Int)) = some (.pointer (some ⟨b, o, none⟩)) ∧ cutB (H.f b) o E.w = some (E.enc l[i]) ∧ setB H b (wr1 (H.f b) (o + j) z) = some H' ∧ Own E H' e v (l.set i a) ∧ Fr (OnlyOf v) H H' := by
  obtain ⟨b', o', hix, _, hc, _⟩ := Rd.ix (Own.rd r) (q := .i64) hi
  rcases r with ⟨h, _⟩ | ⟨h, _⟩ | ⟨b, o, c, xs, rfl, hlc, hb, hf, ho, hx⟩
  · subst h; simp at hi
  · subst h; simp at hi
  · have hix2 : ixS E.w (.slice (some ⟨b, o, none⟩) l.length (2 * c + 1)) (.int .i64 (i : Int)) = some (.pointer (some ⟨b, o + i * E.w, none⟩)) := ixS_nat hi
    rw [hix2] at hix
    cases hix
    have hle : (i + 1) * E.w ≤ l.length * E.w := Nat.mul_le_mul_right _ hi
    have hle2 := Nat.mul_le_mul_right E.w hlc
    rw [Nat.add_mul, Nat.one_mul] at hle
    refine ⟨b', o + i * E.w, H.set b' (.cells (xs.set (o + i * E.w + j) z) e true), hix2, hc, ?_, ?_, Fr.set (Fr.refl H) _ _ fun _ => rfl⟩
    · rw [hf, wr1_c (by omega) hz, setB_s]
    · refine .inr (.inr ⟨b', o, c, _, by simp, by simpa using hlc, by simpa using hb, set_f_eq, by simpa using ho, ?_⟩)
      rw [List.length_set, ← cells_setF E l i hi j hj z a ha, ← hx, List.drop_set, if_neg (by omega), show o + i * E.w + j - o = i * E.w + j by omega, List.take_set]

/-! ### Few changes -/
theorem l_small (l : List Cg) (v : Value) (H : AHeap) (hr : Rd ECg H v l) : ∀ (x : List Cg) (i : Nat), l.drop i = x →
    (∀ K : K, l_law_small_0 v (.int .i64 (i : Int)) H (blkK [0] 0 K) = K .normal [(0, v)] H) ∨ (∀ K : K, l_law_small_0 v (.int .i64 (i : Int)) H (blkK [0] 0 K) = K .ret [(2, .bool false)] H)
  | [], i, hx => by
    have h : l.length ≤ i := List.drop_eq_nil_iff.1 hx
    have hlt : ¬ (i : Int) < (l.length : Int) := by omega
    have hlen := hr.lenS
    refine .inl fun K => ?_
    rw [r_law_small_0]
    simp (disch := first | with_reducible rfl | assumption | omega | rfl | (simp only [go_sem]; first | done | omega)) only [go_sem, ↓reduceIte, reduceCtorEq, Nat.reduceEqDiff, Nat.reduceAdd, Nat.reduceSub, Nat.reduceMul, Nat.reduceDiv, Nat.reduceMod, Nat.reduceLeDiff, Nat.reduceLT, Nat.reduceBEq, Int.reduceEq, Int.reduceBEq, Int.reduceBNe, Int.reduceLT, Int.reduceLE, Int.reduceAdd, Int.reduceSub, Int.reduceNeg, Int.reduceToNat, Int.reducePow, Nat.reducePow, Int.reduceMul, Int.reduceDiv, ↓s_law_small_b0, hlen, hlt]
  | c :: x, i, hx => by
    obtain ⟨h, hxa, hx'⟩ := drop_cons hx
    have hlt : (i : Int) < (l.length : Int) := by omega
    have hlen := hr.lenS
    obtain ⟨b1, o1, hix, hb1, hc1, _⟩ := hr.ix (q := .i64) h
    rw [hxa] at hc1
    have hix : ixS 5 v (.int .i64 i) = some (.pointer (some ⟨b1, o1, none⟩)) := hix
    have hc2 : cellB (H.f b1) o1 = some (.string c.key) := cutB_cell hc1 (i := 0) (by decide)
    have hc3 : cellB (H.f b1) (o1 + 3) = some (.string c.before) := cutB_cell hc1 (i := 3) (by decide)
    have hc4 : cellB (H.f b1) (o1 + 4) = some (.string c.after) := cutB_cell hc1 (i := 4) (by decide)
    by_cases hi : (i : Int) < 21
    · by_cases h1 : 30 < ((bl c.key).length : Int)
      · refine .inr fun K => ?_
        rw [r_law_small_0]
        simp (disch := first | with_reducible rfl | assumption | omega | rfl | (simp only [go_sem]; first | done | omega)) only [go_sem, ↓reduceIte, reduceCtorEq, Nat.reduceEqDiff, Nat.reduceAdd, Nat.reduceSub, Nat.reduceMul, Nat.reduceDiv, Nat.reduceMod, Nat.reduceLeDiff, Nat.reduceLT, Nat.reduceBEq, Int.reduceEq, Int.reduceBEq, Int.reduceBNe, Int.reduceLT, Int.reduceLE, Int.reduceAdd, Int.reduceSub, Int.reduceNeg, Int.reduceToNat, Int.reducePow, Nat.reducePow, Int.reduceMul, Int.reduceDiv, ↓s_law_small_b0, hlen, hlt, hi, hix, hc2, decide_eq_true h1]
      · by_cases h2 : 44 < ((bl c.before).length : Int)
        · refine .inr fun K => ?_
          rw [r_law_small_0]
          simp (disch := first | with_reducible rfl | assumption | omega | rfl | (simp only [go_sem]; first | done | omega)) only [go_sem, ↓reduceIte, reduceCtorEq, Nat.reduceEqDiff, Nat.reduceAdd, Nat.reduceSub, Nat.reduceMul, Nat.reduceDiv, Nat.reduceMod, Nat.reduceLeDiff, Nat.reduceLT, Nat.reduceBEq, Int.reduceEq, Int.reduceBEq, Int.reduceBNe, Int.reduceLT, Int.reduceLE, Int.reduceAdd, Int.reduceSub, Int.reduceNeg, Int.reduceToNat, Int.reducePow, Nat.reducePow, Int.reduceMul, Int.reduceDiv, ↓s_law_small_b0, hlen, hlt, hi, hix, hc2, hc3, decide_eq_false h1, decide_eq_true h2]
        · by_cases h3 : 44 < ((bl c.after).length : Int)
          · refine .inr fun K => ?_
            rw [r_law_small_0]
            simp (disch := first | with_reducible rfl | assumption | omega | rfl | (simp only [go_sem]; first | done | omega)) only [go_sem, ↓reduceIte, reduceCtorEq, Nat.reduceEqDiff, Nat.reduceAdd, Nat.reduceSub, Nat.reduceMul, Nat.reduceDiv, Nat.reduceMod, Nat.reduceLeDiff, Nat.reduceLT, Nat.reduceBEq, Int.reduceEq, Int.reduceBEq, Int.reduceBNe, Int.reduceLT, Int.reduceLE, Int.reduceAdd, Int.reduceSub, Int.reduceNeg, Int.reduceToNat, Int.reducePow, Nat.reducePow, Int.reduceMul, Int.reduceDiv, ↓s_law_small_b0, hlen, hlt, hi, hix, hc2, hc3, hc4, decide_eq_false h1, decide_eq_false h2, decide_eq_true h3]
          · have step : ∀ K : K, l_law_small_0 v (.int .i64 (i : Int)) H (blkK [0] 0 K) = l_law_small_0 v (.int .i64 ((i + 1 : Nat) : Int)) H (blkK [0] 0 K) := fun K => by
              rw [r_law_small_0, Int.natCast_add]
              simp (disch := first | with_reducible rfl | assumption | omega | rfl | (simp only [go_sem]; first | done | omega)) only [go_sem, ↓reduceIte, reduceCtorEq, Nat.reduceEqDiff, Nat.reduceAdd, Nat.reduceSub, Nat.reduceMul, Nat.reduceDiv, Nat.reduceMod, Nat.reduceLeDiff, Nat.reduceLT, Nat.reduceBEq, Int.reduceEq, Int.reduceBEq, Int.reduceBNe, Int.reduceLT, Int.reduceLE, Int.reduceAdd, Int.reduceSub, Int.reduceNeg, Int.reduceToNat, Int.reducePow, Nat.reducePow, Int.reduceMul, Int.reduceDiv, ↓s_law_small_b0, hlen, hlt, hi, hix, hc2, hc3, hc4, decide_eq_false h1, decide_eq_false h2, decide_eq_false h3]
            rcases l_small l v H hr x (i + 1) hx' with ih | ih
            · exact .inl fun K => (step K).trans (ih K)
            · exact .inr fun K => (step K).trans (ih K)
    · refine .inl fun K => ?_
      rw [r_law_small_0]
      simp (disch := first | with_reducible rfl | assumption | omega | rfl | (simp only [go_sem]; first | done | omega)) only [go_sem, ↓reduceIte, reduceCtorEq, Nat.reduceEqDiff, Nat.reduceAdd, Nat.reduceSub, Nat.reduceMul, Nat.reduceDiv, Nat.reduceMod, Nat.reduceLeDiff, Nat.reduceLT, Nat.reduceBEq, Int.reduceEq, Int.reduceBEq, Int.reduceBNe, Int.reduceLT, Int.reduceLE, Int.reduceAdd, Int.reduceSub, Int.reduceNeg, Int.reduceToNat, Int.reducePow, Nat.reducePow, Int.reduceMul, Int.reduceDiv, ↓s_law_small_b0, hlen, hlt, hi]
theorem q_small (l : List Cg) (v : Value) (H : AHeap) (hr : Rd ECg H v l) :
    ∃ b : Bool, CC F.law_small [v] H = some (.bool b, H) ∧ (b = true → l.length ≤ 20) := by
  have hlen := hr.lenS
  rcases l_small l v H hr l 0 rfl with hloop | hloop
  · refine ⟨decide ((l.length : Int) ≤ 20), ?_, fun h => by have := of_decide_eq_true h; omega⟩
    refine pure_of (H' := H) ?_ (d_law_small _ H) rfl (Fr.refl H)
    simp (disch := first | with_reducible rfl | assumption | omega | rfl | (simp only [go_sem]; first | done | omega)) only [go_sem, ↓reduceIte, reduceCtorEq, Nat.reduceEqDiff, Nat.reduceAdd, Nat.reduceSub, Nat.reduceMul, Nat.reduceDiv, Nat.reduceMod, Nat.reduceLeDiff, Nat.reduceLT, Nat.reduceBEq, Int.reduceEq, Int.reduceBEq, Int.reduceBNe, Int.reduceLT, Int.reduceLE, Int.reduceAdd, Int.reduceSub, Int.reduceNeg, Int.reduceToNat, Int.reducePow, Nat.reducePow, Int.reduceMul, Int.reduceDiv, ↓s_law_small]
    refine (hloop _).trans ?_
    simp (disch := first | with_reducible rfl | assumption | omega | rfl | (simp only [go_sem]; first | done | omega)) only [go_sem, ↓reduceIte, reduceCtorEq, Nat.reduceEqDiff, Nat.reduceAdd, Nat.reduceSub, Nat.reduceMul, Nat.reduceDiv, Nat.reduceMod, Nat.reduceLeDiff, Nat.reduceLT, Nat.reduceBEq, Int.reduceEq, Int.reduceBEq, Int.reduceBNe, Int.reduceLT, Int.reduceLE, Int.reduceAdd, Int.reduceSub, Int.reduceNeg, Int.reduceToNat, Int.reducePow, Nat.reducePow, Int.reduceMul, Int.reduceDiv, hlen]
  · refine ⟨false, ?_, fun h => by cases h⟩
    refine pure_of (H' := H) ?_ (d_law_small _ H) rfl (Fr.refl H)
    simp (disch := first | with_reducible rfl | assumption | omega | rfl | (simp only [go_sem]; first | done | omega)) only [go_sem, ↓reduceIte, reduceCtorEq, Nat.reduceEqDiff, Nat.reduceAdd, Nat.reduceSub, Nat.reduceMul, Nat.reduceDiv, Nat.reduceMod, Nat.reduceLeDiff, Nat.reduceLT, Nat.reduceBEq, Int.reduceEq, Int.reduceBEq, Int.reduceBNe, Int.reduceLT, Int.reduceLE, Int.reduceAdd, Int.reduceSub, Int.reduceNeg, Int.reduceToNat, Int.reducePow, Nat.reducePow, Int.reduceMul, Int.reduceDiv, ↓s_law_small]
    exact hloop _

/-! ### The law's own fits -/
theorem l_lfits (l : List Cg) (m : List Pr) (v : Value) (bm : Nat) (H : AHeap) (hr : Rd ECg H v l) (hl : l.length ≤ 1000000) (hb : ∀ c ∈ l, baseC c = true) (r : Mdl H bm m) (f : Fine m) : ∀ (x : List Cg) (i : Nat), l.drop i = x →
    (fitsC m x = true → ∀ K : K, l_law_fits_0 (.pointer (some ⟨bm, 0, none⟩)) v (.int .i64 (i : Int)) H (blkK [] 0 K) = K .normal [] H) ∧ (fitsC m x = false → ∀ K : K, l_law_fits_0 (.pointer (some ⟨bm, 0, none⟩)) v (.int .i64 (i : Int)) H (blkK [] 0 K) = K .ret [(4, .bool false)] H)
  | [], i, hx => by
    have h : l.length ≤ i := List.drop_eq_nil_iff.1 hx
    have hlt : ¬ (i : Int) < (l.length : Int) := by omega
    have hlen := hr.lenS
    refine ⟨fun _ K => ?_, fun h => by cases h⟩
    rw [r_law_fits_0]
    simp (disch := first | with_reducible rfl | assumption | omega | rfl | (simp only [go_sem]; first | done | omega)) only [go_sem, ↓reduceIte, reduceCtorEq, Nat.reduceEqDiff, Nat.reduceAdd, Nat.reduceSub, Nat.reduceMul, Nat.reduceDiv, Nat.reduceMod, Nat.reduceLeDiff, Nat.reduceLT, Nat.reduceBEq, Int.reduceEq, Int.reduceBEq, Int.reduceBNe, Int.reduceLT, Int.reduceLE, Int.reduceAdd, Int.reduceSub, Int.reduceNeg, Int.reduceToNat, Int.reducePow, Nat.reducePow, Int.reduceMul, Int.reduceDiv, ↓s_law_fits_b0, hlen, hlt]
  | c :: x, i, hx => by
    obtain ⟨h, hxa, hx'⟩ := drop_cons hx
    have hlt : (i : Int) < (l.length : Int) := by omega
    have hlen := hr.lenS
    obtain ⟨b1, o1, hix, hb1, hc1, _⟩ := hr.ix (q := .i64) h
    rw [hxa] at hc1
    have hix : ixS 5 v (.int .i64 i) = some (.pointer (some ⟨b1, o1, none⟩)) := hix
    have hc2 : cellB (H.f b1) o1 = some (.string c.key) := cutB_cell hc1 (i := 0) (by decide)
    have hc3 : cellB (H.f b1) (o1 + 1) = some (.bool c.was) := cutB_cell hc1 (i := 1) (by decide)
    have hc4 : cellB (H.f b1) (o1 + 3) = some (.string c.before) := cutB_cell hc1 (i := 3) (by decide)
    have hkc : chk c.key [] = 0 := base_key (hb c (by rw [← hxa]; exact List.getElem_mem h))
    have hg := q_getM bm m c.key H r f.srt f.len
    obtain ⟨s, e, g1, g2, g3⟩ := getE_is f.srt hkc
    rw [g1] at hg
    have hf : fitsC m (c :: x) = (fit1 m c && fitsC m x) := rfl
    have hf1 : fit1 m c = (!(decide (e = 0) != c.was) && decide (bl s = bl c.before)) := by unfold fit1; rw [g3, g2]
    obtain ⟨r1, r2⟩ := l_lfits l m v bm H hr hl hb r f x (i + 1) hx'
    cases hq : (decide (e = 0) != c.was) with
    | true =>
      have hz : fit1 m c = false := by rw [hf1, hq]; rfl
      refine ⟨fun h => by rw [hf, hz] at h; simp at h, fun _ K => ?_⟩
      rw [r_law_fits_0]
      simp (disch := first | with_reducible rfl | assumption | omega | rfl | (simp only [go_sem]; first | done | omega)) only [go_sem, ↓reduceIte, reduceCtorEq, Nat.reduceEqDiff, Nat.reduceAdd, Nat.reduceSub, Nat.reduceMul, Nat.reduceDiv, Nat.reduceMod, Nat.reduceLeDiff, Nat.reduceLT, Nat.reduceBEq, Int.reduceEq, Int.reduceBEq, Int.reduceBNe, Int.reduceLT, Int.reduceLE, Int.reduceAdd, Int.reduceSub, Int.reduceNeg, Int.reduceToNat, Int.reducePow, Nat.reducePow, Int.reduceMul, Int.reduceDiv, ↓s_law_fits_b0, hlen, hlt, hix, hc2, hc3, enterK_eq hg, hq]
    | false =>
      by_cases hbs : bl s = bl c.before
      · have hz : fit1 m c = true := by rw [hf1, hq, decide_eq_true hbs]; rfl
        rw [hf, hz, Bool.true_and]
        have step : ∀ K : K, l_law_fits_0 (.pointer (some ⟨bm, 0, none⟩)) v (.int .i64 (i : Int)) H (blkK [] 0 K) = l_law_fits_0 (.pointer (some ⟨bm, 0, none⟩)) v (.int .i64 ((i + 1 : Nat) : Int)) H (blkK [] 0 K) := fun K => by
          rw [r_law_fits_0, Int.natCast_add]
          simp (disch := first | with_reducible rfl | assumption | omega | rfl | (simp only [go_sem]; first | done | omega)) only [go_sem, ↓reduceIte, reduceCtorEq, Nat.reduceEqDiff, Nat.reduceAdd, Nat.reduceSub, Nat.reduceMul, Nat.reduceDiv, Nat.reduceMod, Nat.reduceLeDiff, Nat.reduceLT, Nat.reduceBEq, Int.reduceEq, Int.reduceBEq, Int.reduceBNe, Int.reduceLT, Int.reduceLE, Int.reduceAdd, Int.reduceSub, Int.reduceNeg, Int.reduceToNat, Int.reducePow, Nat.reducePow, Int.reduceMul, Int.reduceDiv, ↓s_law_fits_b0, hlen, hlt, hix, hc2, hc3, hc4, enterK_eq hg, hq, decide_eq_true hbs]
        exact ⟨fun h K => (step K).trans (r1 h K), fun h K => (step K).trans (r2 h K)⟩
      · have hz : fit1 m c = false := by rw [hf1, hq, decide_eq_false hbs]; rfl
        refine ⟨fun h => by rw [hf, hz] at h; simp at h, fun _ K => ?_⟩
        rw [r_law_fits_0]
        simp (disch := first | with_reducible rfl | assumption | omega | rfl | (simp only [go_sem]; first | done | omega)) only [go_sem, ↓reduceIte, reduceCtorEq, Nat.reduceEqDiff, Nat.reduceAdd, Nat.reduceSub, Nat.reduceMul, Nat.reduceDiv, Nat.reduceMod, Nat.reduceLeDiff, Nat.reduceLT, Nat.reduceBEq, Int.reduceEq, Int.reduceBEq, Int.reduceBNe, Int.reduceLT, Int.reduceLE, Int.reduceAdd, Int.reduceSub, Int.reduceNeg, Int.reduceToNat, Int.reducePow, Nat.reducePow, Int.reduceMul, Int.reduceDiv, ↓s_law_fits_b0, hlen, hlt, hix, hc2, hc3, hc4, enterK_eq hg, hq, decide_eq_false hbs]
theorem q_lfits (l : List Cg) (m : List Pr) (v : Value) (bm : Nat) (H : AHeap) (hr : Rd ECg H v l) (hl : l.length ≤ 1000000) (hb : ∀ c ∈ l, baseC c = true) (r : Mdl H bm m) (f : Fine m) :
    CC F.law_fits [.pointer (some ⟨bm, 0, none⟩), v] H = some (.bool (fitsC m l), H) := by
  obtain ⟨g1, g2⟩ := l_lfits l m v bm H hr hl hb r f l 0 rfl
  refine pure_of (H' := H) ?_ (d_law_fits _ _ H) rfl (Fr.refl H)
  cases h2 : fitsC m l with
  | true =>
    simp (disch := first | with_reducible rfl | assumption | omega | rfl | (simp only [go_sem]; first | done | omega)) only [go_sem, ↓reduceIte, reduceCtorEq, Nat.reduceEqDiff, Nat.reduceAdd, Nat.reduceSub, Nat.reduceMul, Nat.reduceDiv, Nat.reduceMod, Nat.reduceLeDiff, Nat.reduceLT, Nat.reduceBEq, Int.reduceEq, Int.reduceBEq, Int.reduceBNe, Int.reduceLT, Int.reduceLE, Int.reduceAdd, Int.reduceSub, Int.reduceNeg, Int.reduceToNat, Int.reducePow, Nat.reducePow, Int.reduceMul, Int.reduceDiv, ↓s_law_fits]
    refine (g1 h2 _).trans ?_
    simp (disch := first | with_reducible rfl | assumption | omega | rfl | (simp only [go_sem]; first | done | omega)) only [go_sem, ↓reduceIte, reduceCtorEq, Nat.reduceEqDiff, Nat.reduceAdd, Nat.reduceSub, Nat.reduceMul, Nat.reduceDiv, Nat.reduceMod, Nat.reduceLeDiff, Nat.reduceLT, Nat.reduceBEq, Int.reduceEq, Int.reduceBEq, Int.reduceBNe, Int.reduceLT, Int.reduceLE, Int.reduceAdd, Int.reduceSub, Int.reduceNeg, Int.reduceToNat, Int.reducePow, Nat.reducePow, Int.reduceMul, Int.reduceDiv]
  | false =>
    simp (disch := first | with_reducible rfl | assumption | omega | rfl | (simp only [go_sem]; first | done | omega)) only [go_sem, ↓reduceIte, reduceCtorEq, Nat.reduceEqDiff, Nat.reduceAdd, Nat.reduceSub, Nat.reduceMul, Nat.reduceDiv, Nat.reduceMod, Nat.reduceLeDiff, Nat.reduceLT, Nat.reduceBEq, Int.reduceEq, Int.reduceBEq, Int.reduceBNe, Int.reduceLT, Int.reduceLE, Int.reduceAdd, Int.reduceSub, Int.reduceNeg, Int.reduceToNat, Int.reducePow, Nat.reducePow, Int.reduceMul, Int.reduceDiv, ↓s_law_fits]
    refine (g2 h2 _).trans ?_
    simp (disch := first | with_reducible rfl | assumption | omega | rfl | (simp only [go_sem]; first | done | omega)) only [go_sem, ↓reduceIte, reduceCtorEq, Nat.reduceEqDiff, Nat.reduceAdd, Nat.reduceSub, Nat.reduceMul, Nat.reduceDiv, Nat.reduceMod, Nat.reduceLeDiff, Nat.reduceLT, Nat.reduceBEq, Int.reduceEq, Int.reduceBEq, Int.reduceBNe, Int.reduceLT, Int.reduceLE, Int.reduceAdd, Int.reduceSub, Int.reduceNeg, Int.reduceToNat, Int.reducePow, Nat.reducePow, Int.reduceMul, Int.reduceDiv]

/-! ### Changes as elements of an argument -/
theorem dec_bool {W : World} {H : Type} {enc : TypeId × Value → H} {e : TypeId} (he : Try.prog.underlying e = some .bool) {n : Nat} {y : DataW H × List MemPlace} {c : Value} (h : DataW.trod enc Try.prog W 0 (fun _ => true) true n e [c] = some y) :
    ∃ b, c = .bool b := by
  obtain ⟨b, h1, _⟩ := DataW.trod_bool he h
  exact ⟨b, (List.cons.inj h1).1⟩
theorem decCg {W : World} {H : Type} {enc : TypeId × Value → H} {cs : List Value} {n : Nat} {y : DataW H × List MemPlace} (h : DataW.trod enc Try.prog W 0 (fun _ => true) true n T.api_Change cs = some y) (hl : cs.length = ECg.w) :
    ∃ a : Cg, cs = ECg.enc a ∧ True ∧ cs.all plain = true := by
  have ht := Try.underlying26
  obtain ⟨c0, c1, c2, c3, c4, rfl⟩ : ∃ c0 c1 c2 c3 c4, cs = [c0, c1, c2, c3, c4] := by
    match cs, hl with
    | [c0, c1, c2, c3, c4], _ => exact ⟨_, _, _, _, _, rfl⟩
  obtain ⟨m0, z0, h0⟩ := dec_field ht h (i := 0) rfl rfl (by kernel_rfl) rfl
  obtain ⟨m1, z1, h1⟩ := dec_field ht h (i := 1) rfl rfl (by kernel_rfl) rfl
  obtain ⟨m2, z2, h2⟩ := dec_field ht h (i := 2) rfl rfl (by kernel_rfl) rfl
  obtain ⟨m3, z3, h3⟩ := dec_field ht h (i := 3) rfl rfl (by kernel_rfl) rfl
  obtain ⟨m4, z4, h4⟩ := dec_field ht h (i := 4) rfl rfl (by kernel_rfl) rfl
  obtain ⟨s0, rfl, _⟩ := dec_str Try.underlying9 h0
  obtain ⟨s1, rfl⟩ := dec_bool Try.underlying4 h1
  obtain ⟨s2, rfl⟩ := dec_bool Try.underlying4 h2
  obtain ⟨s3, rfl, _⟩ := dec_str Try.underlying9 h3
  obtain ⟨s4, rfl, _⟩ := dec_str Try.underlying9 h4
  exact ⟨⟨s0, s1, s2, s3, s4⟩, rfl, trivial, rfl⟩

end Go.Proofs.Ytlbieadnfgfhlaa

/-
  Chapter 49: the law's own find, keys and conflicts; lists that are arguments.
  Conditions: none. By an AI agent.
-/
set_option maxRecDepth 10000
set_option linter.unusedSimpArgs false
set_option linter.unusedVariables false
namespace Go.Proofs.Ytlbieadnfgfhlaa
open Go Eng

/-! ### find -/
theorem l_find (l : List Cg) (k : ByteArray) (v : Value) (bf : Nat) (H : AHeap) (hr : Rd ECg H v l) (hl : l.length ≤ 1000000) (f1 : H.f bf = .cells [.string (mk []), .bool false, .bool false, .string (mk []), .string (mk [])] T.api_Change true) : ∀ (x : List Cg) (i : Nat), l.drop i = x →
    (findC x k = none → ∀ K : K, l_law_find_0 v (.string k) (.pointer (some ⟨bf, 0, none⟩)) (.int .i64 (i : Int)) H (blkK [4] 0 K) = K .normal [(4, .pointer (some ⟨bf, 0, none⟩))] H) ∧
    (∀ c, findC x k = some c → ∀ K : K, l_law_find_0 v (.string k) (.pointer (some ⟨bf, 0, none⟩)) (.int .i64 (i : Int)) H (blkK [4] 0 K) = K .ret [(4, .pointer (some ⟨bf, 0, none⟩)), (5, .bool true)] (H.set bf (.cells [.string c.key, .bool c.was, .bool c.is, .string c.before, .string c.after] T.api_Change true)))
  | [], i, hx => by
    have h : l.length ≤ i := List.drop_eq_nil_iff.1 hx
    have hlt : ¬ (i : Int) < (l.length : Int) := by omega
    have hlen := hr.lenS
    refine ⟨fun _ K => ?_, fun c h => by cases h⟩
    rw [r_law_find_0]
    simp (disch := first | with_reducible rfl | assumption | omega | rfl | (simp only [go_sem]; first | done | omega)) only [go_sem, ↓reduceIte, reduceCtorEq, Nat.reduceEqDiff, Nat.reduceAdd, Nat.reduceSub, Nat.reduceMul, Nat.reduceDiv, Nat.reduceMod, Nat.reduceLeDiff, Nat.reduceLT, Nat.reduceBEq, Int.reduceEq, Int.reduceBEq, Int.reduceBNe, Int.reduceLT, Int.reduceLE, Int.reduceAdd, Int.reduceSub, Int.reduceNeg, Int.reduceToNat, Int.reducePow, Nat.reducePow, Int.reduceMul, Int.reduceDiv, ↓s_law_find_b0, hlen, hlt]
  | c :: x, i, hx => by
    obtain ⟨h, hxa, hx'⟩ := drop_cons hx
    have hlt : (i : Int) < (l.length : Int) := by omega
    have hlen := hr.lenS
    obtain ⟨b1, o1, hix, hb1, hc1, _⟩ := hr.ix (q := .i64) h
    rw [hxa] at hc1
    have hix : ixS 5 v (.int .i64 i) = some (.pointer (some ⟨b1, o1, none⟩)) := hix
    have hc2 : cellB (H.f b1) o1 = some (.string c.key) := cutB_cell hc1 (i := 0) (by decide)
    have hc1 : cutB (H.f b1) o1 5 = some [.string c.key, .bool c.was, .bool c.is, .string c.before, .string c.after] := hc1
    by_cases hk : bl c.key = bl k
    · have hk' : c.key = k := bl_inj hk
      refine ⟨fun h => (by rw [findC_cons, if_pos hk'] at h; cases h), fun d hd K => ?_⟩
      rw [findC_cons, if_pos hk'] at hd
      cases hd
      rw [r_law_find_0]
      simp (disch := first | with_reducible rfl | assumption | omega | rfl | (simp only [go_sem]; first | done | omega)) only [go_sem, ↓reduceIte, reduceCtorEq, Nat.reduceEqDiff, Nat.reduceAdd, Nat.reduceSub, Nat.reduceMul, Nat.reduceDiv, Nat.reduceMod, Nat.reduceLeDiff, Nat.reduceLT, Nat.reduceBEq, Int.reduceEq, Int.reduceBEq, Int.reduceBNe, Int.reduceLT, Int.reduceLE, Int.reduceAdd, Int.reduceSub, Int.reduceNeg, Int.reduceToNat, Int.reducePow, Nat.reducePow, Int.reduceMul, Int.reduceDiv, ↓s_law_find_b0, hlen, hlt, hix, hc2, hc1, f1, decide_eq_true hk]
    · have hk' : ¬ c.key = k := fun e => hk (by rw [e])
      have step : ∀ K : K, l_law_find_0 v (.string k) (.pointer (some ⟨bf, 0, none⟩)) (.int .i64 (i : Int)) H (blkK [4] 0 K) = l_law_find_0 v (.string k) (.pointer (some ⟨bf, 0, none⟩)) (.int .i64 ((i + 1 : Nat) : Int)) H (blkK [4] 0 K) := fun K => by
        rw [r_law_find_0, Int.natCast_add]
        simp (disch := first | with_reducible rfl | assumption | omega | rfl | (simp only [go_sem]; first | done | omega)) only [go_sem, ↓reduceIte, reduceCtorEq, Nat.reduceEqDiff, Nat.reduceAdd, Nat.reduceSub, Nat.reduceMul, Nat.reduceDiv, Nat.reduceMod, Nat.reduceLeDiff, Nat.reduceLT, Nat.reduceBEq, Int.reduceEq, Int.reduceBEq, Int.reduceBNe, Int.reduceLT, Int.reduceLE, Int.reduceAdd, Int.reduceSub, Int.reduceNeg, Int.reduceToNat, Int.reducePow, Nat.reducePow, Int.reduceMul, Int.reduceDiv, ↓s_law_find_b0, hlen, hlt, hix, hc2, decide_eq_false hk]
      obtain ⟨i1, i2⟩ := l_find l k v bf H hr hl f1 x (i + 1) hx'
      rw [findC_cons, if_neg hk']
      exact ⟨fun h K => (step K).trans (i1 h K), fun d hd K => (step K).trans (i2 d hd K)⟩
theorem q_find (l : List Cg) (k : ByteArray) (v : Value) (H : AHeap) (hr : Rd ECg H v l) (hl : l.length ≤ 1000000) :
    CC F.law_find [v, .string k] H = some (.tuple #[cgV ((findC l k).getD cg0), .bool (findC l k).isSome], H) := by
  generalize hH1 : H.push (.cells [.string (mk []), .bool false, .bool false, .string (mk []), .string (mk [])] T.api_Change true) = H1
  have s1 : Still H H1 := by rw [← hH1]; exact (Fr.refl H).push _
  have f1 : H1.f H.n = .cells [.string (mk []), .bool false, .bool false, .string (mk []), .string (mk [])] T.api_Change true := by rw [← hH1]; exact push_f_eq rfl
  obtain ⟨g1, g2⟩ := l_find l k v H.n H1 (hr.still s1) hl f1 l 0 rfl
  cases hf : findC l k with
  | none =>
    generalize hH2 : H1.set H.n (.cells [.string (mk []), .bool false, .bool false, .string (mk []), .string (mk [])] T.api_Change true) = H2
    have s2 : Still H H2 := by rw [← hH2]; exact Fr.set s1 _ _ (fun h => by omega)
    have f2 : H2.f H.n = .cells [.string (mk []), .bool false, .bool false, .string (mk []), .string (mk [])] T.api_Change true := by rw [← hH2]; exact set_f_eq
    show _ = some (Value.tuple #[.agg #[.string (mk []), .bool false, .bool false, .string (mk []), .string (mk [])], .bool false], H)
    refine pure_of (H' := H2) ?_ (d_law_find _ _ H) rfl s2
    simp (disch := first | with_reducible rfl | assumption | omega | rfl | (simp only [go_sem]; first | done | omega)) only [go_sem, ↓reduceIte, reduceCtorEq, Nat.reduceEqDiff, Nat.reduceAdd, Nat.reduceSub, Nat.reduceMul, Nat.reduceDiv, Nat.reduceMod, Nat.reduceLeDiff, Nat.reduceLT, Nat.reduceBEq, Int.reduceEq, Int.reduceBEq, Int.reduceBNe, Int.reduceLT, Int.reduceLE, Int.reduceAdd, Int.reduceSub, Int.reduceNeg, Int.reduceToNat, Int.reducePow, Nat.reducePow, Int.reduceMul, Int.reduceDiv, ↓s_law_find, hH1]
    refine (g1 hf _).trans ?_
    simp (disch := first | with_reducible rfl | assumption | omega | rfl | (simp only [go_sem]; first | done | omega)) only [go_sem, ↓reduceIte, reduceCtorEq, Nat.reduceEqDiff, Nat.reduceAdd, Nat.reduceSub, Nat.reduceMul, Nat.reduceDiv, Nat.reduceMod, Nat.reduceLeDiff, Nat.reduceLT, Nat.reduceBEq, Int.reduceEq, Int.reduceBEq, Int.reduceBNe, Int.reduceLT, Int.reduceLE, Int.reduceAdd, Int.reduceSub, Int.reduceNeg, Int.reduceToNat, Int.reducePow, Nat.reducePow, Int.reduceMul, Int.reduceDiv, f1, hH2, f2]
  | some c =>
    have g2 := g2 c hf
    generalize hH2 : H1.set H.n (.cells [.string c.key, .bool c.was, .bool c.is, .string c.before, .string c.after] T.api_Change true) = H2 at g2
    have s2 : Still H H2 := by rw [← hH2]; exact Fr.set s1 _ _ (fun h => by omega)
    have f2 : H2.f H.n = .cells [.string c.key, .bool c.was, .bool c.is, .string c.before, .string c.after] T.api_Change true := by rw [← hH2]; exact set_f_eq
    show _ = some (Value.tuple #[.agg #[.string c.key, .bool c.was, .bool c.is, .string c.before, .string c.after], .bool true], H)
    refine pure_of (H' := H2) ?_ (d_law_find _ _ H) rfl s2
    simp (disch := first | with_reducible rfl | assumption | omega | rfl | (simp only [go_sem]; first | done | omega)) only [go_sem, ↓reduceIte, reduceCtorEq, Nat.reduceEqDiff, Nat.reduceAdd, Nat.reduceSub, Nat.reduceMul, Nat.reduceDiv, Nat.reduceMod, Nat.reduceLeDiff, Nat.reduceLT, Nat.reduceBEq, Int.reduceEq, Int.reduceBEq, Int.reduceBNe, Int.reduceLT, Int.reduceLE, Int.reduceAdd, Int.reduceSub, Int.reduceNeg, Int.reduceToNat, Int.reducePow, Nat.reducePow, Int.reduceMul, Int.reduceDiv, ↓s_law_find, hH1]
    refine (g2 _).trans ?_
    simp (disch := first | with_reducible rfl | assumption | omega | rfl | (simp only [go_sem]; first | done | omega)) only [go_sem, ↓reduceIte, reduceCtorEq, Nat.reduceEqDiff, Nat.reduceAdd, Nat.reduceSub, Nat.reduceMul, Nat.reduceDiv, Nat.reduceMod, Nat.reduceLeDiff, Nat.reduceLT, Nat.reduceBEq, Int.reduceEq, Int.reduceBEq, Int.reduceBNe, Int.reduceLT, Int.reduceLE, Int.reduceAdd, Int.reduceSub, Int.reduceNeg, Int.reduceToNat, Int.reducePow, Nat.reducePow, Int.reduceMul, Int.reduceDiv, f2]

/-! ### keys -/
def kp (c : Cg) : Pr := ⟨c.key, mk []⟩
theorem l_keys0 (l : List Cg) (v w : Value) (Hz : AHeap) (b : Nat) (hr0 : Rd ECg Hz v l) (hl : l.length ≤ 1000000) : ∀ (x : List Cg) (i : Nat) (H : AHeap) (acc : List Pr), l.drop i = x → MdlN Hz H b acc → ∃ H', MdlN Hz H' b (fillF acc (x.map kp)) ∧
    ∀ K : K, l_law_keys_0 v w (.pointer (some ⟨b, 0, none⟩)) (.int .i64 (i : Int)) H (blkK [1, 5] 0 K) = K .normal [(1, w), (5, .pointer (some ⟨b, 0, none⟩))] H'
  | [], i, H, acc, hx, t => by
    have h : l.length ≤ i := List.drop_eq_nil_iff.1 hx
    have hlt : ¬ (i : Int) < (l.length : Int) := by omega
    have hlen := hr0.lenS
    refine ⟨H, t, fun K => ?_⟩
    rw [r_law_keys_0]
    simp (disch := first | with_reducible rfl | assumption | omega | rfl | (simp only [go_sem]; first | done | omega)) only [go_sem, ↓reduceIte, reduceCtorEq, Nat.reduceEqDiff, Nat.reduceAdd, Nat.reduceSub, Nat.reduceMul, Nat.reduceDiv, Nat.reduceMod, Nat.reduceLeDiff, Nat.reduceLT, Nat.reduceBEq, Int.reduceEq, Int.reduceBEq, Int.reduceBNe, Int.reduceLT, Int.reduceLE, Int.reduceAdd, Int.reduceSub, Int.reduceNeg, Int.reduceToNat, Int.reducePow, Nat.reducePow, Int.reduceMul, Int.reduceDiv, ↓s_law_keys_b0, hlen, hlt]
  | c :: x, i, H, acc, hx, t => by
    obtain ⟨h, hxa, hx'⟩ := drop_cons hx
    have hlt : (i : Int) < (l.length : Int) := by omega
    have hlen := hr0.lenS
    obtain ⟨b1, o1, hix, _, hc1, _⟩ := (hr0.still t.base).ix (q := .i64) h
    rw [hxa] at hc1
    have hix : ixS 5 v (.int .i64 i) = some (.pointer (some ⟨b1, o1, none⟩)) := hix
    have hc2 : cellB (H.f b1) o1 = some (.string c.key) := cutB_cell hc1 (i := 0) (by decide)
    obtain ⟨H1, hput, m1, u1⟩ := q_putM b acc (kp c) H t.ok t.m t.fine.srt t.fine.len
    obtain ⟨H', t', ih⟩ := l_keys0 l v w Hz b hr0 hl x (i + 1) H1 _ hx' (t.step m1 u1 (t.fine.put (kp c)))
    refine ⟨H', t', fun K => ?_⟩
    have ih := ih K
    rw [Int.natCast_add] at ih
    generalize (putE acc (kp c)).1 = e at hput
    have hput : CC F.model_Model_Put [.pointer (some ⟨b, 0, none⟩), .string c.key, .string (mk [])] H = some (.int .i64 e, H1) := hput
    rw [r_law_keys_0]
    simp (disch := first | with_reducible rfl | assumption | omega | rfl | (simp only [go_sem]; first | done | omega)) only [go_sem, ↓reduceIte, reduceCtorEq, Nat.reduceEqDiff, Nat.reduceAdd, Nat.reduceSub, Nat.reduceMul, Nat.reduceDiv, Nat.reduceMod, Nat.reduceLeDiff, Nat.reduceLT, Nat.reduceBEq, Int.reduceEq, Int.reduceBEq, Int.reduceBNe, Int.reduceLT, Int.reduceLE, Int.reduceAdd, Int.reduceSub, Int.reduceNeg, Int.reduceToNat, Int.reducePow, Nat.reducePow, Int.reduceMul, Int.reduceDiv, ↓s_law_keys_b0, hlen, hlt, hix, hc2, enterK_eq hput]
    exact ih
theorem l_keys1 (l : List Cg) (v : Value) (Hz : AHeap) (b : Nat) (hr0 : Rd ECg Hz v l) (hl : l.length ≤ 1000000) : ∀ (x : List Cg) (i : Nat) (H : AHeap) (acc : List Pr), l.drop i = x → MdlN Hz H b acc → ∃ H', MdlN Hz H' b (fillF acc (x.map kp)) ∧
    ∀ K : K, l_law_keys_1 v (.pointer (some ⟨b, 0, none⟩)) (.int .i64 (i : Int)) H (blkK [5] 2 K) = K .normal [(5, .pointer (some ⟨b, 0, none⟩))] H'
  | [], i, H, acc, hx, t => by
    have h : l.length ≤ i := List.drop_eq_nil_iff.1 hx
    have hlt : ¬ (i : Int) < (l.length : Int) := by omega
    have hlen := hr0.lenS
    refine ⟨H, t, fun K => ?_⟩
    rw [r_law_keys_1]
    simp (disch := first | with_reducible rfl | assumption | omega | rfl | (simp only [go_sem]; first | done | omega)) only [go_sem, ↓reduceIte, reduceCtorEq, Nat.reduceEqDiff, Nat.reduceAdd, Nat.reduceSub, Nat.reduceMul, Nat.reduceDiv, Nat.reduceMod, Nat.reduceLeDiff, Nat.reduceLT, Nat.reduceBEq, Int.reduceEq, Int.reduceBEq, Int.reduceBNe, Int.reduceLT, Int.reduceLE, Int.reduceAdd, Int.reduceSub, Int.reduceNeg, Int.reduceToNat, Int.reducePow, Nat.reducePow, Int.reduceMul, Int.reduceDiv, ↓s_law_keys_b1, hlen, hlt]
  | c :: x, i, H, acc, hx, t => by
    obtain ⟨h, hxa, hx'⟩ := drop_cons hx
    have hlt : (i : Int) < (l.length : Int) := by omega
    have hlen := hr0.lenS
    obtain ⟨b1, o1, hix, _, hc1, _⟩ := (hr0.still t.base).ix (q := .i64) h
    rw [hxa] at hc1
    have hix : ixS 5 v (.int .i64 i) = some (.pointer (some ⟨b1, o1, none⟩)) := hix
    have hc2 : cellB (H.f b1) o1 = some (.string c.key) := cutB_cell hc1 (i := 0) (by decide)
    obtain ⟨H1, hput, m1, u1⟩ := q_putM b acc (kp c) H t.ok t.m t.fine.srt t.fine.len
    obtain ⟨H', t', ih⟩ := l_keys1 l v Hz b hr0 hl x (i + 1) H1 _ hx' (t.step m1 u1 (t.fine.put (kp c)))
    refine ⟨H', t', fun K => ?_⟩
    have ih := ih K
    rw [Int.natCast_add] at ih
    generalize (putE acc (kp c)).1 = e at hput
    have hput : CC F.model_Model_Put [.pointer (some ⟨b, 0, none⟩), .string c.key, .string (mk [])] H = some (.int .i64 e, H1) := hput
    rw [r_law_keys_1]
    simp (disch := first | with_reducible rfl | assumption | omega | rfl | (simp only [go_sem]; first | done | omega)) only [go_sem, ↓reduceIte, reduceCtorEq, Nat.reduceEqDiff, Nat.reduceAdd, Nat.reduceSub, Nat.reduceMul, Nat.reduceDiv, Nat.reduceMod, Nat.reduceLeDiff, Nat.reduceLT, Nat.reduceBEq, Int.reduceEq, Int.reduceBEq, Int.reduceBNe, Int.reduceLT, Int.reduceLE, Int.reduceAdd, Int.reduceSub, Int.reduceNeg, Int.reduceToNat, Int.reducePow, Nat.reducePow, Int.reduceMul, Int.reduceDiv, ↓s_law_keys_b1, hlen, hlt, hix, hc2, enterK_eq hput]
    exact ih
theorem l_keys2 (l : List Pr) (v : Value) (Hz : AHeap) (hr0 : Rd EPr Hz v l) (hl : l.length ≤ 20000) : ∀ (x : List Pr) (i : Nat) (H : AHeap) (o : Value) (acc : List ByteArray), l.drop i = x → Still Hz H → Own EStr H T.string o acc → (∀ c, blockOf o = some c → Hz.n ≤ c) → acc.length ≤ i → ∃ o' H', Still Hz H' ∧ Own EStr H' T.string o' (acc ++ x.map Pr.key) ∧ (∀ c, blockOf o' = some c → Hz.n ≤ c) ∧
    ∀ K : K, l_law_keys_2 o v (.int .i64 (i : Int)) H (blkK [8] 4 K) = K .normal [(8, o')] H'
  | [], i, H, o, acc, hx, hs, ho, hob, hacc => by
    have h : l.length ≤ i := List.drop_eq_nil_iff.1 hx
    have hlt : ¬ (i : Int) < (l.length : Int) := by omega
    have hlen := hr0.lenS
    refine ⟨o, H, hs, by simpa using ho, hob, fun K => ?_⟩
    rw [r_law_keys_2]
    simp (disch := first | with_reducible rfl | assumption | omega | rfl | (simp only [go_sem]; first | done | omega)) only [go_sem, ↓reduceIte, reduceCtorEq, Nat.reduceEqDiff, Nat.reduceAdd, Nat.reduceSub, Nat.reduceMul, Nat.reduceDiv, Nat.reduceMod, Nat.reduceLeDiff, Nat.reduceLT, Nat.reduceBEq, Int.reduceEq, Int.reduceBEq, Int.reduceBNe, Int.reduceLT, Int.reduceLE, Int.reduceAdd, Int.reduceSub, Int.reduceNeg, Int.reduceToNat, Int.reducePow, Nat.reducePow, Int.reduceMul, Int.reduceDiv, ↓s_law_keys_b2, hlen, hlt]
  | p :: x, i, H, o, acc, hx, hs, ho, hob, hacc => by
    obtain ⟨h, hxa, hx'⟩ := drop_cons hx
    have hlt : (i : Int) < (l.length : Int) := by omega
    have hlen := hr0.lenS
    obtain ⟨b1, o1, hix, hb1, hc1, _⟩ := (hr0.still hs).ix (q := .i64) h
    rw [hxa] at hc1
    have hix : ixS 2 v (.int .i64 i) = some (.pointer (some ⟨b1, o1, none⟩)) := hix
    have hc2 : cellB (H.f b1) o1 = some (.string p.key) := cutB_cell hc1 (i := 0) (by decide)
    generalize hH2 : H.push (.cells [.string p.key] T.string true) = H2
    have s2 : Still H H2 := by rw [← hH2]; exact (Fr.refl H).push _
    have hlit := litS p.key H
    rw [hH2] at hlit
    have n0 := hs.n
    have n2 : H2.n = H.n + 1 := by rw [← hH2]; rfl
    obtain ⟨o', H3, happ, ho2, fr2, hb2⟩ := (ho.still s2).appE (m := [p.key]) (sz := 1) (bytes := 16) rfl (by simp; omega) (by simp; omega) (hlit.src (sz := 1) rfl)
    have hob' : ∀ d, blockOf o' = some d → Hz.n ≤ d := fun d hd => by
      rcases hb2 with hb | hb
      · rw [hb] at hd; exact hob d hd
      · rw [hb] at hd; cases hd; omega
    have s3 : Still Hz H3 := (hs.still.then s2 fun _ _ h => h).still.then fr2 fun d hd h => by have := hob d h; omega
    obtain ⟨o'', H', q1, q2, q3, ih⟩ := l_keys2 l v Hz hr0 hl x (i + 1) H3 o' _ hx' s3 ho2 hob' (by simp; omega)
    refine ⟨o'', H', q1, by rw [List.map_cons]; simpa using q2, q3, fun K => ?_⟩
    have ih := ih K
    rw [Int.natCast_add] at ih
    rw [r_law_keys_2]
    simp (disch := first | with_reducible rfl | assumption | omega | rfl | (simp only [go_sem]; first | done | omega)) only [go_sem, ↓reduceIte, reduceCtorEq, Nat.reduceEqDiff, Nat.reduceAdd, Nat.reduceSub, Nat.reduceMul, Nat.reduceDiv, Nat.reduceMod, Nat.reduceLeDiff, Nat.reduceLT, Nat.reduceBEq, Int.reduceEq, Int.reduceBEq, Int.reduceBNe, Int.reduceLT, Int.reduceLE, Int.reduceAdd, Int.reduceSub, Int.reduceNeg, Int.reduceToNat, Int.reducePow, Nat.reducePow, Int.reduceMul, Int.reduceDiv, ↓s_law_keys_b2, hlen, hlt, hix, hc2, hH2, happ]
    exact ih
theorem keys_eq {a b : List Cg} (ha : validC a = true) (hb : validC b = true) (hl : a.length + b.length ≤ 20000) : (fillF (fillF [] (a.map kp)) (b.map kp)).map Pr.key = mkeys a b := by
  obtain ⟨_, a2, a3⟩ := valid_all ha
  obtain ⟨_, b2, b3⟩ := valid_all hb
  have e : fillF (fillF [] (a.map kp)) (b.map kp) = fillF [] (a.map kp ++ b.map kp) := by unfold fillF; rw [List.foldl_append]
  rw [e]
  have ok : ∀ p ∈ a.map kp ++ b.map kp, chk p.key [p.value] = 0 := fun p hp => by
    rcases List.mem_append.1 hp with hp | hp
    · obtain ⟨c, hc, rfl⟩ := List.mem_map.1 hp
      exact chk_nil (base_two (a2 c hc)).1
    · obtain ⟨c, hc, rfl⟩ := List.mem_map.1 hp
      exact chk_nil (base_two (b2 c hc)).1
  have hf : Fine (fillF [] (a.map kp ++ b.map kp)) := Fine.nil.fill
  refine srtK_ext (List.pairwise_map.2 hf.srt) (mrg_srt a3 b3) fun k => ?_
  rw [(mrg_spec _ a b rfl a3 b3).1 k, List.mem_map, has_val, has_fill _ [] Fine.nil ok (by simpa using hl) k]
  constructor
  · rintro (h | ⟨p, hp, rfl⟩)
    · cases h
    · rcases List.mem_append.1 hp with hp | hp
      · obtain ⟨c, hc, rfl⟩ := List.mem_map.1 hp
        exact .inl ⟨c, hc, rfl⟩
      · obtain ⟨c, hc, rfl⟩ := List.mem_map.1 hp
        exact .inr ⟨c, hc, rfl⟩
  · rintro (⟨c, hc, rfl⟩ | ⟨c, hc, rfl⟩)
    · exact .inr ⟨kp c, List.mem_append_left _ (List.mem_map_of_mem hc), rfl⟩
    · exact .inr ⟨kp c, List.mem_append_right _ (List.mem_map_of_mem hc), rfl⟩
theorem q_keys (a b : List Cg) (va vb : Value) (H : AHeap) (ok : Ok H) (ra : Rd ECg H va a) (rb : Rd ECg H vb b) (ha : validC a = true) (hb : validC b = true) (hl : a.length + b.length ≤ 20000) :
    ∃ o H', CC F.law_keys [va, vb] H = some (o, H') ∧ Own EStr H' T.string o (mkeys a b) ∧ Still H H' ∧ New H o := by
  generalize hH1 : H.push (.cells [.slice none 0 0] T.model_Model true) = H1
  have s1 : Still H H1 := by rw [← hH1]; exact (Fr.refl H).push _
  have n1 : H1.n = H.n + 1 := by rw [← hH1]; rfl
  have f1 : H1.f H.n = .cells [.slice none 0 0] T.model_Model true := by rw [← hH1]; exact push_f_eq rfl
  have t1 : MdlN H H1 H.n [] := ⟨ok.fr s1, s1, ⟨_, f1, by omega, .inl ⟨rfl, rfl⟩, by simp [blockOf]⟩, (fun c h => by
    rcases h with h | ⟨u, hu, hb⟩
    · omega
    · rw [f1] at hu; cases hu; cases hb), Fine.nil⟩
  obtain ⟨H2, t2, hloop0⟩ := l_keys0 a va vb H H.n ra (by omega) a 0 H1 [] rfl t1
  obtain ⟨H3, t3, hloop1⟩ := l_keys1 b vb H H.n rb (by omega) b 0 H2 _ rfl t2
  have hk := keys_eq ha hb hl
  have hlm := t3.fine.len
  generalize fillF (fillF [] (a.map kp)) (b.map kp) = M at *
  obtain ⟨v4, H4, hp4, o4, s4, hn4⟩ := q_Pairs H.n M H3 t3.m (by omega)
  obtain ⟨o, H5, s5, o5, hob, hloop2⟩ := l_keys2 M v4 H4 o4.rd hlm M 0 H4 (.slice none 0 0) [] rfl (Fr.refl H4) (.inl ⟨rfl, rfl⟩) (fun c h => by cases h) (by simp)
  rw [List.nil_append, hk] at o5
  have s04 : Still H H4 := t3.base.still.then s4 fun _ _ h => h
  have n4 := s04.n
  have s05 : Still H H5 := s04.still.then s5 fun _ _ h => h
  obtain ⟨H6, hx, o6, s6⟩ := any_tidied (P := fun G => Own EStr G T.string o (mkeys a b)) (X := o) s05 o5 fun hg => row_one o5 hg
  refine ⟨o, H6, (d_law_keys _ _ H (r := (o, H5)) ?_).trans (congrArg some hx), o6, s6, fun d hd => by have := hob d hd; omega⟩
  simp (disch := first | with_reducible rfl | assumption | omega | rfl | (simp only [go_sem]; first | done | omega)) only [go_sem, ↓reduceIte, reduceCtorEq, Nat.reduceEqDiff, Nat.reduceAdd, Nat.reduceSub, Nat.reduceMul, Nat.reduceDiv, Nat.reduceMod, Nat.reduceLeDiff, Nat.reduceLT, Nat.reduceBEq, Int.reduceEq, Int.reduceBEq, Int.reduceBNe, Int.reduceLT, Int.reduceLE, Int.reduceAdd, Int.reduceSub, Int.reduceNeg, Int.reduceToNat, Int.reducePow, Nat.reducePow, Int.reduceMul, Int.reduceDiv, ↓s_law_keys, hH1]
  refine (hloop0 _).trans ?_
  simp (disch := first | with_reducible rfl | assumption | omega | rfl | (simp only [go_sem]; first | done | omega)) only [go_sem, ↓reduceIte, reduceCtorEq, Nat.reduceEqDiff, Nat.reduceAdd, Nat.reduceSub, Nat.reduceMul, Nat.reduceDiv, Nat.reduceMod, Nat.reduceLeDiff, Nat.reduceLT, Nat.reduceBEq, Int.reduceEq, Int.reduceBEq, Int.reduceBNe, Int.reduceLT, Int.reduceLE, Int.reduceAdd, Int.reduceSub, Int.reduceNeg, Int.reduceToNat, Int.reducePow, Nat.reducePow, Int.reduceMul, Int.reduceDiv]
  refine (hloop1 _).trans ?_
  simp (disch := first | with_reducible rfl | assumption | omega | rfl | (simp only [go_sem]; first | done | omega)) only [go_sem, ↓reduceIte, reduceCtorEq, Nat.reduceEqDiff, Nat.reduceAdd, Nat.reduceSub, Nat.reduceMul, Nat.reduceDiv, Nat.reduceMod, Nat.reduceLeDiff, Nat.reduceLT, Nat.reduceBEq, Int.reduceEq, Int.reduceBEq, Int.reduceBNe, Int.reduceLT, Int.reduceLE, Int.reduceAdd, Int.reduceSub, Int.reduceNeg, Int.reduceToNat, Int.reducePow, Nat.reducePow, Int.reduceMul, Int.reduceDiv, enterK_eq hp4]
  refine (hloop2 _).trans ?_
  simp (disch := first | with_reducible rfl | assumption | omega | rfl | (simp only [go_sem]; first | done | omega)) only [go_sem, ↓reduceIte, reduceCtorEq, Nat.reduceEqDiff, Nat.reduceAdd, Nat.reduceSub, Nat.reduceMul, Nat.reduceDiv, Nat.reduceMod, Nat.reduceLeDiff, Nat.reduceLT, Nat.reduceBEq, Int.reduceEq, Int.reduceBEq, Int.reduceBNe, Int.reduceLT, Int.reduceLE, Int.reduceAdd, Int.reduceSub, Int.reduceNeg, Int.reduceToNat, Int.reducePow, Nat.reducePow, Int.reduceMul, Int.reduceDiv]

/-! ### conflicts -/
theorem l_lconf (l : List ByteArray) (v w : Value) (H : AHeap) (hv : Rd EStr H v l) (hw : Rd EStr H w l) (hl : l.length ≤ 1000000) (K : K) : ∀ (x : List ByteArray) (i : Nat), l.drop i = x →
    l_law_conflicts_0 w v (.int .i64 (i : Int)) H (blkK [] 0 K) = K .normal [] H
  | [], i, hx => by
    have h : l.length ≤ i := List.drop_eq_nil_iff.1 hx
    have hlt : ¬ (i : Int) < (l.length : Int) := by omega
    have hlen := hv.lenS
    rw [r_law_conflicts_0]
    simp (disch := first | with_reducible rfl | assumption | omega | rfl | (simp only [go_sem]; first | done | omega)) only [go_sem, ↓reduceIte, reduceCtorEq, Nat.reduceEqDiff, Nat.reduceAdd, Nat.reduceSub, Nat.reduceMul, Nat.reduceDiv, Nat.reduceMod, Nat.reduceLeDiff, Nat.reduceLT, Nat.reduceBEq, Int.reduceEq, Int.reduceBEq, Int.reduceBNe, Int.reduceLT, Int.reduceLE, Int.reduceAdd, Int.reduceSub, Int.reduceNeg, Int.reduceToNat, Int.reducePow, Nat.reducePow, Int.reduceMul, Int.reduceDiv, ↓s_law_conflicts_b0, hlen, hlt]
  | a :: x, i, hx => by
    obtain ⟨h, hxa, hx'⟩ := drop_cons hx
    have hlt : (i : Int) < (l.length : Int) := by omega
    have hlen := hv.lenS
    obtain ⟨b1, o1, hix1, _, hc1, _⟩ := hv.ix (q := .i64) h
    obtain ⟨b2, o2, hix2, _, hc2, _⟩ := hw.ix (q := .i64) h
    rw [hxa] at hc1 hc2
    have hix1 : ixS 1 v (.int .i64 i) = some (.pointer (some ⟨b1, o1, none⟩)) := hix1
    have hix2 : ixS 1 w (.int .i64 i) = some (.pointer (some ⟨b2, o2, none⟩)) := hix2
    have hc1 : cellB (H.f b1) o1 = some (.string a) := cutB_cell hc1 (i := 0) (by decide)
    have hc2 : cellB (H.f b2) o2 = some (.string a) := cutB_cell hc2 (i := 0) (by decide)
    have ih := l_lconf l v w H hv hw hl K x (i + 1) hx'
    rw [Int.natCast_add] at ih
    rw [r_law_conflicts_0]
    simp (disch := first | with_reducible rfl | assumption | omega | rfl | (simp only [go_sem]; first | done | omega)) only [go_sem, ↓reduceIte, reduceCtorEq, Nat.reduceEqDiff, Nat.reduceAdd, Nat.reduceSub, Nat.reduceMul, Nat.reduceDiv, Nat.reduceMod, Nat.reduceLeDiff, Nat.reduceLT, Nat.reduceBEq, Int.reduceEq, Int.reduceBEq, Int.reduceBNe, Int.reduceLT, Int.reduceLE, Int.reduceAdd, Int.reduceSub, Int.reduceNeg, Int.reduceToNat, Int.reducePow, Nat.reducePow, Int.reduceMul, Int.reduceDiv, ↓s_law_conflicts_b0, hlen, hlt, hix1, hc1, hix2, hc2]
    exact ih
theorem q_lconf_no (va vb : Value) (e : Int) (H : AHeap) (h : CC F.delta_Conflicts [va, vb] H = some (.tuple #[.slice none 0 0, .int .i64 e], H)) : CC F.law_conflicts [va, vb, .slice none 0 0, .int .i64 e] H = some (.bool true, H) := by
  refine pure_of (H' := H) ?_ (d_law_conflicts _ _ _ _ H) rfl (Fr.refl H)
  simp (disch := first | with_reducible rfl | assumption | omega | rfl | (simp only [go_sem]; first | done | omega)) only [go_sem, ↓reduceIte, reduceCtorEq, Nat.reduceEqDiff, Nat.reduceAdd, Nat.reduceSub, Nat.reduceMul, Nat.reduceDiv, Nat.reduceMod, Nat.reduceLeDiff, Nat.reduceLT, Nat.reduceBEq, Int.reduceEq, Int.reduceBEq, Int.reduceBNe, Int.reduceLT, Int.reduceLE, Int.reduceAdd, Int.reduceSub, Int.reduceNeg, Int.reduceToNat, Int.reducePow, Nat.reducePow, Int.reduceMul, Int.reduceDiv, ↓s_law_conflicts, enterK_eq h]
  refine (l_lconf [] (.slice none 0 0) (.slice none 0 0) H (.inl ⟨rfl, rfl⟩) (.inl ⟨rfl, rfl⟩) (by simp) _ [] 0 rfl).trans ?_
  simp (disch := first | with_reducible rfl | assumption | omega | rfl | (simp only [go_sem]; first | done | omega)) only [go_sem, ↓reduceIte, reduceCtorEq, Nat.reduceEqDiff, Nat.reduceAdd, Nat.reduceSub, Nat.reduceMul, Nat.reduceDiv, Nat.reduceMod, Nat.reduceLeDiff, Nat.reduceLT, Nat.reduceBEq, Int.reduceEq, Int.reduceBEq, Int.reduceBNe, Int.reduceLT, Int.reduceLE, Int.reduceAdd, Int.reduceSub, Int.reduceNeg, Int.reduceToNat, Int.reducePow, Nat.reducePow, Int.reduceMul, Int.reduceDiv]
theorem q_lconf (va vb w v : Value) (l : List ByteArray) (H H' : AHeap) (h : CC F.delta_Conflicts [va, vb] H = some (.tuple #[v, .int .i64 0], H')) (o : Rd EStr H' v l) (s : Still H H') (hw : Rd EStr H w l) (hl : l.length ≤ 1000000) : CC F.law_conflicts [va, vb, w, .int .i64 0] H = some (.bool true, H) := by
  have h1 := o.lenS
  have h2 := hw.lenS
  refine pure_of (H' := H') ?_ (d_law_conflicts _ _ _ _ H) rfl s
  simp (disch := first | with_reducible rfl | assumption | omega | rfl | (simp only [go_sem]; first | done | omega)) only [go_sem, ↓reduceIte, reduceCtorEq, Nat.reduceEqDiff, Nat.reduceAdd, Nat.reduceSub, Nat.reduceMul, Nat.reduceDiv, Nat.reduceMod, Nat.reduceLeDiff, Nat.reduceLT, Nat.reduceBEq, Int.reduceEq, Int.reduceBEq, Int.reduceBNe, Int.reduceLT, Int.reduceLE, Int.reduceAdd, Int.reduceSub, Int.reduceNeg, Int.reduceToNat, Int.reducePow, Nat.reducePow, Int.reduceMul, Int.reduceDiv, ↓s_law_conflicts, enterK_eq h, h1, h2]
  refine (l_lconf l v w H' o (hw.still s) hl _ l 0 rfl).trans ?_
  simp (disch := first | with_reducible rfl | assumption | omega | rfl | (simp only [go_sem]; first | done | omega)) only [go_sem, ↓reduceIte, reduceCtorEq, Nat.reduceEqDiff, Nat.reduceAdd, Nat.reduceSub, Nat.reduceMul, Nat.reduceDiv, Nat.reduceMod, Nat.reduceLeDiff, Nat.reduceLT, Nat.reduceBEq, Int.reduceEq, Int.reduceBEq, Int.reduceBNe, Int.reduceLT, Int.reduceLE, Int.reduceAdd, Int.reduceSub, Int.reduceNeg, Int.reduceToNat, Int.reducePow, Nat.reducePow, Int.reduceMul, Int.reduceDiv]

/-! ### Lists that are arguments -/
theorem convA_slice {n : Nat} {u : Value} {a : Option Addr} {l c : Nat} (h : convA n u = .slice a l c) : (a = none ∧ l = 0 ∧ c = 0) ∨ ∃ b o k, a = some ⟨b, o, none⟩ ∧ b < n ∧ l ≤ k ∧ c = 2 * k := by
  cases u with
  | slice a0 l0 c0 =>
    have h : conv n (.slice a0 l0 c0) = .slice a l c := h
    unfold conv at h
    split at h
    all_goals first
      | (rename_i heq; cases heq)
      | skip
    all_goals first
      | (cases h; exact .inl ⟨rfl, rfl, rfl⟩)
      | (split at h
         · rename_i hb; cases h; exact .inr ⟨_, _, _, rfl, hb.1, hb.2, rfl⟩
         · simp [top] at h)
      | simp [top] at h
  | _ => simp [convA, conv, top] at h <;> (repeat' split at h) <;> simp_all
theorem arg_conv {W : World} {u : Value} {l : List Cg} (r : Rd ECg (absHeap W) (convA W.heap.size u) l) : Arg (absHeap W) (convA W.heap.size u) l := by
  obtain ⟨a, c, hv⟩ := r.shape
  rcases convA_slice hv with ⟨rfl, h0, rfl⟩ | ⟨b, o, k, rfl, hb, hk, rfl⟩
  · have : l = [] := List.length_eq_zero_iff.1 h0
    subst this
    rw [hv]
    exact Arg.nil _
  · rw [hv] at r ⊢
    exact ⟨⟨r, .inr ⟨b, o, 2 * k, rfl, by omega, .inl (by omega)⟩⟩, fun c hc => by cases hc; exact hb⟩

end Go.Proofs.Ytlbieadnfgfhlaa

/-
  The seat's functions as terms over the engine's combinators (a program of ours printed it).
  Conditions: none. By an AI agent.
-/
set_option linter.unusedVariables false
namespace Go.Proofs.Ytlbieadnfgfhlaa
open Go Eng

/-! ticketline.ticketlinelaw49.DeltaPairs -/

noncomputable def s_law_DeltaPairs (mg : GT) (mc : CT) (ms : ST) (P : Program) (C : CallF) (L0 : Value → Value → Value → AHeap → K → Res) (L1 : Value → Value → Value → Value → Value → Value → Value → Value → AHeap → K → Res) (a0 : Value) (a1 : Value) (a2 : Value) (H : AHeap) (K0 : K) : Res :=
enterK C F.law_small [a0] H fun t23 h1 =>
bareK (xun P .not t23) h1 fun t24 h2 =>
mg t24 false (fun o1 => o1 a1 h2) h2 fun t26 h3 =>
mg t24 false (fun o2 => enterK C F.law_small [t26] h3 o2) h3 fun t27 h4 =>
mg t24 false (fun o3 => bareK (xun P .not t27) h4 o3) h4 fun t28 h5 =>
pickK t24 (.bool true) t28 fun t29 =>
mc t29 (fun k4 => enterK C F.law_known [] h5 fun t30 h6 =>
k4 .ret [(6, t30)] h6) (fun k4 =>
k4 .normal [(0, a0), (1, a1), (2, a2)] h5) (seqK (fun tT h7 =>
mc (get tT 2) (fun k5 => bothK (app T.api_Change 5 56 (.slice none 0 0) (srcS 5 (get tT 1) h7) h7) fun t33 h8 =>
ms (fun k6 =>
L0 (get tT 0) t33 (.int .i64 0) h8 (blkK [0, 1] 0 k6)) (afterK [0, 1] k5)) (fun k5 =>
k5 .normal [(0, (get tT 0)), (1, (get tT 1))] h7) (seqK (fun tT_1 h9 =>
enterK C F.law_valid [(get tT_1 0)] h9 fun t64 h10 =>
bareK (xun P .not t64) h10 fun t65 h11 =>
mg t65 false (fun o7 => o7 (get tT_1 1) h11) h11 fun t67 h12 =>
mg t65 false (fun o8 => enterK C F.law_valid [t67] h12 o8) h12 fun t68 h13 =>
mg t65 false (fun o9 => bareK (xun P .not t68) h13 o9) h13 fun t69 h14 =>
pickK t65 (.bool true) t69 fun t70 =>
mc t70 (fun k10 => enterK C F.law_togethers [(get tT_1 0), (get tT_1 1), (.slice none 0 0), (.int .i64 2)] h14 fun t73 h15 =>
mg t73 true (fun o11 => o11 (get tT_1 0) h15) h15 fun t75 h16 =>
mg t73 true (fun o12 => o12 (get tT_1 1) h16) h16 fun t76 h17 =>
mg t73 true (fun o13 => enterK C F.law_merges [t75, t76, (.slice none 0 0), (.int .i64 2)] h17 o13) h17 fun t77 h18 =>
pickK t73 t77 (.bool false) fun t78 =>
mg t78 true (fun o14 => o14 (get tT_1 0) h18) h18 fun t80 h19 =>
mg t78 true (fun o15 => o15 (get tT_1 1) h19) h19 fun t81 h20 =>
mg t78 true (fun o16 => enterK C F.law_conflicts [t80, t81, (.slice none 0 0), (.int .i64 2)] h20 o16) h20 fun t82 h21 =>
pickK t78 t82 (.bool false) fun t83 =>
mg t83 true (fun o17 => enterK C F.law_known [] h21 o17) h21 fun t85 h22 =>
pickK t83 t85 (.bool false) fun t86 =>
k10 .ret [(6, t86)] h22) (fun k10 =>
k10 .normal [(0, (get tT_1 0)), (1, (get tT_1 1))] h14) (seqK (fun tT_2 h23 =>
enterK C F.law_keys [(get tT_2 0), (get tT_2 1)] h23 fun t89 h24 =>
ms (fun k18 =>
L1 (get tT_2 0) (get tT_2 1) (.slice none 0 0) (.slice none 0 0) (.slice none 0 0) (.bool true) t89 (.int .i64 0) h24 (blkK [0, 1, 10, 11, 12, 13] 2 k18)) (seqK (fun tT_3 h25 =>
bareK (xun P .not (get tT_3 13)) h25 fun t184 h26 =>
mc t184 (fun k19 => k19 .normal [(0, (get tT_3 0)), (1, (get tT_3 1)), (10, (.slice none 0 0)), (11, (get tT_3 11)), (12, (get tT_3 12)), (21, (.int .i64 10))] h26) (fun k19 =>
k19 .normal [(0, (get tT_3 0)), (1, (get tT_3 1)), (10, (get tT_3 10)), (11, (get tT_3 11)), (12, (get tT_3 12)), (21, (.int .i64 0))] h26) (seqK (fun tT_4 h27 =>
enterK C F.law_togethers [(get tT_4 0), (get tT_4 1), (get tT_4 10), (get tT_4 21)] h27 fun t189 h28 =>
bareK (xun P .not t189) h28 fun t190 h29 =>
mg t190 false (fun o20 => o20 (get tT_4 0) h29) h29 fun t192 h30 =>
mg t190 false (fun o21 => o21 (get tT_4 1) h30) h30 fun t193 h31 =>
mg t190 false (fun o22 => o22 (get tT_4 12) h31) h31 fun t194 h32 =>
mg t190 false (fun o23 => enterK C F.law_conflicts [t192, t193, t194, (.int .i64 0)] h32 o23) h32 fun t195 h33 =>
mg t190 false (fun o24 => bareK (xun P .not t195) h33 o24) h33 fun t196 h34 =>
pickK t190 (.bool true) t196 fun t197 =>
mc t197 (fun k25 => k25 .ret [(6, (.bool false))] h34) (fun k25 =>
k25 .normal [(0, (get tT_4 0)), (1, (get tT_4 1)), (11, (get tT_4 11)), (12, (get tT_4 12))] h34) (seqK (fun tT_5 h35 =>
bareK (lenS (get tT_5 12)) h35 fun t199 h36 =>
bareK (xbin P .gtr T.int (.tmp 199) (.const (.int .i64 0)) t199 (.int .i64 0)) h36 fun t200 h37 =>
mc t200 (fun k26 => enterK C F.law_merges [(get tT_5 0), (get tT_5 1), (.slice none 0 0), (.int .i64 11)] h37 fun t203 h38 =>
mg t203 true (fun o27 => enterK C F.law_known [] h38 o27) h38 fun t205 h39 =>
pickK t203 t205 (.bool false) fun t206 =>
k26 .ret [(6, t206)] h39) (fun k26 =>
k26 .normal [(0, (get tT_5 0)), (1, (get tT_5 1)), (11, (get tT_5 11))] h37) (seqK (fun tT_6 h40 =>
enterK C F.law_merges [(get tT_6 0), (get tT_6 1), (get tT_6 11), (.int .i64 0)] h40 fun t210 h41 =>
mg t210 true (fun o28 => enterK C F.law_known [] h41 o28) h41 fun t212 h42 =>
pickK t210 t212 (.bool false) fun t213 =>
K0 .ret [(6, t213)] h42) K0)) K0)) K0)) K0)) K0)) K0)) K0)

noncomputable def s_law_DeltaPairs_b0 (mg : GT) (mc : CT) (ms : ST) (P : Program) (C : CallF) (L0 : Value → Value → Value → AHeap → K → Res) (L1 : Value → Value → Value → Value → Value → Value → Value → Value → AHeap → K → Res) (v0 : Value) (v1 : Value) (v7 : Value) (H : AHeap) (k : K) : Res :=
bareK (lenS v1) H fun t36 h9 =>
bareK (xbin P .lss T.int (.tmp 34) (.tmp 36) v7 t36) h9 fun t37 h10 =>
mc t37 (fun k7 => k7 .normal [(0, v0), (1, v1), (7, v7)] h10) (fun k7 =>
k7 (.exit 0) [(37, t37), (36, t36), (35, v1), (34, v7), (0, v0), (1, v1), (7, v7)] h10) (seqK (fun tT h11 =>
ms (fun k8 =>
bareK (ixS 5 (get tT 1) (get tT 7)) h11 fun t44 h12 =>
bareK (fad 0 t44) h12 fun t45 h13 =>
bareK (ld1 h13 t45) h13 fun t46 h14 =>
enterK C F.law_find [(get tT 0), t46] h14 fun t47 h15 =>
bareK (xextract t47 0) h15 fun t48 h16 =>
bareK (xextract t47 1) h16 fun t49 h17 =>
bothK (newv T.api_Change (.agg #[(.string (mk [])), (.bool false), (.bool false), (.string (mk [])), (.string (mk []))]) h17) fun t8 h18 =>
quietK (stN 5 h18 t8 t48) fun _ h19 =>
mc t49 (fun k9 => bareK (fad 2 t8) h19 fun t55 h20 =>
bareK (ld1 h20 t55) h20 fun t56 h21 =>
bareK (fad 4 t8) h21 fun t57 h22 =>
bareK (ld1 h22 t57) h22 fun t58 h23 =>
bareK (ixS 5 (get tT 1) (get tT 7)) h23 fun t59 h24 =>
bareK (fad 1 t59) h24 fun t60 h25 =>
quietK (st1 h25 t60 t56) fun _ h26 =>
bareK (ixS 5 (get tT 1) (get tT 7)) h26 fun t61 h27 =>
bareK (fad 3 t61) h27 fun t62 h28 =>
quietK (st1 h28 t62 t58) fun _ h29 =>
checkK (okV (some true) none h25 h26 h19 h19 && (okV (some true) none h25 h26 h19 h19 && (okV (some true) none h25 h26 h21 h22 && (okV (some true) (blockOf t57) h25 h26 h22 h23 && true)))) <|
k9 .normal [(0, (get tT 0)), (1, (get tT 1)), (7, (get tT 7))] h29) (fun k9 =>
k9 .normal [(0, (get tT 0)), (1, (get tT 1)), (7, (get tT 7))] h19) (blkK [0, 1, 7] 1 k8)) (seqK (fun tT_1 h30 =>
bareK (xbin P .add T.int (.tmp 38) (.const (.int .i64 1)) (get tT_1 7) (.int .i64 1)) h30 fun t39 h31 =>
k .normal [(0, (get tT_1 0)), (1, (get tT_1 1)), (7, t39)] h31) (afterK [0, 1, 7] k))) (afterK [0, 1, 7] k))

noncomputable def s_law_DeltaPairs_b1 (mg : GT) (mc : CT) (ms : ST) (P : Program) (C : CallF) (L0 : Value → Value → Value → AHeap → K → Res) (L1 : Value → Value → Value → Value → Value → Value → Value → Value → AHeap → K → Res) (v0 : Value) (v1 : Value) (v10 : Value) (v11 : Value) (v12 : Value) (v13 : Value) (v14 : Value) (v15 : Value) (H : AHeap) (k : K) : Res :=
bareK (lenS v14) H fun t92 h25 =>
bareK (xbin P .lss T.int (.tmp 90) (.tmp 92) v15 t92) h25 fun t93 h26 =>
mc t93 (fun k19 => k19 .normal [(0, v0), (1, v1), (10, v10), (11, v11), (12, v12), (13, v13), (14, v14), (15, v15)] h26) (fun k19 =>
k19 (.exit 2) [(93, t93), (92, t92), (91, v14), (90, v15), (0, v0), (1, v1), (10, v10), (11, v11), (12, v12), (13, v13), (14, v14), (15, v15)] h26) (seqK (fun tT h27 =>
ms (fun k20 =>
bareK (ixS 1 (get tT 14) (get tT 15)) h27 fun t100 h28 =>
bareK (ld1 h28 t100) h28 fun t101 h29 =>
enterK C F.law_find [(get tT 0), t101] h29 fun t102 h30 =>
bareK (xextract t102 0) h30 fun t103 h31 =>
bareK (xextract t102 1) h31 fun t104 h32 =>
bothK (newv T.api_Change (.agg #[(.string (mk [])), (.bool false), (.bool false), (.string (mk [])), (.string (mk []))]) h32) fun t16 h33 =>
quietK (stN 5 h33 t16 t103) fun _ h34 =>
bareK (ixS 1 (get tT 14) (get tT 15)) h34 fun t109 h35 =>
bareK (ld1 h35 t109) h35 fun t110 h36 =>
enterK C F.law_find [(get tT 1), t110] h36 fun t111 h37 =>
bareK (xextract t111 0) h37 fun t112 h38 =>
bareK (xextract t111 1) h38 fun t113 h39 =>
bothK (newv T.api_Change (.agg #[(.string (mk [])), (.bool false), (.bool false), (.string (mk [])), (.string (mk []))]) h39) fun t18 h40 =>
quietK (stN 5 h40 t18 t112) fun _ h41 =>
ms (fun k21 =>
bareK (xun P .not t113) h41 fun t116 h42 =>
mc t116 (fun k22 => bareK (ldN 5 h42 t16) h42 fun t118 h43 =>
bothK (bldL T.api_Change [(.string (mk [])), (.bool false), (.bool false), (.string (mk [])), (.string (mk []))] 1 [(0, t118)] h43) fun t119 h44 =>
bothK (app T.api_Change 5 56 (get tT 10) (srcS 5 t119 h44) h44) fun t120 h45 =>
bareK (ldN 5 h45 t16) h45 fun t122 h46 =>
bothK (bldL T.api_Change [(.string (mk [])), (.bool false), (.bool false), (.string (mk [])), (.string (mk []))] 1 [(0, t122)] h46) fun t123 h47 =>
bothK (app T.api_Change 5 56 (get tT 11) (srcS 5 t123 h47) h47) fun t124 h48 =>
checkK (okV (some true) none h44 h45 h45 h45 && (okV (some true) (blockOf t16) h44 h45 h45 h46 && (okV (some true) none h44 h45 h46 h47 && true))) <|
k22 (.exit 3) ((11, t124) :: (10, t120) :: (124, t124) :: (123, t123) :: (122, t122) :: (121, (get tT 11)) :: (120, t120) :: (119, t119) :: (118, t118) :: (117, (get tT 10)) :: (114, t116) :: (116, t116) :: (115, t113) :: (19, t113) :: (18, t18) :: (113, t113) :: (112, t112) :: (105, t111) :: (111, t111) :: (110, t110) :: (109, t109) :: (108, (get tT 15)) :: (107, (get tT 14)) :: (106, (get tT 1)) :: (17, t104) :: (16, t16) :: (104, t104) :: (103, t103) :: (96, t102) :: (102, t102) :: (101, t101) :: (100, t100) :: (99, (get tT 15)) :: (98, (get tT 14)) :: (97, (get tT 0)) :: tT) h48) (fun k22 =>
bareK (xun P .not t104) h42 fun t127 h49 =>
mc t127 (fun k23 => bareK (ldN 5 h49 t18) h49 fun t129 h50 =>
bothK (bldL T.api_Change [(.string (mk [])), (.bool false), (.bool false), (.string (mk [])), (.string (mk []))] 1 [(0, t129)] h50) fun t130 h51 =>
bothK (app T.api_Change 5 56 (get tT 10) (srcS 5 t130 h51) h51) fun t131 h52 =>
bareK (ldN 5 h52 t18) h52 fun t133 h53 =>
bothK (bldL T.api_Change [(.string (mk [])), (.bool false), (.bool false), (.string (mk [])), (.string (mk []))] 1 [(0, t133)] h53) fun t134 h54 =>
bothK (app T.api_Change 5 56 (get tT 11) (srcS 5 t134 h54) h54) fun t135 h55 =>
checkK (okV (some true) none h51 h52 h52 h52 && (okV (some true) (blockOf t18) h51 h52 h52 h53 && (okV (some true) none h51 h52 h53 h54 && true))) <|
k23 (.exit 3) ((11, t135) :: (10, t131) :: (135, t135) :: (134, t134) :: (133, t133) :: (132, (get tT 11)) :: (131, t131) :: (130, t130) :: (129, t129) :: (128, (get tT 10)) :: (125, t127) :: (127, t127) :: (126, t104) :: (114, t116) :: (116, t116) :: (115, t113) :: (19, t113) :: (18, t18) :: (113, t113) :: (112, t112) :: (105, t111) :: (111, t111) :: (110, t110) :: (109, t109) :: (108, (get tT 15)) :: (107, (get tT 14)) :: (106, (get tT 1)) :: (17, t104) :: (16, t16) :: (104, t104) :: (103, t103) :: (96, t102) :: (102, t102) :: (101, t101) :: (100, t100) :: (99, (get tT 15)) :: (98, (get tT 14)) :: (97, (get tT 0)) :: tT) h55) (fun k23 =>
k23 .normal [(0, (get tT 0)), (1, (get tT 1)), (10, (get tT 10)), (11, (get tT 11)), (12, (get tT 12)), (13, (get tT 13)), (14, (get tT 14)), (15, (get tT 15)), (16, t16), (18, t18)] h49) (afterK [0, 1, 10, 11, 12, 13, 14, 15, 16, 18] k22)) (blkK [0, 1, 10, 11, 12, 13, 14, 15, 16, 18] 4 k21)) (seqK (fun tT_1 h56 =>
bareK (ldN 5 h56 (get tT_1 16)) h56 fun t137 h57 =>
bothK (bldL T.api_Change [(.string (mk [])), (.bool false), (.bool false), (.string (mk [])), (.string (mk []))] 1 [(0, t137)] h57) fun t138 h58 =>
bothK (app T.api_Change 5 56 (get tT_1 11) (srcS 5 t138 h58) h58) fun t139 h59 =>
bareK (ldN 5 h59 (get tT_1 16)) h59 fun t140 h60 =>
bareK (ldN 5 h60 (get tT_1 18)) h60 fun t141 h61 =>
bareK (xbin P .neq T.api_Change (.tmp 140) (.tmp 141) t140 t141) h61 fun t142 h62 =>
mc t142 (fun k24 => bareK (ixS 1 (get tT_1 14) (get tT_1 15)) h62 fun t146 h63 =>
bareK (ld1 h63 t146) h63 fun t147 h64 =>
bothK (bldL T.string [(.string (mk []))] 1 [(0, t147)] h64) fun t148 h65 =>
bothK (app T.string 1 16 (get tT_1 12) (srcS 1 t148 h65) h65) fun t149 h66 =>
k24 .normal [(0, (get tT_1 0)), (1, (get tT_1 1)), (10, (get tT_1 10)), (11, t139), (12, t149), (13, (get tT_1 13)), (14, (get tT_1 14)), (15, (get tT_1 15)), (16, (get tT_1 16)), (18, (get tT_1 18))] h66) (fun k24 =>
k24 .normal [(0, (get tT_1 0)), (1, (get tT_1 1)), (10, (get tT_1 10)), (11, t139), (12, (get tT_1 12)), (13, (get tT_1 13)), (14, (get tT_1 14)), (15, (get tT_1 15)), (16, (get tT_1 16)), (18, (get tT_1 18))] h62) (seqK (fun tT_2 h67 =>
mg (get tT_2 13) true (fun o25 => bareK (fad 2 (get tT_2 16)) h67 o25) h67 fun t152 h68 =>
mg (get tT_2 13) true (fun o26 => bareK (ld1 h68 t152) h68 o26) h68 fun t153 h69 =>
mg (get tT_2 13) true (fun o27 => bareK (fad 1 (get tT_2 18)) h69 o27) h69 fun t154 h70 =>
mg (get tT_2 13) true (fun o28 => bareK (ld1 h70 t154) h70 o28) h70 fun t155 h71 =>
mg (get tT_2 13) true (fun o29 => bareK (xbin P .eql T.bool (.tmp 153) (.tmp 155) t153 t155) h71 o29) h71 fun t156 h72 =>
pickK (get tT_2 13) t156 (.bool false) fun t157 =>
mg t157 true (fun o30 => bareK (fad 4 (get tT_2 16)) h72 o30) h72 fun t159 h73 =>
mg t157 true (fun o31 => bareK (ld1 h73 t159) h73 o31) h73 fun t160 h74 =>
mg t157 true (fun o32 => bareK (fad 3 (get tT_2 18)) h74 o32) h74 fun t161 h75 =>
mg t157 true (fun o33 => bareK (ld1 h75 t161) h75 o33) h75 fun t162 h76 =>
mg t157 true (fun o34 => bareK (xbin P .eql T.string (.tmp 160) (.tmp 162) t160 t162) h76 o34) h76 fun t163 h77 =>
pickK t157 t163 (.bool false) fun t164 =>
bareK (fad 0 (get tT_2 16)) h77 fun t165 h78 =>
bareK (ld1 h78 t165) h78 fun t166 h79 =>
bareK (fad 1 (get tT_2 16)) h79 fun t167 h80 =>
bareK (ld1 h80 t167) h80 fun t168 h81 =>
bareK (fad 2 (get tT_2 18)) h81 fun t169 h82 =>
bareK (ld1 h82 t169) h82 fun t170 h83 =>
bareK (fad 3 (get tT_2 16)) h83 fun t171 h84 =>
bareK (ld1 h84 t171) h84 fun t172 h85 =>
bareK (fad 4 (get tT_2 18)) h85 fun t173 h86 =>
bareK (ld1 h86 t173) h86 fun t174 h87 =>
bareK (bldS #[(.string (mk [])), (.bool false), (.bool false), (.string (mk [])), (.string (mk []))] [(0, 1), (1, 1), (2, 1), (3, 1), (4, 1)] [(0, t166), (1, t168), (2, t170), (3, t172), (4, t174)]) h87 fun t175 h88 =>
bothK (newv T.api_Change (.agg #[(.string (mk [])), (.bool false), (.bool false), (.string (mk [])), (.string (mk []))]) h88) fun t20 h89 =>
quietK (stN 5 h89 t20 t175) fun _ h90 =>
bareK (ldN 5 h90 t20) h90 fun t176 h91 =>
enterK C F.law_none [t176] h91 fun t177 h92 =>
bareK (xun P .not t177) h92 fun t178 h93 =>
mc t178 (fun k35 => bareK (ldN 5 h93 t20) h93 fun t180 h94 =>
bothK (bldL T.api_Change [(.string (mk [])), (.bool false), (.bool false), (.string (mk [])), (.string (mk []))] 1 [(0, t180)] h94) fun t181 h95 =>
bothK (app T.api_Change 5 56 (get tT_2 10) (srcS 5 t181 h95) h95) fun t182 h96 =>
k35 .normal [(0, (get tT_2 0)), (1, (get tT_2 1)), (10, t182), (11, (get tT_2 11)), (12, (get tT_2 12)), (13, t164), (14, (get tT_2 14)), (15, (get tT_2 15))] h96) (fun k35 =>
k35 .normal [(0, (get tT_2 0)), (1, (get tT_2 1)), (10, (get tT_2 10)), (11, (get tT_2 11)), (12, (get tT_2 12)), (13, t164), (14, (get tT_2 14)), (15, (get tT_2 15))] h93) (blkK [0, 1, 10, 11, 12, 13, 14, 15] 3 k20)) (blkK [0, 1, 10, 11, 12, 13, 14, 15] 3 k20))) (blkK [0, 1, 10, 11, 12, 13, 14, 15] 3 k20))) (seqK (fun tT_3 h97 =>
bareK (xbin P .add T.int (.tmp 94) (.const (.int .i64 1)) (get tT_3 15) (.int .i64 1)) h97 fun t95 h98 =>
k .normal [(0, (get tT_3 0)), (1, (get tT_3 1)), (10, (get tT_3 10)), (11, (get tT_3 11)), (12, (get tT_3 12)), (13, (get tT_3 13)), (14, (get tT_3 14)), (15, t95)] h98) (afterK [0, 1, 10, 11, 12, 13, 14, 15] k))) (afterK [0, 1, 10, 11, 12, 13, 14, 15] k))

theorem s_law_DeltaPairs_eq (M : CombL) (C : CallF) (LP : LoopH) (a0 : Value) (a1 : Value) (a2 : Value) (H : AHeap) : dBodyL M Try.prog hints C LP F.law_DeltaPairs [a0, a1, a2] H = s_law_DeltaPairs M.b.g M.c M.s Try.prog C (fun v0 v1 v7 H k => loopL M Try.prog hints C LP F.law_DeltaPairs 0 [(0, v0), (1, v1), (7, v7)] H k) (fun v0 v1 v10 v11 v12 v13 v14 v15 H k => loopL M Try.prog hints C LP F.law_DeltaPairs 1 [(0, v0), (1, v1), (10, v10), (11, v11), (12, v12), (13, v13), (14, v14), (15, v15)] H k) a0 a1 a2 H (endK Try.prog [.tmp 6]) := by kernel_rfl

theorem s_law_DeltaPairs_b0_eq (M : CombL) (C : CallF) (LP : LoopH) (v0 : Value) (v1 : Value) (v7 : Value) (H : AHeap) (k : K) : bodyL M Try.prog hints C LP F.law_DeltaPairs 0 [(0, v0), (1, v1), (7, v7)] H (afterK [0, 1, 7] k) = s_law_DeltaPairs_b0 M.b.g M.c M.s Try.prog C (fun v0 v1 v7 H k => loopL M Try.prog hints C LP F.law_DeltaPairs 0 [(0, v0), (1, v1), (7, v7)] H k) (fun v0 v1 v10 v11 v12 v13 v14 v15 H k => loopL M Try.prog hints C LP F.law_DeltaPairs 1 [(0, v0), (1, v1), (10, v10), (11, v11), (12, v12), (13, v13), (14, v14), (15, v15)] H k) v0 v1 v7 H k := by kernel_rfl

theorem s_law_DeltaPairs_b1_eq (M : CombL) (C : CallF) (LP : LoopH) (v0 : Value) (v1 : Value) (v10 : Value) (v11 : Value) (v12 : Value) (v13 : Value) (v14 : Value) (v15 : Value) (H : AHeap) (k : K) : bodyL M Try.prog hints C LP F.law_DeltaPairs 1 [(0, v0), (1, v1), (10, v10), (11, v11), (12, v12), (13, v13), (14, v14), (15, v15)] H (afterK [0, 1, 10, 11, 12, 13, 14, 15] k) = s_law_DeltaPairs_b1 M.b.g M.c M.s Try.prog C (fun v0 v1 v7 H k => loopL M Try.prog hints C LP F.law_DeltaPairs 0 [(0, v0), (1, v1), (7, v7)] H k) (fun v0 v1 v10 v11 v12 v13 v14 v15 H k => loopL M Try.prog hints C LP F.law_DeltaPairs 1 [(0, v0), (1, v1), (10, v10), (11, v11), (12, v12), (13, v13), (14, v14), (15, v15)] H k) v0 v1 v10 v11 v12 v13 v14 v15 H k := by kernel_rfl

end Go.Proofs.Ytlbieadnfgfhlaa

/-
  The equations of the seat's functions over calls in the limit (a program of ours printed it).
  Conditions: none. By an AI agent.
-/
set_option linter.unusedVariables false
namespace Go.Proofs.Ytlbieadnfgfhlaa
open Go Eng



noncomputable def l_law_DeltaPairs_0 (v0 : Value) (v1 : Value) (v7 : Value) (H : AHeap) (k : K) : Res := loopL stdL Try.prog hints CC limLP F.law_DeltaPairs 0 [(0, v0), (1, v1), (7, v7)] H k
noncomputable def l_law_DeltaPairs_1 (v0 : Value) (v1 : Value) (v10 : Value) (v11 : Value) (v12 : Value) (v13 : Value) (v14 : Value) (v15 : Value) (H : AHeap) (k : K) : Res := loopL stdL Try.prog hints CC limLP F.law_DeltaPairs 1 [(0, v0), (1, v1), (10, v10), (11, v11), (12, v12), (13, v13), (14, v14), (15, v15)] H k
theorem r_law_DeltaPairs_0 (v0 : Value) (v1 : Value) (v7 : Value) (H : AHeap) (k : K) : l_law_DeltaPairs_0 v0 v1 v7 H k = s_law_DeltaPairs_b0 guardK condL shareL Try.prog CC l_law_DeltaPairs_0 l_law_DeltaPairs_1 v0 v1 v7 H (seqK (fun T H => l_law_DeltaPairs_0 (get T 0) (get T 1) (get T 7) H k) k) := ((loopL_next (by kernel_rfl) rfl H k).trans (s_law_DeltaPairs_b0_eq stdL CC limLP v0 v1 v7 H _)).trans (by kernel_rfl)
theorem r_law_DeltaPairs_1 (v0 : Value) (v1 : Value) (v10 : Value) (v11 : Value) (v12 : Value) (v13 : Value) (v14 : Value) (v15 : Value) (H : AHeap) (k : K) : l_law_DeltaPairs_1 v0 v1 v10 v11 v12 v13 v14 v15 H k = s_law_DeltaPairs_b1 guardK condL shareL Try.prog CC l_law_DeltaPairs_0 l_law_DeltaPairs_1 v0 v1 v10 v11 v12 v13 v14 v15 H (seqK (fun T H => l_law_DeltaPairs_1 (get T 0) (get T 1) (get T 10) (get T 11) (get T 12) (get T 13) (get T 14) (get T 15) H k) k) := ((loopL_next (by kernel_rfl) rfl H k).trans (s_law_DeltaPairs_b1_eq stdL CC limLP v0 v1 v10 v11 v12 v13 v14 v15 H _)).trans (by kernel_rfl)
theorem d_law_DeltaPairs (a0 : Value) (a1 : Value) (a2 : Value) (H : AHeap) {r : Value × AHeap} (h : s_law_DeltaPairs guardK condL shareL Try.prog CC l_law_DeltaPairs_0 l_law_DeltaPairs_1 a0 a1 a2 H (endK Try.prog [.tmp 6]) = some r) : CC F.law_DeltaPairs [a0, a1, a2] H = some (tidy H r) := D_body (by kernel_rfl) ((s_law_DeltaPairs_eq stdL CC limLP a0 a1 a2 H).trans (Eq.trans (show s_law_DeltaPairs stdL.b.g stdL.c stdL.s Try.prog CC (fun v0 v1 v7 H k => loopL stdL Try.prog hints CC limLP F.law_DeltaPairs 0 [(0, v0), (1, v1), (7, v7)] H k) (fun v0 v1 v10 v11 v12 v13 v14 v15 H k => loopL stdL Try.prog hints CC limLP F.law_DeltaPairs 1 [(0, v0), (1, v1), (10, v10), (11, v11), (12, v12), (13, v13), (14, v14), (15, v15)] H k) a0 a1 a2 H (endK Try.prog [.tmp 6]) = s_law_DeltaPairs guardK condL shareL Try.prog CC l_law_DeltaPairs_0 l_law_DeltaPairs_1 a0 a1 a2 H (endK Try.prog [.tmp 6]) by kernel_rfl) h))

end Go.Proofs.Ytlbieadnfgfhlaa

/-
  Chapter 49: one round of the law DeltaPairs (printed by gen_pairs.py).
  Conditions: none. By an AI agent.
-/
set_option maxRecDepth 10000
set_option linter.unusedSimpArgs false
set_option linter.unusedVariables false
namespace Go.Proofs.Ytlbieadnfgfhlaa
open Go Eng

/-- What the law lists. -/
def oneL (e : Both) : List Cg := if e.2.2.2 = false then [e.1] else if e.2.2.1 = false then [e.2.1] else if noneC (togC e) = true then [] else [togC e]
/-- Three rows that grow. -/
structure Tri (Hz H : AHeap) (o1 : Value) (l1 : List Cg) (o2 : Value) (l2 : List Cg) (o3 : Value) (l3 : List ByteArray) : Prop where
  ok : Ok H
  base : Still Hz H
  w1 : Own ECg H T.api_Change o1 l1
  w2 : Own ECg H T.api_Change o2 l2
  w3 : Own EStr H T.string o3 l3
  lo1 : ∀ c, blockOf o1 = some c → Hz.n ≤ c
  lo2 : ∀ c, blockOf o2 = some c → Hz.n ≤ c
  lo3 : ∀ c, blockOf o3 = some c → Hz.n ≤ c
  d12 : ∀ c, blockOf o1 = some c → ¬ blockOf o2 = some c
  d13 : ∀ c, blockOf o1 = some c → ¬ blockOf o3 = some c
  d23 : ∀ c, blockOf o2 = some c → ¬ blockOf o3 = some c
theorem Tri.still {Hz H H' : AHeap} {o1 o2 o3 : Value} {l1 l2 : List Cg} {l3 : List ByteArray} (t : Tri Hz H o1 l1 o2 l2 o3 l3) (s : Still H H') : Tri Hz H' o1 l1 o2 l2 o3 l3 :=
  ⟨t.ok.fr s, t.base.still.then s fun _ _ h => h, t.w1.still s, t.w2.still s, t.w3.still s, t.lo1, t.lo2, t.lo3, t.d12, t.d13, t.d23⟩
theorem Tri.one {Hz H : AHeap} {o1 o2 o3 : Value} {l1 l2 : List Cg} {l3 : List ByteArray} (t : Tri Hz H o1 l1 o2 l2 o3 l3) (hl : l1.length ≤ 1000) (c : Cg) :
    ∃ o' H1 H2, H.push (.cells [.string c.key, .bool c.was, .bool c.is, .string c.before, .string c.after] T.api_Change true) = H1 ∧ Eng.app T.api_Change 5 56 o1 (srcS 5 (.slice (some ⟨H.n, 0, none⟩) 1 2) H1) H1 = some (o', H2) ∧ Tri Hz H2 o' (l1 ++ [c]) o2 l2 o3 l3 ∧ Still H H1 ∧ Fr (OnlyOf o1) H1 H2 := by
  generalize hH1 : H.push (.cells [.string c.key, .bool c.was, .bool c.is, .string c.before, .string c.after] T.api_Change true) = H1
  have s1 : Still H H1 := by rw [← hH1]; exact (Fr.refl H).push _
  have t1 := t.still s1
  have hlit := litC c H
  rw [hH1] at hlit
  obtain ⟨o', H2, happ, ho, fr, hb⟩ := t1.w1.appE (m := [c]) (sz := 5) (bytes := 56) rfl (by simp; omega) (by simp; omega) (hlit.src (sz := 5) rfl)
  have n1 := t1.base.n
  refine ⟨o', H1, H2, rfl, happ, ⟨t1.ok.fr fr, t1.base.still.then fr fun d hd h => by have := t.lo1 d h; omega, ho, t1.w2.keep fr fun d hd h => t.d12 d h hd, t1.w3.keep fr fun d hd h => t.d13 d h hd, fun d hd => ?_, t.lo2, t.lo3, fun d hd => ?_, fun d hd => ?_, t.d23⟩, s1, fr⟩
  · rcases hb with hb | hb
    · rw [hb] at hd; exact t.lo1 d hd
    · rw [hb] at hd; cases hd; exact n1
  · rcases hb with hb | hb
    · rw [hb] at hd; exact t.d12 d hd
    · rw [hb] at hd; cases hd; exact fun h => by have := t1.w2.blk h; omega
  · rcases hb with hb | hb
    · rw [hb] at hd; exact t.d13 d hd
    · rw [hb] at hd; cases hd; exact fun h => by have := t1.w3.blk h; omega
theorem Tri.two {Hz H : AHeap} {o1 o2 o3 : Value} {l1 l2 : List Cg} {l3 : List ByteArray} (t : Tri Hz H o1 l1 o2 l2 o3 l3) (hl : l2.length ≤ 1000) (c : Cg) :
    ∃ o' H1 H2, H.push (.cells [.string c.key, .bool c.was, .bool c.is, .string c.before, .string c.after] T.api_Change true) = H1 ∧ Eng.app T.api_Change 5 56 o2 (srcS 5 (.slice (some ⟨H.n, 0, none⟩) 1 2) H1) H1 = some (o', H2) ∧ Tri Hz H2 o1 l1 o' (l2 ++ [c]) o3 l3 ∧ Still H H1 ∧ Fr (OnlyOf o2) H1 H2 := by
  generalize hH1 : H.push (.cells [.string c.key, .bool c.was, .bool c.is, .string c.before, .string c.after] T.api_Change true) = H1
  have s1 : Still H H1 := by rw [← hH1]; exact (Fr.refl H).push _
  have t1 := t.still s1
  have hlit := litC c H
  rw [hH1] at hlit
  obtain ⟨o', H2, happ, ho, fr, hb⟩ := t1.w2.appE (m := [c]) (sz := 5) (bytes := 56) rfl (by simp; omega) (by simp; omega) (hlit.src (sz := 5) rfl)
  have n1 := t1.base.n
  refine ⟨o', H1, H2, rfl, happ, ⟨t1.ok.fr fr, t1.base.still.then fr fun d hd h => by have := t.lo2 d h; omega, t1.w1.keep fr fun d hd h => t.d12 d hd h, ho, t1.w3.keep fr fun d hd h => t.d23 d h hd, t.lo1, fun d hd => ?_, t.lo3, fun d hd h => ?_, t.d13, fun d hd => ?_⟩, s1, fr⟩
  · rcases hb with hb | hb
    · rw [hb] at hd; exact t.lo2 d hd
    · rw [hb] at hd; cases hd; exact n1
  · rcases hb with hb | hb
    · rw [hb] at h; exact t.d12 d hd h
    · rw [hb] at h; cases h; have := t1.w1.blk hd; omega
  · rcases hb with hb | hb
    · rw [hb] at hd; exact t.d23 d hd
    · rw [hb] at hd; cases hd; exact fun h => by have := t1.w3.blk h; omega
theorem Tri.bad {Hz H : AHeap} {o1 o2 o3 : Value} {l1 l2 : List Cg} {l3 : List ByteArray} (t : Tri Hz H o1 l1 o2 l2 o3 l3) (hl : l3.length ≤ 1000) (c : ByteArray) :
    ∃ o' H1 H2, H.push (.cells [.string c] T.string true) = H1 ∧ Eng.app T.string 1 16 o3 (srcS 1 (.slice (some ⟨H.n, 0, none⟩) 1 2) H1) H1 = some (o', H2) ∧ Tri Hz H2 o1 l1 o2 l2 o' (l3 ++ [c]) ∧ Still H H1 ∧ Fr (OnlyOf o3) H1 H2 := by
  generalize hH1 : H.push (.cells [.string c] T.string true) = H1
  have s1 : Still H H1 := by rw [← hH1]; exact (Fr.refl H).push _
  have t1 := t.still s1
  have hlit := litS c H
  rw [hH1] at hlit
  obtain ⟨o', H2, happ, ho, fr, hb⟩ := t1.w3.appE (m := [c]) (sz := 1) (bytes := 16) rfl (by simp; omega) (by simp; omega) (hlit.src (sz := 1) rfl)
  have n1 := t1.base.n
  refine ⟨o', H1, H2, rfl, happ, ⟨t1.ok.fr fr, t1.base.still.then fr fun d hd h => by have := t.lo3 d h; omega, t1.w1.keep fr fun d hd h => t.d13 d hd h, t1.w2.keep fr fun d hd h => t.d23 d hd h, ho, t.lo1, t.lo2, fun d hd => ?_, t.d12, fun d hd h => ?_, fun d hd h => ?_⟩, s1, fr⟩
  · rcases hb with hb | hb
    · rw [hb] at hd; exact t.lo3 d hd
    · rw [hb] at hd; cases hd; exact n1
  · rcases hb with hb | hb
    · rw [hb] at h; exact t.d13 d hd h
    · rw [hb] at h; cases h; have := t1.w1.blk hd; omega
  · rcases hb with hb | hb
    · rw [hb] at h; exact t.d23 d hd h
    · rw [hb] at h; cases h; have := t1.w2.blk hd; omega

/-- What a round begins with. -/
structure Rnd (Hz : AHeap) (va vb vk : Value) (a b : List Cg) (ks : List ByteArray) : Prop where
  ra : Rd ECg Hz va a
  rb : Rd ECg Hz vb b
  rk : Rd EStr Hz vk ks
  la : a.length ≤ 1000
  lb : b.length ≤ 1000
  lk : ks.length ≤ 1000

/-! ### The round's parts (out of the printed text) -/
noncomputable def pT2 (k20 : K) (tT_2 : Env) (h67 : AHeap) : Res :=
guardK (get tT_2 13) true (fun o25 => bareK (fad 2 (get tT_2 16)) h67 o25) h67 fun t152 h68 =>
guardK (get tT_2 13) true (fun o26 => bareK (ld1 h68 t152) h68 o26) h68 fun t153 h69 =>
guardK (get tT_2 13) true (fun o27 => bareK (fad 1 (get tT_2 18)) h69 o27) h69 fun t154 h70 =>
guardK (get tT_2 13) true (fun o28 => bareK (ld1 h70 t154) h70 o28) h70 fun t155 h71 =>
guardK (get tT_2 13) true (fun o29 => bareK (xbin Try.prog .eql T.bool (.tmp 153) (.tmp 155) t153 t155) h71 o29) h71 fun t156 h72 =>
pickK (get tT_2 13) t156 (.bool false) fun t157 =>
guardK t157 true (fun o30 => bareK (fad 4 (get tT_2 16)) h72 o30) h72 fun t159 h73 =>
guardK t157 true (fun o31 => bareK (ld1 h73 t159) h73 o31) h73 fun t160 h74 =>
guardK t157 true (fun o32 => bareK (fad 3 (get tT_2 18)) h74 o32) h74 fun t161 h75 =>
guardK t157 true (fun o33 => bareK (ld1 h75 t161) h75 o33) h75 fun t162 h76 =>
guardK t157 true (fun o34 => bareK (xbin Try.prog .eql T.string (.tmp 160) (.tmp 162) t160 t162) h76 o34) h76 fun t163 h77 =>
pickK t157 t163 (.bool false) fun t164 =>
bareK (fad 0 (get tT_2 16)) h77 fun t165 h78 =>
bareK (ld1 h78 t165) h78 fun t166 h79 =>
bareK (fad 1 (get tT_2 16)) h79 fun t167 h80 =>
bareK (ld1 h80 t167) h80 fun t168 h81 =>
bareK (fad 2 (get tT_2 18)) h81 fun t169 h82 =>
bareK (ld1 h82 t169) h82 fun t170 h83 =>
bareK (fad 3 (get tT_2 16)) h83 fun t171 h84 =>
bareK (ld1 h84 t171) h84 fun t172 h85 =>
bareK (fad 4 (get tT_2 18)) h85 fun t173 h86 =>
bareK (ld1 h86 t173) h86 fun t174 h87 =>
bareK (bldS #[(.string (mk [])), (.bool false), (.bool false), (.string (mk [])), (.string (mk []))] [(0, 1), (1, 1), (2, 1), (3, 1), (4, 1)] [(0, t166), (1, t168), (2, t170), (3, t172), (4, t174)]) h87 fun t175 h88 =>
bothK (newv T.api_Change (.agg #[(.string (mk [])), (.bool false), (.bool false), (.string (mk [])), (.string (mk []))]) h88) fun t20 h89 =>
quietK (stN 5 h89 t20 t175) fun _ h90 =>
bareK (ldN 5 h90 t20) h90 fun t176 h91 =>
enterK CC F.law_none [t176] h91 fun t177 h92 =>
bareK (xun Try.prog .not t177) h92 fun t178 h93 =>
condL t178 (fun k35 => bareK (ldN 5 h93 t20) h93 fun t180 h94 =>
bothK (bldL T.api_Change [(.string (mk [])), (.bool false), (.bool false), (.string (mk [])), (.string (mk []))] 1 [(0, t180)] h94) fun t181 h95 =>
bothK (app T.api_Change 5 56 (get tT_2 10) (srcS 5 t181 h95) h95) fun t182 h96 =>
k35 .normal [(0, (get tT_2 0)), (1, (get tT_2 1)), (10, t182), (11, (get tT_2 11)), (12, (get tT_2 12)), (13, t164), (14, (get tT_2 14)), (15, (get tT_2 15))] h96) (fun k35 =>
k35 .normal [(0, (get tT_2 0)), (1, (get tT_2 1)), (10, (get tT_2 10)), (11, (get tT_2 11)), (12, (get tT_2 12)), (13, t164), (14, (get tT_2 14)), (15, (get tT_2 15))] h93) (blkK [0, 1, 10, 11, 12, 13, 14, 15] 3 k20)

noncomputable def pT1 (k20 : K) (tT_1 : Env) (h56 : AHeap) : Res :=
bareK (ldN 5 h56 (get tT_1 16)) h56 fun t137 h57 =>
bothK (bldL T.api_Change [(.string (mk [])), (.bool false), (.bool false), (.string (mk [])), (.string (mk []))] 1 [(0, t137)] h57) fun t138 h58 =>
bothK (app T.api_Change 5 56 (get tT_1 11) (srcS 5 t138 h58) h58) fun t139 h59 =>
bareK (ldN 5 h59 (get tT_1 16)) h59 fun t140 h60 =>
bareK (ldN 5 h60 (get tT_1 18)) h60 fun t141 h61 =>
bareK (xbin Try.prog .neq T.api_Change (.tmp 140) (.tmp 141) t140 t141) h61 fun t142 h62 =>
condL t142 (fun k24 => bareK (ixS 1 (get tT_1 14) (get tT_1 15)) h62 fun t146 h63 =>
bareK (ld1 h63 t146) h63 fun t147 h64 =>
bothK (bldL T.string [(.string (mk []))] 1 [(0, t147)] h64) fun t148 h65 =>
bothK (app T.string 1 16 (get tT_1 12) (srcS 1 t148 h65) h65) fun t149 h66 =>
k24 .normal [(0, (get tT_1 0)), (1, (get tT_1 1)), (10, (get tT_1 10)), (11, t139), (12, t149), (13, (get tT_1 13)), (14, (get tT_1 14)), (15, (get tT_1 15)), (16, (get tT_1 16)), (18, (get tT_1 18))] h66) (fun k24 =>
k24 .normal [(0, (get tT_1 0)), (1, (get tT_1 1)), (10, (get tT_1 10)), (11, t139), (12, (get tT_1 12)), (13, (get tT_1 13)), (14, (get tT_1 14)), (15, (get tT_1 15)), (16, (get tT_1 16)), (18, (get tT_1 18))] h62) (seqK (pT2 k20) (blkK [0, 1, 10, 11, 12, 13, 14, 15] 3 k20))

noncomputable def pB (v0 v1 v10 v11 v12 v13 v14 v15 : Value) (H : AHeap) (k : K) : Res :=
bareK (lenS v14) H fun t92 h25 =>
bareK (xbin Try.prog .lss T.int (.tmp 90) (.tmp 92) v15 t92) h25 fun t93 h26 =>
condL t93 (fun k19 => k19 .normal [(0, v0), (1, v1), (10, v10), (11, v11), (12, v12), (13, v13), (14, v14), (15, v15)] h26) (fun k19 =>
k19 (.exit 2) [(93, t93), (92, t92), (91, v14), (90, v15), (0, v0), (1, v1), (10, v10), (11, v11), (12, v12), (13, v13), (14, v14), (15, v15)] h26) (seqK (fun tT h27 =>
shareL (fun k20 =>
bareK (ixS 1 (get tT 14) (get tT 15)) h27 fun t100 h28 =>
bareK (ld1 h28 t100) h28 fun t101 h29 =>
enterK CC F.law_find [(get tT 0), t101] h29 fun t102 h30 =>
bareK (xextract t102 0) h30 fun t103 h31 =>
bareK (xextract t102 1) h31 fun t104 h32 =>
bothK (newv T.api_Change (.agg #[(.string (mk [])), (.bool false), (.bool false), (.string (mk [])), (.string (mk []))]) h32) fun t16 h33 =>
quietK (stN 5 h33 t16 t103) fun _ h34 =>
bareK (ixS 1 (get tT 14) (get tT 15)) h34 fun t109 h35 =>
bareK (ld1 h35 t109) h35 fun t110 h36 =>
enterK CC F.law_find [(get tT 1), t110] h36 fun t111 h37 =>
bareK (xextract t111 0) h37 fun t112 h38 =>
bareK (xextract t111 1) h38 fun t113 h39 =>
bothK (newv T.api_Change (.agg #[(.string (mk [])), (.bool false), (.bool false), (.string (mk [])), (.string (mk []))]) h39) fun t18 h40 =>
quietK (stN 5 h40 t18 t112) fun _ h41 =>
shareL (fun k21 =>
bareK (xun Try.prog .not t113) h41 fun t116 h42 =>
condL t116 (fun k22 => bareK (ldN 5 h42 t16) h42 fun t118 h43 =>
bothK (bldL T.api_Change [(.string (mk [])), (.bool false), (.bool false), (.string (mk [])), (.string (mk []))] 1 [(0, t118)] h43) fun t119 h44 =>
bothK (app T.api_Change 5 56 (get tT 10) (srcS 5 t119 h44) h44) fun t120 h45 =>
bareK (ldN 5 h45 t16) h45 fun t122 h46 =>
bothK (bldL T.api_Change [(.string (mk [])), (.bool false), (.bool false), (.string (mk [])), (.string (mk []))] 1 [(0, t122)] h46) fun t123 h47 =>
bothK (app T.api_Change 5 56 (get tT 11) (srcS 5 t123 h47) h47) fun t124 h48 =>
checkK (okV (some true) none h44 h45 h45 h45 && (okV (some true) (blockOf t16) h44 h45 h45 h46 && (okV (some true) none h44 h45 h46 h47 && true))) <|
k22 (.exit 3) ((11, t124) :: (10, t120) :: (124, t124) :: (123, t123) :: (122, t122) :: (121, (get tT 11)) :: (120, t120) :: (119, t119) :: (118, t118) :: (117, (get tT 10)) :: (114, t116) :: (116, t116) :: (115, t113) :: (19, t113) :: (18, t18) :: (113, t113) :: (112, t112) :: (105, t111) :: (111, t111) :: (110, t110) :: (109, t109) :: (108, (get tT 15)) :: (107, (get tT 14)) :: (106, (get tT 1)) :: (17, t104) :: (16, t16) :: (104, t104) :: (103, t103) :: (96, t102) :: (102, t102) :: (101, t101) :: (100, t100) :: (99, (get tT 15)) :: (98, (get tT 14)) :: (97, (get tT 0)) :: tT) h48) (fun k22 =>
bareK (xun Try.prog .not t104) h42 fun t127 h49 =>
condL t127 (fun k23 => bareK (ldN 5 h49 t18) h49 fun t129 h50 =>
bothK (bldL T.api_Change [(.string (mk [])), (.bool false), (.bool false), (.string (mk [])), (.string (mk []))] 1 [(0, t129)] h50) fun t130 h51 =>
bothK (app T.api_Change 5 56 (get tT 10) (srcS 5 t130 h51) h51) fun t131 h52 =>
bareK (ldN 5 h52 t18) h52 fun t133 h53 =>
bothK (bldL T.api_Change [(.string (mk [])), (.bool false), (.bool false), (.string (mk [])), (.string (mk []))] 1 [(0, t133)] h53) fun t134 h54 =>
bothK (app T.api_Change 5 56 (get tT 11) (srcS 5 t134 h54) h54) fun t135 h55 =>
checkK (okV (some true) none h51 h52 h52 h52 && (okV (some true) (blockOf t18) h51 h52 h52 h53 && (okV (some true) none h51 h52 h53 h54 && true))) <|
k23 (.exit 3) ((11, t135) :: (10, t131) :: (135, t135) :: (134, t134) :: (133, t133) :: (132, (get tT 11)) :: (131, t131) :: (130, t130) :: (129, t129) :: (128, (get tT 10)) :: (125, t127) :: (127, t127) :: (126, t104) :: (114, t116) :: (116, t116) :: (115, t113) :: (19, t113) :: (18, t18) :: (113, t113) :: (112, t112) :: (105, t111) :: (111, t111) :: (110, t110) :: (109, t109) :: (108, (get tT 15)) :: (107, (get tT 14)) :: (106, (get tT 1)) :: (17, t104) :: (16, t16) :: (104, t104) :: (103, t103) :: (96, t102) :: (102, t102) :: (101, t101) :: (100, t100) :: (99, (get tT 15)) :: (98, (get tT 14)) :: (97, (get tT 0)) :: tT) h55) (fun k23 =>
k23 .normal [(0, (get tT 0)), (1, (get tT 1)), (10, (get tT 10)), (11, (get tT 11)), (12, (get tT 12)), (13, (get tT 13)), (14, (get tT 14)), (15, (get tT 15)), (16, t16), (18, t18)] h49) (afterK [0, 1, 10, 11, 12, 13, 14, 15, 16, 18] k22)) (blkK [0, 1, 10, 11, 12, 13, 14, 15, 16, 18] 4 k21)) (seqK (pT1 k20) (blkK [0, 1, 10, 11, 12, 13, 14, 15] 3 k20))) (seqK (fun tT_3 h97 =>
bareK (xbin Try.prog .add T.int (.tmp 94) (.const (.int .i64 1)) (get tT_3 15) (.int .i64 1)) h97 fun t95 h98 =>
k .normal [(0, (get tT_3 0)), (1, (get tT_3 1)), (10, (get tT_3 10)), (11, (get tT_3 11)), (12, (get tT_3 12)), (13, (get tT_3 13)), (14, (get tT_3 14)), (15, t95)] h98) (afterK [0, 1, 10, 11, 12, 13, 14, 15] k))) (afterK [0, 1, 10, 11, 12, 13, 14, 15] k))

theorem r_pB (v0 v1 v10 v11 v12 v13 v14 v15 : Value) (H : AHeap) (k : K) : l_law_DeltaPairs_1 v0 v1 v10 v11 v12 v13 v14 v15 H k = pB v0 v1 v10 v11 v12 v13 v14 v15 H (seqK (fun T H => l_law_DeltaPairs_1 (get T 0) (get T 1) (get T 10) (get T 11) (get T 12) (get T 13) (get T 14) (get T 15) H k) k) := (r_law_DeltaPairs_1 v0 v1 v10 v11 v12 v13 v14 v15 H k).trans (by kernel_rfl)

theorem pT2_f0 {Hz G : AHeap} {va vb vk o1 o2 o3 : Value} {l1 l2 : List Cg} {l3 : List ByteArray} (t : Tri Hz G o1 l1 o2 l2 o3 l3) (h1 : l1.length ≤ 1000) (i : Nat) {x y : Cg} {p q : Nat} (fx : G.f p = .cells [.string x.key, .bool x.was, .bool x.is, .string x.before, .string x.after] T.api_Change true) (fy : G.f q = .cells [.string y.key, .bool y.was, .bool y.is, .string y.before, .string y.after] T.api_Change true) (hnn : noneC (togC (x, y, true, true)) = false) :
    ∃ G' o1', Tri Hz G' o1' (l1 ++ [(togC (x, y, true, true))]) o2 l2 o3 l3 ∧ ∀ K : K, pT2 K [(0, va), (1, vb), (10, o1), (11, o2), (12, o3), (13, .bool false), (14, vk), (15, .int .i64 (i : Int)), (16, .pointer (some ⟨p, 0, none⟩)), (18, .pointer (some ⟨q, 0, none⟩))] G = K .normal [(0, va), (1, vb), (10, o1'), (11, o2), (12, o3), (13, .bool false), (14, vk), (15, .int .i64 (i : Int))] G' := by
  generalize hH7 : (G.push (.cells [.string (mk []), .bool false, .bool false, .string (mk []), .string (mk [])] T.api_Change true)).set G.n (.cells [.string x.key, .bool x.was, .bool y.is, .string x.before, .string y.after] T.api_Change true) = H7
  have s7 : Still G H7 := by rw [← hH7]; exact Fr.set ((Fr.refl G).push _) _ _ (fun h => by omega)
  have f7 : H7.f G.n = .cells [.string x.key, .bool x.was, .bool y.is, .string x.before, .string y.after] T.api_Change true := by rw [← hH7]; exact set_f_eq
  have t7 := t.still s7
  have hno := q_none (togC (x, y, true, true)) H7
  rw [hnn] at hno
  have hno : CC F.law_none [.agg #[.string x.key, .bool x.was, .bool y.is, .string x.before, .string y.after]] H7 = some (.bool false, H7) := hno
  obtain ⟨o1', H8, H9, hH8, happ1, t9, s8, fr9⟩ := t7.one h1 (togC (x, y, true, true))
  have hH8 : H7.push (.cells [.string x.key, .bool x.was, .bool y.is, .string x.before, .string y.after] T.api_Change true) = H8 := hH8
  refine ⟨H9, o1', t9, fun K => ?_⟩
  simp (maxSteps := 2000000) (disch := first | with_reducible rfl | assumption | omega | rfl | (simp only [go_sem]; first | done | omega)) only [go_sem, ↓reduceIte, reduceCtorEq, Nat.reduceEqDiff, Nat.reduceAdd, Nat.reduceSub, Nat.reduceMul, Nat.reduceDiv, Nat.reduceMod, Nat.reduceLeDiff, Nat.reduceLT, Nat.reduceBEq, Int.reduceEq, Int.reduceBEq, Int.reduceBNe, Int.reduceLT, Int.reduceLE, Int.reduceAdd, Int.reduceSub, Int.reduceNeg, Int.reduceToNat, Int.reducePow, Nat.reducePow, Int.reduceMul, Int.reduceDiv, ↓pT2, fx, fy, hH7, f7, enterK_eq hno, hH8, happ1]

theorem pT2_f1 {Hz G : AHeap} {va vb vk o1 o2 o3 : Value} {l1 l2 : List Cg} {l3 : List ByteArray} (t : Tri Hz G o1 l1 o2 l2 o3 l3) (h1 : l1.length ≤ 1000) (i : Nat) {x y : Cg} {p q : Nat} (fx : G.f p = .cells [.string x.key, .bool x.was, .bool x.is, .string x.before, .string x.after] T.api_Change true) (fy : G.f q = .cells [.string y.key, .bool y.was, .bool y.is, .string y.before, .string y.after] T.api_Change true) (hnn : noneC (togC (x, y, true, true)) = true) :
    ∃ G' o1', Tri Hz G' o1' (l1 ++ []) o2 l2 o3 l3 ∧ ∀ K : K, pT2 K [(0, va), (1, vb), (10, o1), (11, o2), (12, o3), (13, .bool false), (14, vk), (15, .int .i64 (i : Int)), (16, .pointer (some ⟨p, 0, none⟩)), (18, .pointer (some ⟨q, 0, none⟩))] G = K .normal [(0, va), (1, vb), (10, o1'), (11, o2), (12, o3), (13, .bool false), (14, vk), (15, .int .i64 (i : Int))] G' := by
  generalize hH7 : (G.push (.cells [.string (mk []), .bool false, .bool false, .string (mk []), .string (mk [])] T.api_Change true)).set G.n (.cells [.string x.key, .bool x.was, .bool y.is, .string x.before, .string y.after] T.api_Change true) = H7
  have s7 : Still G H7 := by rw [← hH7]; exact Fr.set ((Fr.refl G).push _) _ _ (fun h => by omega)
  have f7 : H7.f G.n = .cells [.string x.key, .bool x.was, .bool y.is, .string x.before, .string y.after] T.api_Change true := by rw [← hH7]; exact set_f_eq
  have t7 := t.still s7
  have hno := q_none (togC (x, y, true, true)) H7
  rw [hnn] at hno
  have hno : CC F.law_none [.agg #[.string x.key, .bool x.was, .bool y.is, .string x.before, .string y.after]] H7 = some (.bool true, H7) := hno
  refine ⟨H7, o1, by rw [List.append_nil]; exact t7, fun K => ?_⟩
  simp (maxSteps := 2000000) (disch := first | with_reducible rfl | assumption | omega | rfl | (simp only [go_sem]; first | done | omega)) only [go_sem, ↓reduceIte, reduceCtorEq, Nat.reduceEqDiff, Nat.reduceAdd, Nat.reduceSub, Nat.reduceMul, Nat.reduceDiv, Nat.reduceMod, Nat.reduceLeDiff, Nat.reduceLT, Nat.reduceBEq, Int.reduceEq, Int.reduceBEq, Int.reduceBNe, Int.reduceLT, Int.reduceLE, Int.reduceAdd, Int.reduceSub, Int.reduceNeg, Int.reduceToNat, Int.reducePow, Nat.reducePow, Int.reduceMul, Int.reduceDiv, ↓pT2, fx, fy, hH7, f7, enterK_eq hno]

theorem pT2_w0 {Hz G : AHeap} {va vb vk o1 o2 o3 : Value} {l1 l2 : List Cg} {l3 : List ByteArray} (t : Tri Hz G o1 l1 o2 l2 o3 l3) (h1 : l1.length ≤ 1000) (i : Nat) {x y : Cg} {p q : Nat} (fx : G.f p = .cells [.string x.key, .bool x.was, .bool x.is, .string x.before, .string x.after] T.api_Change true) (fy : G.f q = .cells [.string y.key, .bool y.was, .bool y.is, .string y.before, .string y.after] T.api_Change true) (hnn : noneC (togC (x, y, true, true)) = false) (hw : (x.is == y.was) = false) :
    ∃ G' o1', Tri Hz G' o1' (l1 ++ [(togC (x, y, true, true))]) o2 l2 o3 l3 ∧ ∀ K : K, pT2 K [(0, va), (1, vb), (10, o1), (11, o2), (12, o3), (13, .bool true), (14, vk), (15, .int .i64 (i : Int)), (16, .pointer (some ⟨p, 0, none⟩)), (18, .pointer (some ⟨q, 0, none⟩))] G = K .normal [(0, va), (1, vb), (10, o1'), (11, o2), (12, o3), (13, .bool false), (14, vk), (15, .int .i64 (i : Int))] G' := by
  generalize hH7 : (G.push (.cells [.string (mk []), .bool false, .bool false, .string (mk []), .string (mk [])] T.api_Change true)).set G.n (.cells [.string x.key, .bool x.was, .bool y.is, .string x.before, .string y.after] T.api_Change true) = H7
  have s7 : Still G H7 := by rw [← hH7]; exact Fr.set ((Fr.refl G).push _) _ _ (fun h => by omega)
  have f7 : H7.f G.n = .cells [.string x.key, .bool x.was, .bool y.is, .string x.before, .string y.after] T.api_Change true := by rw [← hH7]; exact set_f_eq
  have t7 := t.still s7
  have hno := q_none (togC (x, y, true, true)) H7
  rw [hnn] at hno
  have hno : CC F.law_none [.agg #[.string x.key, .bool x.was, .bool y.is, .string x.before, .string y.after]] H7 = some (.bool false, H7) := hno
  obtain ⟨o1', H8, H9, hH8, happ1, t9, s8, fr9⟩ := t7.one h1 (togC (x, y, true, true))
  have hH8 : H7.push (.cells [.string x.key, .bool x.was, .bool y.is, .string x.before, .string y.after] T.api_Change true) = H8 := hH8
  refine ⟨H9, o1', t9, fun K => ?_⟩
  simp (maxSteps := 2000000) (disch := first | with_reducible rfl | assumption | omega | rfl | (simp only [go_sem]; first | done | omega)) only [go_sem, ↓reduceIte, reduceCtorEq, Nat.reduceEqDiff, Nat.reduceAdd, Nat.reduceSub, Nat.reduceMul, Nat.reduceDiv, Nat.reduceMod, Nat.reduceLeDiff, Nat.reduceLT, Nat.reduceBEq, Int.reduceEq, Int.reduceBEq, Int.reduceBNe, Int.reduceLT, Int.reduceLE, Int.reduceAdd, Int.reduceSub, Int.reduceNeg, Int.reduceToNat, Int.reducePow, Nat.reducePow, Int.reduceMul, Int.reduceDiv, ↓pT2, fx, fy, hH7, f7, enterK_eq hno, hw, hH8, happ1]

theorem pT2_w1 {Hz G : AHeap} {va vb vk o1 o2 o3 : Value} {l1 l2 : List Cg} {l3 : List ByteArray} (t : Tri Hz G o1 l1 o2 l2 o3 l3) (h1 : l1.length ≤ 1000) (i : Nat) {x y : Cg} {p q : Nat} (fx : G.f p = .cells [.string x.key, .bool x.was, .bool x.is, .string x.before, .string x.after] T.api_Change true) (fy : G.f q = .cells [.string y.key, .bool y.was, .bool y.is, .string y.before, .string y.after] T.api_Change true) (hnn : noneC (togC (x, y, true, true)) = true) (hw : (x.is == y.was) = false) :
    ∃ G' o1', Tri Hz G' o1' (l1 ++ []) o2 l2 o3 l3 ∧ ∀ K : K, pT2 K [(0, va), (1, vb), (10, o1), (11, o2), (12, o3), (13, .bool true), (14, vk), (15, .int .i64 (i : Int)), (16, .pointer (some ⟨p, 0, none⟩)), (18, .pointer (some ⟨q, 0, none⟩))] G = K .normal [(0, va), (1, vb), (10, o1'), (11, o2), (12, o3), (13, .bool false), (14, vk), (15, .int .i64 (i : Int))] G' := by
  generalize hH7 : (G.push (.cells [.string (mk []), .bool false, .bool false, .string (mk []), .string (mk [])] T.api_Change true)).set G.n (.cells [.string x.key, .bool x.was, .bool y.is, .string x.before, .string y.after] T.api_Change true) = H7
  have s7 : Still G H7 := by rw [← hH7]; exact Fr.set ((Fr.refl G).push _) _ _ (fun h => by omega)
  have f7 : H7.f G.n = .cells [.string x.key, .bool x.was, .bool y.is, .string x.before, .string y.after] T.api_Change true := by rw [← hH7]; exact set_f_eq
  have t7 := t.still s7
  have hno := q_none (togC (x, y, true, true)) H7
  rw [hnn] at hno
  have hno : CC F.law_none [.agg #[.string x.key, .bool x.was, .bool y.is, .string x.before, .string y.after]] H7 = some (.bool true, H7) := hno
  refine ⟨H7, o1, by rw [List.append_nil]; exact t7, fun K => ?_⟩
  simp (maxSteps := 2000000) (disch := first | with_reducible rfl | assumption | omega | rfl | (simp only [go_sem]; first | done | omega)) only [go_sem, ↓reduceIte, reduceCtorEq, Nat.reduceEqDiff, Nat.reduceAdd, Nat.reduceSub, Nat.reduceMul, Nat.reduceDiv, Nat.reduceMod, Nat.reduceLeDiff, Nat.reduceLT, Nat.reduceBEq, Int.reduceEq, Int.reduceBEq, Int.reduceBNe, Int.reduceLT, Int.reduceLE, Int.reduceAdd, Int.reduceSub, Int.reduceNeg, Int.reduceToNat, Int.reducePow, Nat.reducePow, Int.reduceMul, Int.reduceDiv, ↓pT2, fx, fy, hH7, f7, enterK_eq hno, hw]

theorem pT2_s0 {Hz G : AHeap} {va vb vk o1 o2 o3 : Value} {l1 l2 : List Cg} {l3 : List ByteArray} (t : Tri Hz G o1 l1 o2 l2 o3 l3) (h1 : l1.length ≤ 1000) (i : Nat) {x y : Cg} {p q : Nat} (fx : G.f p = .cells [.string x.key, .bool x.was, .bool x.is, .string x.before, .string x.after] T.api_Change true) (fy : G.f q = .cells [.string y.key, .bool y.was, .bool y.is, .string y.before, .string y.after] T.api_Change true) (hnn : noneC (togC (x, y, true, true)) = false) (hw : (x.is == y.was) = true) (hst : ¬ bl x.after = bl y.before) :
    ∃ G' o1', Tri Hz G' o1' (l1 ++ [(togC (x, y, true, true))]) o2 l2 o3 l3 ∧ ∀ K : K, pT2 K [(0, va), (1, vb), (10, o1), (11, o2), (12, o3), (13, .bool true), (14, vk), (15, .int .i64 (i : Int)), (16, .pointer (some ⟨p, 0, none⟩)), (18, .pointer (some ⟨q, 0, none⟩))] G = K .normal [(0, va), (1, vb), (10, o1'), (11, o2), (12, o3), (13, .bool false), (14, vk), (15, .int .i64 (i : Int))] G' := by
  generalize hH7 : (G.push (.cells [.string (mk []), .bool false, .bool false, .string (mk []), .string (mk [])] T.api_Change true)).set G.n (.cells [.string x.key, .bool x.was, .bool y.is, .string x.before, .string y.after] T.api_Change true) = H7
  have s7 : Still G H7 := by rw [← hH7]; exact Fr.set ((Fr.refl G).push _) _ _ (fun h => by omega)
  have f7 : H7.f G.n = .cells [.string x.key, .bool x.was, .bool y.is, .string x.before, .string y.after] T.api_Change true := by rw [← hH7]; exact set_f_eq
  have t7 := t.still s7
  have hno := q_none (togC (x, y, true, true)) H7
  rw [hnn] at hno
  have hno : CC F.law_none [.agg #[.string x.key, .bool x.was, .bool y.is, .string x.before, .string y.after]] H7 = some (.bool false, H7) := hno
  obtain ⟨o1', H8, H9, hH8, happ1, t9, s8, fr9⟩ := t7.one h1 (togC (x, y, true, true))
  have hH8 : H7.push (.cells [.string x.key, .bool x.was, .bool y.is, .string x.before, .string y.after] T.api_Change true) = H8 := hH8
  refine ⟨H9, o1', t9, fun K => ?_⟩
  simp (maxSteps := 2000000) (disch := first | with_reducible rfl | assumption | omega | rfl | (simp only [go_sem]; first | done | omega)) only [go_sem, ↓reduceIte, reduceCtorEq, Nat.reduceEqDiff, Nat.reduceAdd, Nat.reduceSub, Nat.reduceMul, Nat.reduceDiv, Nat.reduceMod, Nat.reduceLeDiff, Nat.reduceLT, Nat.reduceBEq, Int.reduceEq, Int.reduceBEq, Int.reduceBNe, Int.reduceLT, Int.reduceLE, Int.reduceAdd, Int.reduceSub, Int.reduceNeg, Int.reduceToNat, Int.reducePow, Nat.reducePow, Int.reduceMul, Int.reduceDiv, ↓pT2, fx, fy, hH7, f7, enterK_eq hno, hw, decide_eq_false hst, hH8, happ1]

theorem pT2_s1 {Hz G : AHeap} {va vb vk o1 o2 o3 : Value} {l1 l2 : List Cg} {l3 : List ByteArray} (t : Tri Hz G o1 l1 o2 l2 o3 l3) (h1 : l1.length ≤ 1000) (i : Nat) {x y : Cg} {p q : Nat} (fx : G.f p = .cells [.string x.key, .bool x.was, .bool x.is, .string x.before, .string x.after] T.api_Change true) (fy : G.f q = .cells [.string y.key, .bool y.was, .bool y.is, .string y.before, .string y.after] T.api_Change true) (hnn : noneC (togC (x, y, true, true)) = true) (hw : (x.is == y.was) = true) (hst : ¬ bl x.after = bl y.before) :
    ∃ G' o1', Tri Hz G' o1' (l1 ++ []) o2 l2 o3 l3 ∧ ∀ K : K, pT2 K [(0, va), (1, vb), (10, o1), (11, o2), (12, o3), (13, .bool true), (14, vk), (15, .int .i64 (i : Int)), (16, .pointer (some ⟨p, 0, none⟩)), (18, .pointer (some ⟨q, 0, none⟩))] G = K .normal [(0, va), (1, vb), (10, o1'), (11, o2), (12, o3), (13, .bool false), (14, vk), (15, .int .i64 (i : Int))] G' := by
  generalize hH7 : (G.push (.cells [.string (mk []), .bool false, .bool false, .string (mk []), .string (mk [])] T.api_Change true)).set G.n (.cells [.string x.key, .bool x.was, .bool y.is, .string x.before, .string y.after] T.api_Change true) = H7
  have s7 : Still G H7 := by rw [← hH7]; exact Fr.set ((Fr.refl G).push _) _ _ (fun h => by omega)
  have f7 : H7.f G.n = .cells [.string x.key, .bool x.was, .bool y.is, .string x.before, .string y.after] T.api_Change true := by rw [← hH7]; exact set_f_eq
  have t7 := t.still s7
  have hno := q_none (togC (x, y, true, true)) H7
  rw [hnn] at hno
  have hno : CC F.law_none [.agg #[.string x.key, .bool x.was, .bool y.is, .string x.before, .string y.after]] H7 = some (.bool true, H7) := hno
  refine ⟨H7, o1, by rw [List.append_nil]; exact t7, fun K => ?_⟩
  simp (maxSteps := 2000000) (disch := first | with_reducible rfl | assumption | omega | rfl | (simp only [go_sem]; first | done | omega)) only [go_sem, ↓reduceIte, reduceCtorEq, Nat.reduceEqDiff, Nat.reduceAdd, Nat.reduceSub, Nat.reduceMul, Nat.reduceDiv, Nat.reduceMod, Nat.reduceLeDiff, Nat.reduceLT, Nat.reduceBEq, Int.reduceEq, Int.reduceBEq, Int.reduceBNe, Int.reduceLT, Int.reduceLE, Int.reduceAdd, Int.reduceSub, Int.reduceNeg, Int.reduceToNat, Int.reducePow, Nat.reducePow, Int.reduceMul, Int.reduceDiv, ↓pT2, fx, fy, hH7, f7, enterK_eq hno, hw, decide_eq_false hst]

theorem pT2_t0 {Hz G : AHeap} {va vb vk o1 o2 o3 : Value} {l1 l2 : List Cg} {l3 : List ByteArray} (t : Tri Hz G o1 l1 o2 l2 o3 l3) (h1 : l1.length ≤ 1000) (i : Nat) {x y : Cg} {p q : Nat} (fx : G.f p = .cells [.string x.key, .bool x.was, .bool x.is, .string x.before, .string x.after] T.api_Change true) (fy : G.f q = .cells [.string y.key, .bool y.was, .bool y.is, .string y.before, .string y.after] T.api_Change true) (hnn : noneC (togC (x, y, true, true)) = false) (hw : (x.is == y.was) = true) (hst : bl x.after = bl y.before) :
    ∃ G' o1', Tri Hz G' o1' (l1 ++ [(togC (x, y, true, true))]) o2 l2 o3 l3 ∧ ∀ K : K, pT2 K [(0, va), (1, vb), (10, o1), (11, o2), (12, o3), (13, .bool true), (14, vk), (15, .int .i64 (i : Int)), (16, .pointer (some ⟨p, 0, none⟩)), (18, .pointer (some ⟨q, 0, none⟩))] G = K .normal [(0, va), (1, vb), (10, o1'), (11, o2), (12, o3), (13, .bool true), (14, vk), (15, .int .i64 (i : Int))] G' := by
  generalize hH7 : (G.push (.cells [.string (mk []), .bool false, .bool false, .string (mk []), .string (mk [])] T.api_Change true)).set G.n (.cells [.string x.key, .bool x.was, .bool y.is, .string x.before, .string y.after] T.api_Change true) = H7
  have s7 : Still G H7 := by rw [← hH7]; exact Fr.set ((Fr.refl G).push _) _ _ (fun h => by omega)
  have f7 : H7.f G.n = .cells [.string x.key, .bool x.was, .bool y.is, .string x.before, .string y.after] T.api_Change true := by rw [← hH7]; exact set_f_eq
  have t7 := t.still s7
  have hno := q_none (togC (x, y, true, true)) H7
  rw [hnn] at hno
  have hno : CC F.law_none [.agg #[.string x.key, .bool x.was, .bool y.is, .string x.before, .string y.after]] H7 = some (.bool false, H7) := hno
  obtain ⟨o1', H8, H9, hH8, happ1, t9, s8, fr9⟩ := t7.one h1 (togC (x, y, true, true))
  have hH8 : H7.push (.cells [.string x.key, .bool x.was, .bool y.is, .string x.before, .string y.after] T.api_Change true) = H8 := hH8
  refine ⟨H9, o1', t9, fun K => ?_⟩
  simp (maxSteps := 2000000) (disch := first | with_reducible rfl | assumption | omega | rfl | (simp only [go_sem]; first | done | omega)) only [go_sem, ↓reduceIte, reduceCtorEq, Nat.reduceEqDiff, Nat.reduceAdd, Nat.reduceSub, Nat.reduceMul, Nat.reduceDiv, Nat.reduceMod, Nat.reduceLeDiff, Nat.reduceLT, Nat.reduceBEq, Int.reduceEq, Int.reduceBEq, Int.reduceBNe, Int.reduceLT, Int.reduceLE, Int.reduceAdd, Int.reduceSub, Int.reduceNeg, Int.reduceToNat, Int.reducePow, Nat.reducePow, Int.reduceMul, Int.reduceDiv, ↓pT2, fx, fy, hH7, f7, enterK_eq hno, hw, decide_eq_true hst, hH8, happ1]

theorem pT2_t1 {Hz G : AHeap} {va vb vk o1 o2 o3 : Value} {l1 l2 : List Cg} {l3 : List ByteArray} (t : Tri Hz G o1 l1 o2 l2 o3 l3) (h1 : l1.length ≤ 1000) (i : Nat) {x y : Cg} {p q : Nat} (fx : G.f p = .cells [.string x.key, .bool x.was, .bool x.is, .string x.before, .string x.after] T.api_Change true) (fy : G.f q = .cells [.string y.key, .bool y.was, .bool y.is, .string y.before, .string y.after] T.api_Change true) (hnn : noneC (togC (x, y, true, true)) = true) (hw : (x.is == y.was) = true) (hst : bl x.after = bl y.before) :
    ∃ G' o1', Tri Hz G' o1' (l1 ++ []) o2 l2 o3 l3 ∧ ∀ K : K, pT2 K [(0, va), (1, vb), (10, o1), (11, o2), (12, o3), (13, .bool true), (14, vk), (15, .int .i64 (i : Int)), (16, .pointer (some ⟨p, 0, none⟩)), (18, .pointer (some ⟨q, 0, none⟩))] G = K .normal [(0, va), (1, vb), (10, o1'), (11, o2), (12, o3), (13, .bool true), (14, vk), (15, .int .i64 (i : Int))] G' := by
  generalize hH7 : (G.push (.cells [.string (mk []), .bool false, .bool false, .string (mk []), .string (mk [])] T.api_Change true)).set G.n (.cells [.string x.key, .bool x.was, .bool y.is, .string x.before, .string y.after] T.api_Change true) = H7
  have s7 : Still G H7 := by rw [← hH7]; exact Fr.set ((Fr.refl G).push _) _ _ (fun h => by omega)
  have f7 : H7.f G.n = .cells [.string x.key, .bool x.was, .bool y.is, .string x.before, .string y.after] T.api_Change true := by rw [← hH7]; exact set_f_eq
  have t7 := t.still s7
  have hno := q_none (togC (x, y, true, true)) H7
  rw [hnn] at hno
  have hno : CC F.law_none [.agg #[.string x.key, .bool x.was, .bool y.is, .string x.before, .string y.after]] H7 = some (.bool true, H7) := hno
  refine ⟨H7, o1, by rw [List.append_nil]; exact t7, fun K => ?_⟩
  simp (maxSteps := 2000000) (disch := first | with_reducible rfl | assumption | omega | rfl | (simp only [go_sem]; first | done | omega)) only [go_sem, ↓reduceIte, reduceCtorEq, Nat.reduceEqDiff, Nat.reduceAdd, Nat.reduceSub, Nat.reduceMul, Nat.reduceDiv, Nat.reduceMod, Nat.reduceLeDiff, Nat.reduceLT, Nat.reduceBEq, Int.reduceEq, Int.reduceBEq, Int.reduceBNe, Int.reduceLT, Int.reduceLE, Int.reduceAdd, Int.reduceSub, Int.reduceNeg, Int.reduceToNat, Int.reducePow, Nat.reducePow, Int.reduceMul, Int.reduceDiv, ↓pT2, fx, fy, hH7, f7, enterK_eq hno, hw, decide_eq_true hst]

theorem pT1_0 {Hz G : AHeap} {va vb vk o1 o2 o3 : Value} {l1 l2 : List Cg} {l3 ks : List ByteArray} (t : Tri Hz G o1 l1 o2 l2 o3 l3) (h2 : l2.length ≤ 1000) (h3 : l3.length ≤ 1000) (rk : Rd EStr Hz vk ks) {i : Nat} (hi : i < ks.length) (hks : ks.length ≤ 1000) {x y : Cg} (hik : ks[i] = x.key) {p q : Nat} (hp : p < G.n) (hq : q < G.n) (fx : G.f p = .cells [.string x.key, .bool x.was, .bool x.is, .string x.before, .string x.after] T.api_Change true) (fy : G.f q = .cells [.string y.key, .bool y.was, .bool y.is, .string y.before, .string y.after] T.api_Change true) (np : ¬ OnlyOf o2 p) (nq : ¬ OnlyOf o2 q) (np3 : ¬ OnlyOf o3 p) (nq3 : ¬ OnlyOf o3 q) (hxy : x = y) (fi : Bool) :
    ∃ G' o2' o3', Tri Hz G' o1 l1 o2' (l2 ++ [x]) o3' (l3 ++ []) ∧ G'.f p = .cells [.string x.key, .bool x.was, .bool x.is, .string x.before, .string x.after] T.api_Change true ∧ G'.f q = .cells [.string y.key, .bool y.was, .bool y.is, .string y.before, .string y.after] T.api_Change true ∧ ∀ K : K, pT1 K [(0, va), (1, vb), (10, o1), (11, o2), (12, o3), (13, .bool fi), (14, vk), (15, .int .i64 (i : Int)), (16, .pointer (some ⟨p, 0, none⟩)), (18, .pointer (some ⟨q, 0, none⟩))] G = pT2 K [(0, va), (1, vb), (10, o1), (11, o2'), (12, o3'), (13, .bool fi), (14, vk), (15, .int .i64 (i : Int)), (16, .pointer (some ⟨p, 0, none⟩)), (18, .pointer (some ⟨q, 0, none⟩))] G' := by
  have hne : ∀ ox oy, xbin Try.prog .neq T.api_Change ox oy (.agg #[.string x.key, .bool x.was, .bool x.is, .string x.before, .string x.after]) (.agg #[.string y.key, .bool y.was, .bool y.is, .string y.before, .string y.after]) = some (.bool (!decide (x = y))) := fun ox oy => cg_ne
  obtain ⟨o2', H3, H4, hH3, happ2, t4, s3, fr4⟩ := t.two h2 x
  have n3 := s3.n
  have n4 := fr4.n
  have f4 : H4.f p = .cells [.string x.key, .bool x.was, .bool x.is, .string x.before, .string x.after] T.api_Change true := by rw [fr4.f (by omega) np, s3.f hp (fun h => h), fx]
  have f4b : H4.f q = .cells [.string y.key, .bool y.was, .bool y.is, .string y.before, .string y.after] T.api_Change true := by rw [fr4.f (by omega) nq, s3.f hq (fun h => h), fy]
  refine ⟨H4, o2', o3, by rw [List.append_nil]; exact t4, f4, f4b, fun K => ?_⟩
  simp (maxSteps := 2000000) (disch := first | with_reducible rfl | assumption | omega | rfl | (simp only [go_sem]; first | done | omega)) only [go_sem, ↓reduceIte, reduceCtorEq, Nat.reduceEqDiff, Nat.reduceAdd, Nat.reduceSub, Nat.reduceMul, Nat.reduceDiv, Nat.reduceMod, Nat.reduceLeDiff, Nat.reduceLT, Nat.reduceBEq, Int.reduceEq, Int.reduceBEq, Int.reduceBNe, Int.reduceLT, Int.reduceLE, Int.reduceAdd, Int.reduceSub, Int.reduceNeg, Int.reduceToNat, Int.reducePow, Nat.reducePow, Int.reduceMul, Int.reduceDiv, ↓pT1, fx, hH3, happ2, f4, f4b, hne, decide_eq_true hxy]

theorem pT1_1 {Hz G : AHeap} {va vb vk o1 o2 o3 : Value} {l1 l2 : List Cg} {l3 ks : List ByteArray} (t : Tri Hz G o1 l1 o2 l2 o3 l3) (h2 : l2.length ≤ 1000) (h3 : l3.length ≤ 1000) (rk : Rd EStr Hz vk ks) {i : Nat} (hi : i < ks.length) (hks : ks.length ≤ 1000) {x y : Cg} (hik : ks[i] = x.key) {p q : Nat} (hp : p < G.n) (hq : q < G.n) (fx : G.f p = .cells [.string x.key, .bool x.was, .bool x.is, .string x.before, .string x.after] T.api_Change true) (fy : G.f q = .cells [.string y.key, .bool y.was, .bool y.is, .string y.before, .string y.after] T.api_Change true) (np : ¬ OnlyOf o2 p) (nq : ¬ OnlyOf o2 q) (np3 : ¬ OnlyOf o3 p) (nq3 : ¬ OnlyOf o3 q) (hxy : ¬ x = y) (fi : Bool) :
    ∃ G' o2' o3', Tri Hz G' o1 l1 o2' (l2 ++ [x]) o3' (l3 ++ [x.key]) ∧ G'.f p = .cells [.string x.key, .bool x.was, .bool x.is, .string x.before, .string x.after] T.api_Change true ∧ G'.f q = .cells [.string y.key, .bool y.was, .bool y.is, .string y.before, .string y.after] T.api_Change true ∧ ∀ K : K, pT1 K [(0, va), (1, vb), (10, o1), (11, o2), (12, o3), (13, .bool fi), (14, vk), (15, .int .i64 (i : Int)), (16, .pointer (some ⟨p, 0, none⟩)), (18, .pointer (some ⟨q, 0, none⟩))] G = pT2 K [(0, va), (1, vb), (10, o1), (11, o2'), (12, o3'), (13, .bool fi), (14, vk), (15, .int .i64 (i : Int)), (16, .pointer (some ⟨p, 0, none⟩)), (18, .pointer (some ⟨q, 0, none⟩))] G' := by
  have hne : ∀ ox oy, xbin Try.prog .neq T.api_Change ox oy (.agg #[.string x.key, .bool x.was, .bool x.is, .string x.before, .string x.after]) (.agg #[.string y.key, .bool y.was, .bool y.is, .string y.before, .string y.after]) = some (.bool (!decide (x = y))) := fun ox oy => cg_ne
  obtain ⟨o2', H3, H4, hH3, happ2, t4, s3, fr4⟩ := t.two h2 x
  have n3 := s3.n
  have n4 := fr4.n
  have f4 : H4.f p = .cells [.string x.key, .bool x.was, .bool x.is, .string x.before, .string x.after] T.api_Change true := by rw [fr4.f (by omega) np, s3.f hp (fun h => h), fx]
  have f4b : H4.f q = .cells [.string y.key, .bool y.was, .bool y.is, .string y.before, .string y.after] T.api_Change true := by rw [fr4.f (by omega) nq, s3.f hq (fun h => h), fy]
  obtain ⟨bk, ok, hix, hbk, hck, _⟩ := (rk.still t4.base).ix (q := .i64) hi
  rw [hik] at hck
  have hix : ixS 1 vk (.int .i64 i) = some (.pointer (some ⟨bk, ok, none⟩)) := hix
  have hk4 : cellB (H4.f bk) ok = some (.string x.key) := cutB_cell hck (i := 0) (by decide)
  obtain ⟨o3', H5, H6, hH5, happ3, t6, s5, fr6⟩ := t4.bad h3 x.key
  have n5 := s5.n
  refine ⟨H6, o2', o3', t6, by rw [fr6.f (by omega) np3, s5.f (by omega) (fun h => h), f4], by rw [fr6.f (by omega) nq3, s5.f (by omega) (fun h => h), f4b], fun K => ?_⟩
  simp (maxSteps := 2000000) (disch := first | with_reducible rfl | assumption | omega | rfl | (simp only [go_sem]; first | done | omega)) only [go_sem, ↓reduceIte, reduceCtorEq, Nat.reduceEqDiff, Nat.reduceAdd, Nat.reduceSub, Nat.reduceMul, Nat.reduceDiv, Nat.reduceMod, Nat.reduceLeDiff, Nat.reduceLT, Nat.reduceBEq, Int.reduceEq, Int.reduceBEq, Int.reduceBNe, Int.reduceLT, Int.reduceLE, Int.reduceAdd, Int.reduceSub, Int.reduceNeg, Int.reduceToNat, Int.reducePow, Nat.reducePow, Int.reduceMul, Int.reduceDiv, ↓pT1, fx, hH3, happ2, f4, f4b, hne, decide_eq_false hxy, hix, hk4, hH5, happ3]

theorem pr_A {Hz H : AHeap} {va vb vk o1 o2 o3 : Value} {a b l1 l2 : List Cg} {ks l3 : List ByteArray} (R : Rnd Hz va vb vk a b ks) (t : Tri Hz H o1 l1 o2 l2 o3 l3) (h1 : l1.length ≤ 1000) (h2 : l2.length ≤ 1000) (h3 : l3.length ≤ 1000) {i : Nat} (hi : i < ks.length) {k : ByteArray} (hik : ks[i] = k) {x : Cg} (ha : findC a k = some x) (hb : findC b k = none) (fi : Bool) :
    ∃ H' o1' o2' o3', Tri Hz H' o1' (l1 ++ oneL (x, cg0, true, false)) o2' (l2 ++ mergL (x, cg0, true, false)) o3' (l3 ++ confL (x, cg0, true, false)) ∧ ∀ K : K, l_law_DeltaPairs_1 va vb o1 o2 o3 (.bool fi) vk (.int .i64 (i : Int)) H (blkK [0, 1, 10, 11, 12, 13] 2 K) = l_law_DeltaPairs_1 va vb o1' o2' o3' (.bool fi) vk (.int .i64 ((i + 1 : Nat) : Int)) H' (blkK [0, 1, 10, 11, 12, 13] 2 K) := by
  have hlt : (i : Int) < (ks.length : Int) := by omega
  have hkb := R.lk
  have hlen := R.rk.lenS
  obtain ⟨bk, ok, hix, hbk, hck, _⟩ := (R.rk.still t.base).ix (q := .i64) hi
  rw [hik] at hck
  have hix : ixS 1 vk (.int .i64 i) = some (.pointer (some ⟨bk, ok, none⟩)) := hix
  have hk0 : cellB (H.f bk) ok = some (.string k) := cutB_cell hck (i := 0) (by decide)
  have hfa := q_find a k va H (R.ra.still t.base) (by have := R.la; omega)
  rw [ha] at hfa
  have hfa : CC F.law_find [va, .string k] H = some (.tuple #[.agg #[.string x.key, .bool x.was, .bool x.is, .string x.before, .string x.after], .bool true], H) := hfa
  generalize hH1 : (H.push (.cells [.string (mk []), .bool false, .bool false, .string (mk []), .string (mk [])] T.api_Change true)).set H.n (.cells [.string x.key, .bool x.was, .bool x.is, .string x.before, .string x.after] T.api_Change true) = H1
  have s1 : Still H H1 := by rw [← hH1]; exact Fr.set ((Fr.refl H).push _) _ _ (fun h => by omega)
  have n1 : H1.n = H.n + 1 := by rw [← hH1]; rfl
  have f1 : H1.f H.n = .cells [.string x.key, .bool x.was, .bool x.is, .string x.before, .string x.after] T.api_Change true := by rw [← hH1]; exact set_f_eq
  have hk1 : cellB (H1.f bk) ok = some (.string k) := by rw [s1.f hbk (fun h => h)]; exact hk0
  have t1 := t.still s1
  have hfb := q_find b k vb H1 (R.rb.still t1.base) (by have := R.lb; omega)
  rw [hb] at hfb
  have hfb : CC F.law_find [vb, .string k] H1 = some (.tuple #[.agg #[.string (mk []), .bool false, .bool false, .string (mk []), .string (mk [])], .bool false], H1) := hfb
  generalize hH2 : (H1.push (.cells [.string (mk []), .bool false, .bool false, .string (mk []), .string (mk [])] T.api_Change true)).set H1.n (.cells [.string (mk []), .bool false, .bool false, .string (mk []), .string (mk [])] T.api_Change true) = H2
  have s2 : Still H1 H2 := by rw [← hH2]; exact Fr.set ((Fr.refl H1).push _) _ _ (fun h => by omega)
  have n2 : H2.n = H1.n + 1 := by rw [← hH2]; rfl
  have f2 : H2.f H1.n = .cells [.string (mk []), .bool false, .bool false, .string (mk []), .string (mk [])] T.api_Change true := by rw [← hH2]; exact set_f_eq
  have f21 : H2.f H.n = .cells [.string x.key, .bool x.was, .bool x.is, .string x.before, .string x.after] T.api_Change true := by rw [s2.f (by omega) (fun h => h), f1]
  have t2 := t1.still s2
  have e1 : oneL (x, cg0, true, false) = [x] := rfl
  have e2 : mergL (x, cg0, true, false) = [x] := rfl
  have e3 : confL (x, cg0, true, false) = [] := rfl
  rw [e1, e2, e3, List.append_nil]
  obtain ⟨o1', H3, H4, hH3, happ1, t4, s3, fr4⟩ := t2.one h1 x
  have n3 := s3.n
  have n4 := fr4.n
  have f3 : H3.f H.n = .cells [.string x.key, .bool x.was, .bool x.is, .string x.before, .string x.after] T.api_Change true := by rw [s3.f (by omega) (fun h => h), f21]
  have off1 : ¬ OnlyOf o1 H.n := fun h => by have := t.w1.blk h; omega
  have f4 : H4.f H.n = .cells [.string x.key, .bool x.was, .bool x.is, .string x.before, .string x.after] T.api_Change true := by rw [fr4.f (by omega) off1, f3]
  have hver : H4.ver H.n = H3.ver H.n := fr4.ver (by omega) off1
  obtain ⟨o2', H5, H6, hH5, happ2, t6, s5, fr6⟩ := t4.two h2 x
  have n5 := s5.n
  have n6 := fr6.n
  refine ⟨H6, o1', o2', o3, t6, fun K => ?_⟩
  rw [r_pB, Int.natCast_add]
  simp (maxSteps := 2000000) (disch := first | with_reducible rfl | assumption | omega | rfl | (simp only [go_sem]; first | done | omega)) only [go_sem, ↓reduceIte, reduceCtorEq, Nat.reduceEqDiff, Nat.reduceAdd, Nat.reduceSub, Nat.reduceMul, Nat.reduceDiv, Nat.reduceMod, Nat.reduceLeDiff, Nat.reduceLT, Nat.reduceBEq, Int.reduceEq, Int.reduceBEq, Int.reduceBNe, Int.reduceLT, Int.reduceLE, Int.reduceAdd, Int.reduceSub, Int.reduceNeg, Int.reduceToNat, Int.reducePow, Nat.reducePow, Int.reduceMul, Int.reduceDiv, ↓pB, hlen, hlt, hix, hk0, enterK_eq hfa, hH1, hk1, enterK_eq hfb, hH2, f21, f2, hH3, happ1, f4, hH5, happ2]

theorem pr_B {Hz H : AHeap} {va vb vk o1 o2 o3 : Value} {a b l1 l2 : List Cg} {ks l3 : List ByteArray} (R : Rnd Hz va vb vk a b ks) (t : Tri Hz H o1 l1 o2 l2 o3 l3) (h1 : l1.length ≤ 1000) (h2 : l2.length ≤ 1000) (h3 : l3.length ≤ 1000) {i : Nat} (hi : i < ks.length) {k : ByteArray} (hik : ks[i] = k) {y : Cg} (ha : findC a k = none) (hb : findC b k = some y) (fi : Bool) :
    ∃ H' o1' o2' o3', Tri Hz H' o1' (l1 ++ oneL (cg0, y, false, true)) o2' (l2 ++ mergL (cg0, y, false, true)) o3' (l3 ++ confL (cg0, y, false, true)) ∧ ∀ K : K, l_law_DeltaPairs_1 va vb o1 o2 o3 (.bool fi) vk (.int .i64 (i : Int)) H (blkK [0, 1, 10, 11, 12, 13] 2 K) = l_law_DeltaPairs_1 va vb o1' o2' o3' (.bool fi) vk (.int .i64 ((i + 1 : Nat) : Int)) H' (blkK [0, 1, 10, 11, 12, 13] 2 K) := by
  have hlt : (i : Int) < (ks.length : Int) := by omega
  have hkb := R.lk
  have hlen := R.rk.lenS
  obtain ⟨bk, ok, hix, hbk, hck, _⟩ := (R.rk.still t.base).ix (q := .i64) hi
  rw [hik] at hck
  have hix : ixS 1 vk (.int .i64 i) = some (.pointer (some ⟨bk, ok, none⟩)) := hix
  have hk0 : cellB (H.f bk) ok = some (.string k) := cutB_cell hck (i := 0) (by decide)
  have hfa := q_find a k va H (R.ra.still t.base) (by have := R.la; omega)
  rw [ha] at hfa
  have hfa : CC F.law_find [va, .string k] H = some (.tuple #[.agg #[.string (mk []), .bool false, .bool false, .string (mk []), .string (mk [])], .bool false], H) := hfa
  generalize hH1 : (H.push (.cells [.string (mk []), .bool false, .bool false, .string (mk []), .string (mk [])] T.api_Change true)).set H.n (.cells [.string (mk []), .bool false, .bool false, .string (mk []), .string (mk [])] T.api_Change true) = H1
  have s1 : Still H H1 := by rw [← hH1]; exact Fr.set ((Fr.refl H).push _) _ _ (fun h => by omega)
  have n1 : H1.n = H.n + 1 := by rw [← hH1]; rfl
  have f1 : H1.f H.n = .cells [.string (mk []), .bool false, .bool false, .string (mk []), .string (mk [])] T.api_Change true := by rw [← hH1]; exact set_f_eq
  have hk1 : cellB (H1.f bk) ok = some (.string k) := by rw [s1.f hbk (fun h => h)]; exact hk0
  have t1 := t.still s1
  have hfb := q_find b k vb H1 (R.rb.still t1.base) (by have := R.lb; omega)
  rw [hb] at hfb
  have hfb : CC F.law_find [vb, .string k] H1 = some (.tuple #[.agg #[.string y.key, .bool y.was, .bool y.is, .string y.before, .string y.after], .bool true], H1) := hfb
  generalize hH2 : (H1.push (.cells [.string (mk []), .bool false, .bool false, .string (mk []), .string (mk [])] T.api_Change true)).set H1.n (.cells [.string y.key, .bool y.was, .bool y.is, .string y.before, .string y.after] T.api_Change true) = H2
  have s2 : Still H1 H2 := by rw [← hH2]; exact Fr.set ((Fr.refl H1).push _) _ _ (fun h => by omega)
  have n2 : H2.n = H1.n + 1 := by rw [← hH2]; rfl
  have f2 : H2.f H1.n = .cells [.string y.key, .bool y.was, .bool y.is, .string y.before, .string y.after] T.api_Change true := by rw [← hH2]; exact set_f_eq
  have f21 : H2.f H.n = .cells [.string (mk []), .bool false, .bool false, .string (mk []), .string (mk [])] T.api_Change true := by rw [s2.f (by omega) (fun h => h), f1]
  have t2 := t1.still s2
  have e1 : oneL (cg0, y, false, true) = [y] := rfl
  have e2 : mergL (cg0, y, false, true) = [y] := rfl
  have e3 : confL (cg0, y, false, true) = [] := rfl
  rw [e1, e2, e3, List.append_nil]
  obtain ⟨o1', H3, H4, hH3, happ1, t4, s3, fr4⟩ := t2.one h1 y
  have n3 := s3.n
  have n4 := fr4.n
  have f3 : H3.f H1.n = .cells [.string y.key, .bool y.was, .bool y.is, .string y.before, .string y.after] T.api_Change true := by rw [s3.f (by omega) (fun h => h), f2]
  have off1 : ¬ OnlyOf o1 H1.n := fun h => by have := t.w1.blk h; omega
  have f4 : H4.f H1.n = .cells [.string y.key, .bool y.was, .bool y.is, .string y.before, .string y.after] T.api_Change true := by rw [fr4.f (by omega) off1, f3]
  have hver : H4.ver H1.n = H3.ver H1.n := fr4.ver (by omega) off1
  obtain ⟨o2', H5, H6, hH5, happ2, t6, s5, fr6⟩ := t4.two h2 y
  have n5 := s5.n
  have n6 := fr6.n
  refine ⟨H6, o1', o2', o3, t6, fun K => ?_⟩
  rw [r_pB, Int.natCast_add]
  simp (maxSteps := 2000000) (disch := first | with_reducible rfl | assumption | omega | rfl | (simp only [go_sem]; first | done | omega)) only [go_sem, ↓reduceIte, reduceCtorEq, Nat.reduceEqDiff, Nat.reduceAdd, Nat.reduceSub, Nat.reduceMul, Nat.reduceDiv, Nat.reduceMod, Nat.reduceLeDiff, Nat.reduceLT, Nat.reduceBEq, Int.reduceEq, Int.reduceBEq, Int.reduceBNe, Int.reduceLT, Int.reduceLE, Int.reduceAdd, Int.reduceSub, Int.reduceNeg, Int.reduceToNat, Int.reducePow, Nat.reducePow, Int.reduceMul, Int.reduceDiv, ↓pB, hlen, hlt, hix, hk0, enterK_eq hfa, hH1, hk1, enterK_eq hfb, hH2, f21, f2, hH3, happ1, f4, hH5, happ2]

theorem pr_C {Hz H : AHeap} {va vb vk o1 o2 o3 : Value} {a b l1 l2 : List Cg} {ks l3 : List ByteArray} (R : Rnd Hz va vb vk a b ks) (t : Tri Hz H o1 l1 o2 l2 o3 l3) (h1 : l1.length ≤ 1000) (h2 : l2.length ≤ 1000) (h3 : l3.length ≤ 1000) {i : Nat} (hi : i < ks.length) {k : ByteArray} (hik : ks[i] = k) {x y : Cg} (ha : findC a k = some x) (hb : findC b k = some y) (hxk : x.key = k) (fi : Bool) :
    ∃ H' o1' o2' o3', Tri Hz H' o1' (l1 ++ oneL (x, y, true, true)) o2' (l2 ++ mergL (x, y, true, true)) o3' (l3 ++ confL (x, y, true, true)) ∧ ∀ K : K, l_law_DeltaPairs_1 va vb o1 o2 o3 (.bool fi) vk (.int .i64 (i : Int)) H (blkK [0, 1, 10, 11, 12, 13] 2 K) = l_law_DeltaPairs_1 va vb o1' o2' o3' (.bool (fi && togF (x, y, true, true))) vk (.int .i64 ((i + 1 : Nat) : Int)) H' (blkK [0, 1, 10, 11, 12, 13] 2 K) := by
  have hlt : (i : Int) < (ks.length : Int) := by omega
  have hkb := R.lk
  have hlen := R.rk.lenS
  obtain ⟨bk, ok, hix, hbk, hck, _⟩ := (R.rk.still t.base).ix (q := .i64) hi
  rw [hik] at hck
  have hix : ixS 1 vk (.int .i64 i) = some (.pointer (some ⟨bk, ok, none⟩)) := hix
  have hk0 : cellB (H.f bk) ok = some (.string k) := cutB_cell hck (i := 0) (by decide)
  have hfa := q_find a k va H (R.ra.still t.base) (by have := R.la; omega)
  rw [ha] at hfa
  have hfa : CC F.law_find [va, .string k] H = some (.tuple #[.agg #[.string x.key, .bool x.was, .bool x.is, .string x.before, .string x.after], .bool true], H) := hfa
  generalize hH1 : (H.push (.cells [.string (mk []), .bool false, .bool false, .string (mk []), .string (mk [])] T.api_Change true)).set H.n (.cells [.string x.key, .bool x.was, .bool x.is, .string x.before, .string x.after] T.api_Change true) = H1
  have s1 : Still H H1 := by rw [← hH1]; exact Fr.set ((Fr.refl H).push _) _ _ (fun h => by omega)
  have n1 : H1.n = H.n + 1 := by rw [← hH1]; rfl
  have f1 : H1.f H.n = .cells [.string x.key, .bool x.was, .bool x.is, .string x.before, .string x.after] T.api_Change true := by rw [← hH1]; exact set_f_eq
  have hk1 : cellB (H1.f bk) ok = some (.string k) := by rw [s1.f hbk (fun h => h)]; exact hk0
  have t1 := t.still s1
  have hfb := q_find b k vb H1 (R.rb.still t1.base) (by have := R.lb; omega)
  rw [hb] at hfb
  have hfb : CC F.law_find [vb, .string k] H1 = some (.tuple #[.agg #[.string y.key, .bool y.was, .bool y.is, .string y.before, .string y.after], .bool true], H1) := hfb
  generalize hH2 : (H1.push (.cells [.string (mk []), .bool false, .bool false, .string (mk []), .string (mk [])] T.api_Change true)).set H1.n (.cells [.string y.key, .bool y.was, .bool y.is, .string y.before, .string y.after] T.api_Change true) = H2
  have s2 : Still H1 H2 := by rw [← hH2]; exact Fr.set ((Fr.refl H1).push _) _ _ (fun h => by omega)
  have n2 : H2.n = H1.n + 1 := by rw [← hH2]; rfl
  have f2 : H2.f H1.n = .cells [.string y.key, .bool y.was, .bool y.is, .string y.before, .string y.after] T.api_Change true := by rw [← hH2]; exact set_f_eq
  have f21 : H2.f H.n = .cells [.string x.key, .bool x.was, .bool x.is, .string x.before, .string x.after] T.api_Change true := by rw [s2.f (by omega) (fun h => h), f1]
  have t2 := t1.still s2
  have np : ∀ d, H.n ≤ d → ¬ OnlyOf o2 d := fun d hd h => by have := t.w2.blk h; omega
  have np3 : ∀ d, H.n ≤ d → ¬ OnlyOf o3 d := fun d hd h => by have := t.w3.blk h; omega
  have e2 : mergL (x, y, true, true) = [x] := rfl
  have e3 : confL (x, y, true, true) = if x = y then [] else [k] := by
    unfold confL
    by_cases hxy : x = y
    · rw [if_neg fun h => h.2.2 hxy, if_pos hxy]
    · rw [if_pos ⟨rfl, rfl, hxy⟩, if_neg hxy, hxk]
  have e1 : oneL (x, y, true, true) = if noneC (togC (x, y, true, true)) = true then [] else [togC (x, y, true, true)] := rfl
  have mid : ∃ G' o2' o3', Tri Hz G' o1 l1 o2' (l2 ++ [x]) o3' (l3 ++ if x = y then [] else [k]) ∧ G'.f H.n = .cells [.string x.key, .bool x.was, .bool x.is, .string x.before, .string x.after] T.api_Change true ∧ G'.f H1.n = .cells [.string y.key, .bool y.was, .bool y.is, .string y.before, .string y.after] T.api_Change true ∧ ∀ K : K, pT1 K [(0, va), (1, vb), (10, o1), (11, o2), (12, o3), (13, .bool fi), (14, vk), (15, .int .i64 (i : Int)), (16, .pointer (some ⟨H.n, 0, none⟩)), (18, .pointer (some ⟨H1.n, 0, none⟩))] H2 = pT2 K [(0, va), (1, vb), (10, o1), (11, o2'), (12, o3'), (13, .bool fi), (14, vk), (15, .int .i64 (i : Int)), (16, .pointer (some ⟨H.n, 0, none⟩)), (18, .pointer (some ⟨H1.n, 0, none⟩))] G' := by
    by_cases hxy : x = y
    · rw [if_pos hxy]
      exact pT1_0 t2 h2 h3 R.rk hi hkb (by rw [hik, hxk]) (by omega) (by omega) f21 f2 (np _ (by omega)) (np _ (by omega)) (np3 _ (by omega)) (np3 _ (by omega)) hxy fi
    · rw [if_neg hxy, ← hxk]
      exact pT1_1 t2 h2 h3 R.rk hi hkb (by rw [hik, hxk]) (by omega) (by omega) f21 f2 (np _ (by omega)) (np _ (by omega)) (np3 _ (by omega)) (np3 _ (by omega)) hxy fi
  obtain ⟨G, o2', o3', tg, fx, fy, hmid⟩ := mid
  have last : ∃ G' o1', Tri Hz G' o1' (l1 ++ if noneC (togC (x, y, true, true)) = true then [] else [togC (x, y, true, true)]) o2' (l2 ++ [x]) o3' (l3 ++ if x = y then [] else [k]) ∧ ∀ K : K, pT2 K [(0, va), (1, vb), (10, o1), (11, o2'), (12, o3'), (13, .bool fi), (14, vk), (15, .int .i64 (i : Int)), (16, .pointer (some ⟨H.n, 0, none⟩)), (18, .pointer (some ⟨H1.n, 0, none⟩))] G = K .normal [(0, va), (1, vb), (10, o1'), (11, o2'), (12, o3'), (13, .bool (fi && togF (x, y, true, true))), (14, vk), (15, .int .i64 (i : Int))] G' := by
    have hF : togF (x, y, true, true) = !badB (x, y, true, true) := rfl
    have hB : badB (x, y, true, true) = ((x.is != y.was) || !decide (bl x.after = bl y.before)) := rfl
    cases hnn : noneC (togC (x, y, true, true)) with
    | true =>
      cases fi with
      | false => exact pT2_f1 tg h1 i fx fy hnn
      | true =>
        cases hw : (x.is == y.was) with
        | false =>
          have hz : togF (x, y, true, true) = false := by rw [hF, hB, bne, hw]; rfl
          rw [hz]
          exact pT2_w1 tg h1 i fx fy hnn hw
        | true =>
          by_cases hst : bl x.after = bl y.before
          · have hz : togF (x, y, true, true) = true := by rw [hF, hB, bne, hw, decide_eq_true hst]; rfl
            rw [hz]
            exact pT2_t1 tg h1 i fx fy hnn hw hst
          · have hz : togF (x, y, true, true) = false := by rw [hF, hB, bne, hw, decide_eq_false hst]; rfl
            rw [hz]
            exact pT2_s1 tg h1 i fx fy hnn hw hst
    | false =>
      cases fi with
      | false => exact pT2_f0 tg h1 i fx fy hnn
      | true =>
        cases hw : (x.is == y.was) with
        | false =>
          have hz : togF (x, y, true, true) = false := by rw [hF, hB, bne, hw]; rfl
          rw [hz]
          exact pT2_w0 tg h1 i fx fy hnn hw
        | true =>
          by_cases hst : bl x.after = bl y.before
          · have hz : togF (x, y, true, true) = true := by rw [hF, hB, bne, hw, decide_eq_true hst]; rfl
            rw [hz]
            exact pT2_t0 tg h1 i fx fy hnn hw hst
          · have hz : togF (x, y, true, true) = false := by rw [hF, hB, bne, hw, decide_eq_false hst]; rfl
            rw [hz]
            exact pT2_s0 tg h1 i fx fy hnn hw hst
  obtain ⟨G', o1', tg', hlast⟩ := last
  refine ⟨G', o1', o2', o3', by rw [e1, e2, e3]; exact tg', fun K => ?_⟩
  rw [r_pB, Int.natCast_add]
  simp (maxSteps := 2000000) (disch := first | with_reducible rfl | assumption | omega | rfl | (simp only [go_sem]; first | done | omega)) only [go_sem, ↓reduceIte, reduceCtorEq, Nat.reduceEqDiff, Nat.reduceAdd, Nat.reduceSub, Nat.reduceMul, Nat.reduceDiv, Nat.reduceMod, Nat.reduceLeDiff, Nat.reduceLT, Nat.reduceBEq, Int.reduceEq, Int.reduceBEq, Int.reduceBNe, Int.reduceLT, Int.reduceLE, Int.reduceAdd, Int.reduceSub, Int.reduceNeg, Int.reduceToNat, Int.reducePow, Nat.reducePow, Int.reduceMul, Int.reduceDiv, ↓pB, hlen, hlt, hix, hk0, enterK_eq hfa, hH1, hk1, enterK_eq hfb, hH2, f21, f2, hmid, hlast]

end Go.Proofs.Ytlbieadnfgfhlaa

/-
  Chapter 49: the law DeltaPairs runs to true (printed by gen_pairs2.py).
  Conditions: none. By an AI agent.
-/
set_option maxRecDepth 10000
set_option linter.unusedSimpArgs false
set_option linter.unusedVariables false
namespace Go.Proofs.Ytlbieadnfgfhlaa
open Go Eng

/-! ### The law's parts (out of the printed text) -/
noncomputable def pE (K0 : K) (tT_4 : Env) (h27 : AHeap) : Res :=
enterK CC F.law_togethers [(get tT_4 0), (get tT_4 1), (get tT_4 10), (get tT_4 21)] h27 fun t189 h28 =>
bareK (xun Try.prog .not t189) h28 fun t190 h29 =>
guardK t190 false (fun o20 => o20 (get tT_4 0) h29) h29 fun t192 h30 =>
guardK t190 false (fun o21 => o21 (get tT_4 1) h30) h30 fun t193 h31 =>
guardK t190 false (fun o22 => o22 (get tT_4 12) h31) h31 fun t194 h32 =>
guardK t190 false (fun o23 => enterK CC F.law_conflicts [t192, t193, t194, (.int .i64 0)] h32 o23) h32 fun t195 h33 =>
guardK t190 false (fun o24 => bareK (xun Try.prog .not t195) h33 o24) h33 fun t196 h34 =>
pickK t190 (.bool true) t196 fun t197 =>
condL t197 (fun k25 => k25 .ret [(6, (.bool false))] h34) (fun k25 =>
k25 .normal [(0, (get tT_4 0)), (1, (get tT_4 1)), (11, (get tT_4 11)), (12, (get tT_4 12))] h34) (seqK (fun tT_5 h35 =>
bareK (lenS (get tT_5 12)) h35 fun t199 h36 =>
bareK (xbin Try.prog .gtr T.int (.tmp 199) (.const (.int .i64 0)) t199 (.int .i64 0)) h36 fun t200 h37 =>
condL t200 (fun k26 => enterK CC F.law_merges [(get tT_5 0), (get tT_5 1), (.slice none 0 0), (.int .i64 11)] h37 fun t203 h38 =>
guardK t203 true (fun o27 => enterK CC F.law_known [] h38 o27) h38 fun t205 h39 =>
pickK t203 t205 (.bool false) fun t206 =>
k26 .ret [(6, t206)] h39) (fun k26 =>
k26 .normal [(0, (get tT_5 0)), (1, (get tT_5 1)), (11, (get tT_5 11))] h37) (seqK (fun tT_6 h40 =>
enterK CC F.law_merges [(get tT_6 0), (get tT_6 1), (get tT_6 11), (.int .i64 0)] h40 fun t210 h41 =>
guardK t210 true (fun o28 => enterK CC F.law_known [] h41 o28) h41 fun t212 h42 =>
pickK t210 t212 (.bool false) fun t213 =>
K0 .ret [(6, t213)] h42) K0)) K0)

noncomputable def pR (K0 : K) (tT_1 : Env) (h9 : AHeap) : Res :=
enterK CC F.law_valid [(get tT_1 0)] h9 fun t64 h10 =>
bareK (xun Try.prog .not t64) h10 fun t65 h11 =>
guardK t65 false (fun o7 => o7 (get tT_1 1) h11) h11 fun t67 h12 =>
guardK t65 false (fun o8 => enterK CC F.law_valid [t67] h12 o8) h12 fun t68 h13 =>
guardK t65 false (fun o9 => bareK (xun Try.prog .not t68) h13 o9) h13 fun t69 h14 =>
pickK t65 (.bool true) t69 fun t70 =>
condL t70 (fun k10 => enterK CC F.law_togethers [(get tT_1 0), (get tT_1 1), (.slice none 0 0), (.int .i64 2)] h14 fun t73 h15 =>
guardK t73 true (fun o11 => o11 (get tT_1 0) h15) h15 fun t75 h16 =>
guardK t73 true (fun o12 => o12 (get tT_1 1) h16) h16 fun t76 h17 =>
guardK t73 true (fun o13 => enterK CC F.law_merges [t75, t76, (.slice none 0 0), (.int .i64 2)] h17 o13) h17 fun t77 h18 =>
pickK t73 t77 (.bool false) fun t78 =>
guardK t78 true (fun o14 => o14 (get tT_1 0) h18) h18 fun t80 h19 =>
guardK t78 true (fun o15 => o15 (get tT_1 1) h19) h19 fun t81 h20 =>
guardK t78 true (fun o16 => enterK CC F.law_conflicts [t80, t81, (.slice none 0 0), (.int .i64 2)] h20 o16) h20 fun t82 h21 =>
pickK t78 t82 (.bool false) fun t83 =>
guardK t83 true (fun o17 => enterK CC F.law_known [] h21 o17) h21 fun t85 h22 =>
pickK t83 t85 (.bool false) fun t86 =>
k10 .ret [(6, t86)] h22) (fun k10 =>
k10 .normal [(0, (get tT_1 0)), (1, (get tT_1 1))] h14) (seqK (fun tT_2 h23 =>
enterK CC F.law_keys [(get tT_2 0), (get tT_2 1)] h23 fun t89 h24 =>
shareL (fun k18 =>
l_law_DeltaPairs_1 (get tT_2 0) (get tT_2 1) (.slice none 0 0) (.slice none 0 0) (.slice none 0 0) (.bool true) t89 (.int .i64 0) h24 (blkK [0, 1, 10, 11, 12, 13] 2 k18)) (seqK (fun tT_3 h25 =>
bareK (xun Try.prog .not (get tT_3 13)) h25 fun t184 h26 =>
condL t184 (fun k19 => k19 .normal [(0, (get tT_3 0)), (1, (get tT_3 1)), (10, (.slice none 0 0)), (11, (get tT_3 11)), (12, (get tT_3 12)), (21, (.int .i64 10))] h26) (fun k19 =>
k19 .normal [(0, (get tT_3 0)), (1, (get tT_3 1)), (10, (get tT_3 10)), (11, (get tT_3 11)), (12, (get tT_3 12)), (21, (.int .i64 0))] h26) (seqK (pE K0) K0)) K0)) K0)

noncomputable def pM (a0 a1 a2 : Value) (H : AHeap) (K0 : K) : Res :=
enterK CC F.law_small [a0] H fun t23 h1 =>
bareK (xun Try.prog .not t23) h1 fun t24 h2 =>
guardK t24 false (fun o1 => o1 a1 h2) h2 fun t26 h3 =>
guardK t24 false (fun o2 => enterK CC F.law_small [t26] h3 o2) h3 fun t27 h4 =>
guardK t24 false (fun o3 => bareK (xun Try.prog .not t27) h4 o3) h4 fun t28 h5 =>
pickK t24 (.bool true) t28 fun t29 =>
condL t29 (fun k4 => enterK CC F.law_known [] h5 fun t30 h6 =>
k4 .ret [(6, t30)] h6) (fun k4 =>
k4 .normal [(0, a0), (1, a1), (2, a2)] h5) (seqK (fun tT h7 =>
condL (get tT 2) (fun k5 => bothK (app T.api_Change 5 56 (.slice none 0 0) (srcS 5 (get tT 1) h7) h7) fun t33 h8 =>
shareL (fun k6 =>
l_law_DeltaPairs_0 (get tT 0) t33 (.int .i64 0) h8 (blkK [0, 1] 0 k6)) (afterK [0, 1] k5)) (fun k5 =>
k5 .normal [(0, (get tT 0)), (1, (get tT 1))] h7) (seqK (pR K0) K0)) K0)

theorem s_pM (a0 a1 a2 : Value) (H : AHeap) (K0 : K) : s_law_DeltaPairs guardK condL shareL Try.prog CC l_law_DeltaPairs_0 l_law_DeltaPairs_1 a0 a1 a2 H K0 = pM a0 a1 a2 H K0 := by kernel_rfl

/-! ### All keys -/
theorem l_pairs1 {Hz : AHeap} {va vb vk : Value} {a b : List Cg} {ks : List ByteArray} (R : Rnd Hz va vb vk a b ks) : ∀ (x : List ByteArray) (i : Nat) (H : AHeap) (l1 l2 : List Cg) (l3 : List ByteArray) (o1 o2 o3 : Value) (fi : Bool), ks.drop i = x → Tri Hz H o1 l1 o2 l2 o3 l3 → i ≤ ks.length → l1.length ≤ i → l2.length ≤ i → l3.length ≤ i → (∀ k ∈ x, findC a k ≠ none ∨ findC b k ≠ none) →
    ∃ H' o1' o2' o3', Tri Hz H' o1' (l1 ++ x.flatMap fun k => oneL (mkB (findC a k) (findC b k))) o2' (l2 ++ x.flatMap fun k => mergL (mkB (findC a k) (findC b k))) o3' (l3 ++ x.flatMap fun k => confL (mkB (findC a k) (findC b k))) ∧
      ∀ K : K, l_law_DeltaPairs_1 va vb o1 o2 o3 (.bool fi) vk (.int .i64 (i : Int)) H (blkK [0, 1, 10, 11, 12, 13] 2 K) = K .normal [(0, va), (1, vb), (10, o1'), (11, o2'), (12, o3'), (13, .bool (fi && x.all fun k => togF (mkB (findC a k) (findC b k))))] H'
  | [], i, H, l1, l2, l3, o1, o2, o3, fi, hx, t, hi, h1, h2, h3, hks => by
    have h : ks.length ≤ i := List.drop_eq_nil_iff.1 hx
    have hlt : ¬ (i : Int) < (ks.length : Int) := by omega
    have hlen := R.rk.lenS
    refine ⟨H, o1, o2, o3, by simpa using t, fun K => ?_⟩
    rw [r_pB, List.all_nil, Bool.and_true]
    simp (disch := first | with_reducible rfl | assumption | omega | rfl | (simp only [go_sem]; first | done | omega)) only [go_sem, ↓reduceIte, reduceCtorEq, Nat.reduceEqDiff, Nat.reduceAdd, Nat.reduceSub, Nat.reduceMul, Nat.reduceDiv, Nat.reduceMod, Nat.reduceLeDiff, Nat.reduceLT, Nat.reduceBEq, Int.reduceEq, Int.reduceBEq, Int.reduceBNe, Int.reduceLT, Int.reduceLE, Int.reduceAdd, Int.reduceSub, Int.reduceNeg, Int.reduceToNat, Int.reducePow, Nat.reducePow, Int.reduceMul, Int.reduceDiv, ↓pB, hlen, hlt]
  | k :: x, i, H, l1, l2, l3, o1, o2, o3, fi, hx, t, hi, h1, h2, h3, hks => by
    obtain ⟨h, hxa, hx'⟩ := drop_cons hx
    have hlk := R.lk
    have step : ∃ H' o1' o2' o3', Tri Hz H' o1' (l1 ++ oneL (mkB (findC a k) (findC b k))) o2' (l2 ++ mergL (mkB (findC a k) (findC b k))) o3' (l3 ++ confL (mkB (findC a k) (findC b k))) ∧ ∀ K : K, l_law_DeltaPairs_1 va vb o1 o2 o3 (.bool fi) vk (.int .i64 (i : Int)) H (blkK [0, 1, 10, 11, 12, 13] 2 K) = l_law_DeltaPairs_1 va vb o1' o2' o3' (.bool (fi && togF (mkB (findC a k) (findC b k)))) vk (.int .i64 ((i + 1 : Nat) : Int)) H' (blkK [0, 1, 10, 11, 12, 13] 2 K) := by
      cases ha : findC a k with
      | some u =>
        cases hb : findC b k with
        | some w => exact pr_C R t (by omega) (by omega) (by omega) h hxa ha hb (findC_some ha).2 fi
        | none =>
          have hz : togF (mkB (some u) none) = true := rfl
          rw [hz, Bool.and_true]
          exact pr_A R t (by omega) (by omega) (by omega) h hxa ha hb fi
      | none =>
        cases hb : findC b k with
        | some w =>
          have hz : togF (mkB none (some w)) = true := rfl
          rw [hz, Bool.and_true]
          exact pr_B R t (by omega) (by omega) (by omega) h hxa ha hb fi
        | none => exact absurd (hks k (by simp)) (by rw [ha, hb]; simp)
    obtain ⟨H1, p1, p2, p3, t1, hstep⟩ := step
    have g1 : (oneL (mkB (findC a k) (findC b k))).length ≤ 1 := by
      generalize mkB (findC a k) (findC b k) = e
      unfold oneL
      split
      · simp
      · split
        · simp
        · split <;> simp
    have g2 := mergL_len (mkB (findC a k) (findC b k))
    have g3 := confL_len (mkB (findC a k) (findC b k))
    obtain ⟨H', o1', o2', o3', t', ih⟩ := l_pairs1 R x (i + 1) H1 _ _ _ p1 p2 p3 _ hx' t1 (by omega) (by rw [List.length_append]; omega) (by rw [List.length_append]; omega) (by rw [List.length_append]; omega) fun j hj => hks j (List.mem_cons_of_mem _ hj)
    refine ⟨H', o1', o2', o3', ?_, fun K => (hstep K).trans ((ih K).trans ?_)⟩
    · simpa [List.flatMap_cons] using t'
    · rw [List.all_cons, Bool.and_assoc]

theorem flat_conf {a b : List Cg} (ha : SrtC a) (hb : SrtC b) {β : Type} (g : Both → List β) : ((mkeys a b).flatMap fun k => g (mkB (findC a k) (findC b k))) = (mrg a b).flatMap g := (mrg_flat ha hb g).symm
theorem all_fol {a b : List Cg} (ha : SrtC a) (hb : SrtC b) : ((mkeys a b).all fun k => togF (mkB (findC a k) (findC b k))) = folS a b := by
  obtain ⟨_, _, h3⟩ := mrg_spec _ a b rfl ha hb
  unfold folS
  conv => rhs; rw [h3]
  rw [List.all_map]
  rfl
theorem one_tog {a b : List Cg} (h : folS a b = true) : (mrg a b).flatMap oneL = togs a b := by
  unfold togs
  refine flat_congr fun e he => ?_
  have hf : togF e = true := List.all_eq_true.1 h e he
  obtain ⟨x, y, ia, ib⟩ := e
  cases ia <;> cases ib <;> try rfl
  have hb : badB (x, y, true, true) = false := by
    have : (!(badB (x, y, true, true))) = true := hf
    simpa using this
  unfold oneL togL
  simp only [Bool.true_eq_false, if_false, hb, Bool.false_eq_true]

/-! ### What comes behind -/
theorem pr_end (a b : List Cg) (va vb o1 o2 o3 : Value) (H : AHeap) (ok : Ok H) (ra : Arg H va a) (rb : Arg H vb b) (ha : validC a = true) (hb : validC b = true) (hla : a.length ≤ 20) (hlb : b.length ≤ 20) (fo : Bool) (hfo : folS a b = fo) (w1 : fo = true → Rd ECg H o1 (togs a b)) (w2 : Rd ECg H o2 (merg a b)) (w3 : Rd EStr H o3 (confs a b)) :
    ∃ H', pE (endK Try.prog [.tmp 6]) [(0, va), (1, vb), (10, if fo = true then o1 else .slice none 0 0), (11, o2), (12, o3), (21, .int .i64 (if fo = true then 0 else 10))] H = some (.bool true, H') := by
  have hml := mrg_len _ a b rfl
  have c1 := len_flat togL_len (mrg a b)
  have c2 := len_flat mergL_len (mrg a b)
  have c3 := len_flatS confL_len (mrg a b)
  have c1 : (togs a b).length ≤ 1000 := by show ((mrg a b).flatMap togL).length ≤ 1000; omega
  have c2 : (merg a b).length ≤ 1000 := by show ((mrg a b).flatMap mergL).length ≤ 1000; omega
  have c3 : (confs a b).length ≤ 1000 := by show ((mrg a b).flatMap confL).length ≤ 1000; omega
  have htog : CC F.law_togethers [va, vb, if fo = true then o1 else .slice none 0 0, .int .i64 (if fo = true then 0 else 10)] H = some (.bool true, H) := by
    cases fo with
    | true =>
      obtain ⟨v, H', h, o, s, _⟩ := (q_Together a b va vb H ok ra rb ha hb).2.2 hfo (by omega)
      exact q_togethers va vb o1 v _ H H' h o.rd s (w1 rfl) (by omega)
    | false => exact q_togethers_no va vb 10 H ((q_Together a b va vb H ok ra rb ha hb).1 hfo)
  generalize (if fo = true then o1 else .slice none 0 0) = oo at *
  generalize (if fo = true then (0 : Int) else 10) = no at *
  obtain ⟨vc, Hc, hcf, oc, sc, _⟩ := q_Conflicts a b va vb H ok ra rb ha hb
  have hcon := q_lconf va vb o3 vc _ H Hc hcf oc.rd sc w3 (by omega)
  have hlen := w3.lenS
  by_cases hc : confs a b = []
  · obtain ⟨vm, Hm, hm, om, sm, _⟩ := (q_Merge a b va vb H ok ra rb ha hb).2.2 (by omega) hc
    have hmer := q_merges va vb o2 vm _ H Hm hm om sm w2 (by omega)
    rw [hc] at hlen
    have hlen : lenS o3 = some (.int .i64 0) := hlen
    refine ⟨H, ?_⟩
    simp (maxSteps := 2000000) (disch := first | with_reducible rfl | assumption | omega | rfl | (simp only [go_sem]; first | done | omega)) only [go_sem, ↓reduceIte, reduceCtorEq, Nat.reduceEqDiff, Nat.reduceAdd, Nat.reduceSub, Nat.reduceMul, Nat.reduceDiv, Nat.reduceMod, Nat.reduceLeDiff, Nat.reduceLT, Nat.reduceBEq, Int.reduceEq, Int.reduceBEq, Int.reduceBNe, Int.reduceLT, Int.reduceLE, Int.reduceAdd, Int.reduceSub, Int.reduceNeg, Int.reduceToNat, Int.reducePow, Nat.reducePow, Int.reduceMul, Int.reduceDiv, ↓pE, enterK_eq htog, enterK_eq hcon, hlen, enterK_eq hmer]
  · have hmer := q_merges_no va vb 11 H ((q_Merge a b va vb H ok ra rb ha hb).2.1 (by omega) hc)
    have hpos : 0 < ((confs a b).length : Int) := by have := List.length_pos_iff.2 hc; omega
    refine ⟨H, ?_⟩
    simp (maxSteps := 2000000) (disch := first | with_reducible rfl | assumption | omega | rfl | (simp only [go_sem]; first | done | omega)) only [go_sem, ↓reduceIte, reduceCtorEq, Nat.reduceEqDiff, Nat.reduceAdd, Nat.reduceSub, Nat.reduceMul, Nat.reduceDiv, Nat.reduceMod, Nat.reduceLeDiff, Nat.reduceLT, Nat.reduceBEq, Int.reduceEq, Int.reduceBEq, Int.reduceBNe, Int.reduceLT, Int.reduceLE, Int.reduceAdd, Int.reduceSub, Int.reduceNeg, Int.reduceToNat, Int.reducePow, Nat.reducePow, Int.reduceMul, Int.reduceDiv, ↓pE, enterK_eq htog, enterK_eq hcon, hlen, decide_eq_true hpos, enterK_eq hmer]

theorem pr_rest (a b : List Cg) (va vb : Value) (H : AHeap) (ok : Ok H) (ra : Arg H va a) (rb : Arg H vb b) (hla : a.length ≤ 20) (hlb : b.length ≤ 20) : ∃ H', pR (endK Try.prog [.tmp 6]) [(0, va), (1, vb)] H = some (.bool true, H') := by
  have hva := q_lvalid a va H ok ra.sb.1 (by omega)
  have hvb := q_lvalid b vb H ok rb.sb.1 (by omega)
  have ea : validC a = okL none a := by unfold validC; rw [decide_eq_true (by omega), Bool.true_and]
  have eb : validC b = okL none b := by unfold validC; rw [decide_eq_true (by omega), Bool.true_and]
  rw [← ea] at hva
  rw [← eb] at hvb
  by_cases hv : validC a = true ∧ validC b = true
  · obtain ⟨ha, hb⟩ := hv
    rw [ha] at hva
    rw [hb] at hvb
    obtain ⟨_, _, sa⟩ := valid_all ha
    obtain ⟨_, _, sb⟩ := valid_all hb
    obtain ⟨vk, H1, hkeys, ok1, s1, _⟩ := q_keys a b va vb H ok ra.sb.1 rb.sb.1 ha hb (by omega)
    have hkl : (mkeys a b).length ≤ 40 := by have := mrg_len _ a b rfl; unfold mkeys; rw [List.length_map]; omega
    have R : Rnd H1 va vb vk a b (mkeys a b) := ⟨ra.sb.1.still s1, rb.sb.1.still s1, ok1.rd, by omega, by omega, by omega⟩
    have t1 : Tri H1 H1 (.slice none 0 0) [] (.slice none 0 0) [] (.slice none 0 0) [] := ⟨ok.fr s1, Fr.refl H1, .inl ⟨rfl, rfl⟩, .inl ⟨rfl, rfl⟩, .inl ⟨rfl, rfl⟩, (fun c hc => by cases hc), (fun c hc => by cases hc), (fun c hc => by cases hc), (fun c hc => by cases hc), (fun c hc => by cases hc), fun c hc => by cases hc⟩
    obtain ⟨H2, o1, o2, o3, t2, hloop⟩ := l_pairs1 R (mkeys a b) 0 H1 [] [] [] _ _ _ true rfl t1 (by omega) (by simp) (by simp) (by simp) fun k hk => (mkeys_mem sa sb k).1 hk
    rw [flat_conf sa sb, flat_conf sa sb, flat_conf sa sb, List.nil_append, List.nil_append, List.nil_append] at t2
    have hloop := fun K => hloop K
    simp only [all_fol sa sb, Bool.true_and] at hloop
    have s02 : Still H H2 := s1.still.then t2.base fun _ _ h => h
    obtain ⟨H3, hend⟩ := pr_end a b va vb o1 o2 o3 H2 t2.ok (ra.still s02) (rb.still s02) ha hb hla hlb (folS a b) rfl (fun h => by rw [← one_tog h]; exact t2.w1.rd) t2.w2.rd t2.w3.rd
    refine ⟨H3, ?_⟩
    cases hf : folS a b with
    | true =>
      rw [hf] at hloop hend
      simp (maxSteps := 2000000) (disch := first | with_reducible rfl | assumption | omega | rfl | (simp only [go_sem]; first | done | omega)) only [go_sem, ↓reduceIte, reduceCtorEq, Nat.reduceEqDiff, Nat.reduceAdd, Nat.reduceSub, Nat.reduceMul, Nat.reduceDiv, Nat.reduceMod, Nat.reduceLeDiff, Nat.reduceLT, Nat.reduceBEq, Int.reduceEq, Int.reduceBEq, Int.reduceBNe, Int.reduceLT, Int.reduceLE, Int.reduceAdd, Int.reduceSub, Int.reduceNeg, Int.reduceToNat, Int.reducePow, Nat.reducePow, Int.reduceMul, Int.reduceDiv, ↓pR, enterK_eq hva, enterK_eq hvb, enterK_eq hkeys]
      refine (hloop _).trans ?_
      simp (disch := first | with_reducible rfl | assumption | omega | rfl | (simp only [go_sem]; first | done | omega)) only [go_sem, ↓reduceIte, reduceCtorEq, Nat.reduceEqDiff, Nat.reduceAdd, Nat.reduceSub, Nat.reduceMul, Nat.reduceDiv, Nat.reduceMod, Nat.reduceLeDiff, Nat.reduceLT, Nat.reduceBEq, Int.reduceEq, Int.reduceBEq, Int.reduceBNe, Int.reduceLT, Int.reduceLE, Int.reduceAdd, Int.reduceSub, Int.reduceNeg, Int.reduceToNat, Int.reducePow, Nat.reducePow, Int.reduceMul, Int.reduceDiv]
      exact hend
    | false =>
      rw [hf] at hloop hend
      simp (maxSteps := 2000000) (disch := first | with_reducible rfl | assumption | omega | rfl | (simp only [go_sem]; first | done | omega)) only [go_sem, ↓reduceIte, reduceCtorEq, Nat.reduceEqDiff, Nat.reduceAdd, Nat.reduceSub, Nat.reduceMul, Nat.reduceDiv, Nat.reduceMod, Nat.reduceLeDiff, Nat.reduceLT, Nat.reduceBEq, Int.reduceEq, Int.reduceBEq, Int.reduceBNe, Int.reduceLT, Int.reduceLE, Int.reduceAdd, Int.reduceSub, Int.reduceNeg, Int.reduceToNat, Int.reducePow, Nat.reducePow, Int.reduceMul, Int.reduceDiv, ↓pR, enterK_eq hva, enterK_eq hvb, enterK_eq hkeys]
      refine (hloop _).trans ?_
      simp (disch := first | with_reducible rfl | assumption | omega | rfl | (simp only [go_sem]; first | done | omega)) only [go_sem, ↓reduceIte, reduceCtorEq, Nat.reduceEqDiff, Nat.reduceAdd, Nat.reduceSub, Nat.reduceMul, Nat.reduceDiv, Nat.reduceMod, Nat.reduceLeDiff, Nat.reduceLT, Nat.reduceBEq, Int.reduceEq, Int.reduceBEq, Int.reduceBNe, Int.reduceLT, Int.reduceLE, Int.reduceAdd, Int.reduceSub, Int.reduceNeg, Int.reduceToNat, Int.reducePow, Nat.reducePow, Int.reduceMul, Int.reduceDiv]
      exact hend
  · have h1 := q_togethers_no va vb 2 H (q_Together_bad a b va vb H ok ra.sb.1 rb.sb.1 (by omega) (by omega) hv)
    have h2 := q_merges_no va vb 2 H (q_Merge_bad a b va vb H ok ra.sb.1 rb.sb.1 (by omega) (by omega) hv)
    have h3 := q_lconf_no va vb 2 H (q_Conflicts_bad a b va vb H ok ra.sb.1 rb.sb.1 (by omega) (by omega) hv)
    refine ⟨H, ?_⟩
    cases ha : validC a with
    | false =>
      rw [ha] at hva
      simp (maxSteps := 2000000) (disch := first | with_reducible rfl | assumption | omega | rfl | (simp only [go_sem]; first | done | omega)) only [go_sem, ↓reduceIte, reduceCtorEq, Nat.reduceEqDiff, Nat.reduceAdd, Nat.reduceSub, Nat.reduceMul, Nat.reduceDiv, Nat.reduceMod, Nat.reduceLeDiff, Nat.reduceLT, Nat.reduceBEq, Int.reduceEq, Int.reduceBEq, Int.reduceBNe, Int.reduceLT, Int.reduceLE, Int.reduceAdd, Int.reduceSub, Int.reduceNeg, Int.reduceToNat, Int.reducePow, Nat.reducePow, Int.reduceMul, Int.reduceDiv, ↓pR, enterK_eq hva, enterK_eq h1, enterK_eq h2, enterK_eq h3]
    | true =>
      rw [ha] at hva
      have hb : validC b = false := by cases hb : validC b with | false => rfl | true => exact absurd ⟨ha, hb⟩ hv
      rw [hb] at hvb
      simp (maxSteps := 2000000) (disch := first | with_reducible rfl | assumption | omega | rfl | (simp only [go_sem]; first | done | omega)) only [go_sem, ↓reduceIte, reduceCtorEq, Nat.reduceEqDiff, Nat.reduceAdd, Nat.reduceSub, Nat.reduceMul, Nat.reduceDiv, Nat.reduceMod, Nat.reduceLeDiff, Nat.reduceLT, Nat.reduceBEq, Int.reduceEq, Int.reduceBEq, Int.reduceBNe, Int.reduceLT, Int.reduceLE, Int.reduceAdd, Int.reduceSub, Int.reduceNeg, Int.reduceToNat, Int.reducePow, Nat.reducePow, Int.reduceMul, Int.reduceDiv, ↓pR, enterK_eq hva, enterK_eq hvb, enterK_eq h1, enterK_eq h2, enterK_eq h3]

/-! ### Changes that follow -/
theorem l_follow (a : List Cg) (va : Value) (Hz : AHeap) (ra : Rd ECg Hz va a) (hla : a.length ≤ 20) (v : Value) (hv : ∀ c, blockOf v = some c → Hz.n ≤ c) (n : Nat) (hn : n ≤ 20) : ∀ (d i : Nat) (H : AHeap) (l : List Cg), n - i = d → i ≤ n → l.length = n → Still Hz H → Own ECg H T.api_Change v l → ∃ H' l', Still Hz H' ∧ Own ECg H' T.api_Change v l' ∧ l'.length = n ∧
    ∀ K : K, l_law_DeltaPairs_0 va v (.int .i64 (i : Int)) H (blkK [0, 1] 0 K) = K .normal [(0, va), (1, v)] H'
  | 0, i, H, l, hd, hi, hl, hs, ho => by
    have hlt : ¬ (i : Int) < (l.length : Int) := by omega
    have hlen := ho.rd.lenS
    refine ⟨H, l, hs, ho, hl, fun K => ?_⟩
    rw [r_law_DeltaPairs_0]
    simp (disch := first | with_reducible rfl | assumption | omega | rfl | (simp only [go_sem]; first | done | omega)) only [go_sem, ↓reduceIte, reduceCtorEq, Nat.reduceEqDiff, Nat.reduceAdd, Nat.reduceSub, Nat.reduceMul, Nat.reduceDiv, Nat.reduceMod, Nat.reduceLeDiff, Nat.reduceLT, Nat.reduceBEq, Int.reduceEq, Int.reduceBEq, Int.reduceBNe, Int.reduceLT, Int.reduceLE, Int.reduceAdd, Int.reduceSub, Int.reduceNeg, Int.reduceToNat, Int.reducePow, Nat.reducePow, Int.reduceMul, Int.reduceDiv, ↓s_law_DeltaPairs_b0, hlen, hlt]
  | d + 1, i, H, l, hd, hi, hl, hs, ho => by
    have hlt : (i : Int) < (l.length : Int) := by omega
    have him : i < l.length := by omega
    have hlen := ho.rd.lenS
    have hf := q_find a l[i].key va H (ra.still hs) (by omega)
    obtain ⟨b0, p0, hix0, hb0, hc0, _⟩ := ho.rd.ix (q := .i64) him
    have hix0 : ixS 5 v (.int .i64 (i : Int)) = some (.pointer (some ⟨b0, p0, none⟩)) := hix0
    have hk0 : cellB (H.f b0) p0 = some (.string l[i].key) := cutB_cell hc0 (i := 0) (by decide)
    cases hfd : findC a l[i].key with
    | none =>
      rw [hfd] at hf
      have hf : CC F.law_find [va, .string l[i].key] H = some (.tuple #[.agg #[.string (mk []), .bool false, .bool false, .string (mk []), .string (mk [])], .bool false], H) := hf
      generalize hH1 : (H.push (.cells [.string (mk []), .bool false, .bool false, .string (mk []), .string (mk [])] T.api_Change true)).set H.n (.cells [.string (mk []), .bool false, .bool false, .string (mk []), .string (mk [])] T.api_Change true) = H1
      have s1 : Still H H1 := by rw [← hH1]; exact Fr.set ((Fr.refl H).push _) _ _ (fun h => by omega)
      obtain ⟨H', l', q1, q2, q3, ih⟩ := l_follow a va Hz ra hla v hv n hn d (i + 1) H1 l (by omega) (by omega) hl (hs.still.then s1 fun _ _ h => h) (ho.still s1)
      refine ⟨H', l', q1, q2, q3, fun K => ?_⟩
      have ih := ih K
      rw [Int.natCast_add] at ih
      rw [r_law_DeltaPairs_0]
      simp (disch := first | with_reducible rfl | assumption | omega | rfl | (simp only [go_sem]; first | done | omega)) only [go_sem, ↓reduceIte, reduceCtorEq, Nat.reduceEqDiff, Nat.reduceAdd, Nat.reduceSub, Nat.reduceMul, Nat.reduceDiv, Nat.reduceMod, Nat.reduceLeDiff, Nat.reduceLT, Nat.reduceBEq, Int.reduceEq, Int.reduceBEq, Int.reduceBNe, Int.reduceLT, Int.reduceLE, Int.reduceAdd, Int.reduceSub, Int.reduceNeg, Int.reduceToNat, Int.reducePow, Nat.reducePow, Int.reduceMul, Int.reduceDiv, ↓s_law_DeltaPairs_b0, hlen, hlt, hix0, hk0, enterK_eq hf, hH1]
      exact ih
    | some c =>
      rw [hfd] at hf
      have hf : CC F.law_find [va, .string l[i].key] H = some (.tuple #[.agg #[.string c.key, .bool c.was, .bool c.is, .string c.before, .string c.after], .bool true], H) := hf
      generalize hH1 : (H.push (.cells [.string (mk []), .bool false, .bool false, .string (mk []), .string (mk [])] T.api_Change true)).set H.n (.cells [.string c.key, .bool c.was, .bool c.is, .string c.before, .string c.after] T.api_Change true) = H1
      have s1 : Still H H1 := by rw [← hH1]; exact Fr.set ((Fr.refl H).push _) _ _ (fun h => by omega)
      have n1 : H1.n = H.n + 1 := by rw [← hH1]; rfl
      have f1 : H1.f H.n = .cells [.string c.key, .bool c.was, .bool c.is, .string c.before, .string c.after] T.api_Change true := by rw [← hH1]; exact set_f_eq
      obtain ⟨b, o, H2, hix, hc, hset, o1, fr1⟩ := (ho.still s1).field him (j := 1) (by decide) (z := .bool c.is) rfl (a := ⟨l[i].key, c.is, l[i].is, l[i].before, l[i].after⟩) rfl
      have hix : ixS 5 v (.int .i64 (i : Int)) = some (.pointer (some ⟨b, o, none⟩)) := hix
      rw [hix0] at hix
      cases hix
      have n2 := fr1.n
      have off : ¬ OnlyOf v H.n := fun h => by have := ho.blk h; omega
      have f2 : H2.f H.n = .cells [.string c.key, .bool c.was, .bool c.is, .string c.before, .string c.after] T.api_Change true := by rw [fr1.f (by omega) off, f1]
      have hver : H2.ver H.n = H1.ver H.n := fr1.ver (by omega) off
      obtain ⟨b2, p2, H3, hix2, _, hset2, o2, fr2⟩ := o1.field (i := i) (by simpa using him) (j := 3) (by decide) (z := .string c.after) rfl (a := ⟨l[i].key, c.is, l[i].is, c.after, l[i].after⟩) (by rw [List.getElem_set_self]; rfl)
      have hix2 : ixS 5 v (.int .i64 (i : Int)) = some (.pointer (some ⟨b2, p2, none⟩)) := hix2
      rw [hix0] at hix2
      cases hix2
      have n3 := fr2.n
      have s3 : Still Hz H3 := ((hs.still.then s1 fun _ _ h => h).still.then fr1 fun c hc h => by have := hv c h; omega).still.then fr2 fun c hc h => by have := hv c h; omega
      obtain ⟨H', l', q1, q2, q3, ih⟩ := l_follow a va Hz ra hla v hv n hn d (i + 1) H3 _ (by omega) (by omega) (by simpa using hl) s3 o2
      refine ⟨H', l', q1, q2, q3, fun K => ?_⟩
      have ih := ih K
      rw [Int.natCast_add] at ih
      rw [r_law_DeltaPairs_0]
      simp (maxSteps := 2000000) (disch := first | with_reducible rfl | assumption | omega | rfl | (simp only [go_sem]; first | done | omega)) only [go_sem, ↓reduceIte, reduceCtorEq, Nat.reduceEqDiff, Nat.reduceAdd, Nat.reduceSub, Nat.reduceMul, Nat.reduceDiv, Nat.reduceMod, Nat.reduceLeDiff, Nat.reduceLT, Nat.reduceBEq, Int.reduceEq, Int.reduceBEq, Int.reduceBNe, Int.reduceLT, Int.reduceLE, Int.reduceAdd, Int.reduceSub, Int.reduceNeg, Int.reduceToNat, Int.reducePow, Nat.reducePow, Int.reduceMul, Int.reduceDiv, s_law_DeltaPairs_b0, hlen, hlt, hix0, hk0, enterK_eq hf, hH1, f1, hset, hset2, f2]
      exact ih

theorem q_DeltaPairs (a b : List Cg) (va vb : Value) (follow : Bool) (H : AHeap) (ok : Ok H) (ra : Arg H va a) (rb : Arg H vb b) : ∃ H', CC F.law_DeltaPairs [va, vb, .bool follow] H = some (.bool true, H') := by
  obtain ⟨x, hsa, hxa⟩ := q_small a va H ra.sb.1
  obtain ⟨y, hsb, hyb⟩ := q_small b vb H rb.sb.1
  cases x with
  | false =>
    refine any_of (H1 := ?_) (d_law_DeltaPairs _ _ _ H ?_)
    rotate_left 1
    · rw [s_pM]
      simp (disch := first | with_reducible rfl | assumption | omega | rfl | (simp only [go_sem]; first | done | omega)) only [go_sem, ↓reduceIte, reduceCtorEq, Nat.reduceEqDiff, Nat.reduceAdd, Nat.reduceSub, Nat.reduceMul, Nat.reduceDiv, Nat.reduceMod, Nat.reduceLeDiff, Nat.reduceLT, Nat.reduceBEq, Int.reduceEq, Int.reduceBEq, Int.reduceBNe, Int.reduceLT, Int.reduceLE, Int.reduceAdd, Int.reduceSub, Int.reduceNeg, Int.reduceToNat, Int.reducePow, Nat.reducePow, Int.reduceMul, Int.reduceDiv, ↓pM, enterK_eq hsa]
      rfl
  | true =>
    cases y with
    | false =>
      refine any_of (H1 := ?_) (d_law_DeltaPairs _ _ _ H ?_)
      rotate_left 1
      · rw [s_pM]
        simp (disch := first | with_reducible rfl | assumption | omega | rfl | (simp only [go_sem]; first | done | omega)) only [go_sem, ↓reduceIte, reduceCtorEq, Nat.reduceEqDiff, Nat.reduceAdd, Nat.reduceSub, Nat.reduceMul, Nat.reduceDiv, Nat.reduceMod, Nat.reduceLeDiff, Nat.reduceLT, Nat.reduceBEq, Int.reduceEq, Int.reduceBEq, Int.reduceBNe, Int.reduceLT, Int.reduceLE, Int.reduceAdd, Int.reduceSub, Int.reduceNeg, Int.reduceToNat, Int.reducePow, Nat.reducePow, Int.reduceMul, Int.reduceDiv, ↓pM, enterK_eq hsa, enterK_eq hsb]
        rfl
    | true =>
      have hla := hxa rfl
      have hlb := hyb rfl
      cases follow with
      | false =>
        obtain ⟨H', hr⟩ := pr_rest a b va vb H ok ra rb hla hlb
        refine any_of (H1 := H') (d_law_DeltaPairs _ _ _ H ?_)
        rw [s_pM]
        simp (disch := first | with_reducible rfl | assumption | omega | rfl | (simp only [go_sem]; first | done | omega)) only [go_sem, ↓reduceIte, reduceCtorEq, Nat.reduceEqDiff, Nat.reduceAdd, Nat.reduceSub, Nat.reduceMul, Nat.reduceDiv, Nat.reduceMod, Nat.reduceLeDiff, Nat.reduceLT, Nat.reduceBEq, Int.reduceEq, Int.reduceBEq, Int.reduceBNe, Int.reduceLT, Int.reduceLE, Int.reduceAdd, Int.reduceSub, Int.reduceNeg, Int.reduceToNat, Int.reducePow, Nat.reducePow, Int.reduceMul, Int.reduceDiv, ↓pM, enterK_eq hsa, enterK_eq hsb]
        exact hr
      | true =>
        obtain ⟨v, H2, happ, ho2, fr2, hb2⟩ := (show Own ECg H T.api_Change (.slice none 0 0) [] from .inl ⟨rfl, rfl⟩).appE (m := b) (sz := 5) (bytes := 56) rfl (by simp; omega) (by simp; omega) (rb.sb.1.src (sz := 5) rfl)
        have s2 : Still H H2 := (Fr.refl H).then fr2 fun c _ h => by cases h
        rw [List.nil_append] at ho2
        have hv : ∀ c, blockOf v = some c → H.n ≤ c := fun c hc => by
          rcases hb2 with hb | hb
          · rw [hb] at hc; cases hc
          · rw [hb] at hc; cases hc; exact Nat.le_refl _
        obtain ⟨H3, l', s3, o3, hl3, hfol⟩ := l_follow a va H ra.sb.1 hla v hv b.length hlb b.length 0 H2 b rfl (by omega) rfl s2 ho2
        obtain ⟨H', hr⟩ := pr_rest a l' va v H3 (ok.fr s3) (ra.still s3) (Arg.of o3) hla (by omega)
        refine any_of (H1 := H') (d_law_DeltaPairs _ _ _ H ?_)
        rw [s_pM]
        simp (disch := first | with_reducible rfl | assumption | omega | rfl | (simp only [go_sem]; first | done | omega)) only [go_sem, ↓reduceIte, reduceCtorEq, Nat.reduceEqDiff, Nat.reduceAdd, Nat.reduceSub, Nat.reduceMul, Nat.reduceDiv, Nat.reduceMod, Nat.reduceLeDiff, Nat.reduceLT, Nat.reduceBEq, Int.reduceEq, Int.reduceBEq, Int.reduceBNe, Int.reduceLT, Int.reduceLE, Int.reduceAdd, Int.reduceSub, Int.reduceNeg, Int.reduceToNat, Int.reducePow, Nat.reducePow, Int.reduceMul, Int.reduceDiv, ↓pM, enterK_eq hsa, enterK_eq hsb, happ]
        refine (hfol _).trans ?_
        simp (disch := first | with_reducible rfl | assumption | omega | rfl | (simp only [go_sem]; first | done | omega)) only [go_sem, ↓reduceIte, reduceCtorEq, Nat.reduceEqDiff, Nat.reduceAdd, Nat.reduceSub, Nat.reduceMul, Nat.reduceDiv, Nat.reduceMod, Nat.reduceLeDiff, Nat.reduceLT, Nat.reduceBEq, Int.reduceEq, Int.reduceBEq, Int.reduceBNe, Int.reduceLT, Int.reduceLE, Int.reduceAdd, Int.reduceSub, Int.reduceNeg, Int.reduceToNat, Int.reducePow, Nat.reducePow, Int.reduceMul, Int.reduceDiv]
        exact hr

theorem run_DeltaPairs (W : World) (va : Value) (a : List Cg) (ha : Rd ECg (absHeap W) va a) (_ : ∀ x, x ∈ a → True) (_ : a.length ≤ maxLen) (ua : ∃ u, va = convA W.heap.size u) (vb : Value) (b : List Cg) (hb : Rd ECg (absHeap W) vb b) (_ : ∀ x, x ∈ b → True) (_ : b.length ≤ maxLen) (ub : ∃ u, vb = convA W.heap.size u) (follow : Bool) :
    ∃ k H', dCall Try.prog prims1 hints k F.law_DeltaPairs [va, vb, .bool follow] (absHeap W) = some (.bool true, H') := by
  obtain ⟨u, rfl⟩ := ua
  obtain ⟨w, rfl⟩ := ub
  obtain ⟨H', h⟩ := q_DeltaPairs a b _ _ follow (absHeap W) (absHeap_ok W) (arg_conv ha) (arg_conv hb)
  obtain ⟨k, h⟩ := D_run h
  exact ⟨k, _, h⟩

end Go.Proofs.Ytlbieadnfgfhlaa

/-
  The law DeltaPairs: for every input it returns true, and its input reads as it did.
  Conditions: none. By an AI agent.
-/
namespace Go.Proofs.Ytlbieadnfgfhlaa.deltaPairs
open Go.ChangeShapes Go.WideShapes Go.ChangeAt Go.RowKit
open Go.ChangeMaps (open_string shut_string)
set_option linter.unusedVariables false
theorem own : ownKnob Try.prog.godebug = none := by kernel_rfl
theorem laidOut : laidOutB Try.prog = true := by kernel_rfl
set_option maxRecDepth 100000 in
theorem lifted (os : Os) (started : os.Started) (H : Type) (enc : TypeId × Value → H) :
    ReturnsInHanded {} Try.checked os 3 .any (Rows.deltaPairsSpec.pre6 enc Try.prog Try.f3 Rows.deltaPairsRow.domain false) (Rows.deltaPairsSpec.post enc Try.prog Try.f3 false true false false) := by
  refine returnsInHanded_of_change_sized (C := Try.checked) own started (by kernel_rfl) Try.func3
    (ChangeSpec.witness6 (enc := enc) (C := Try.checked) false ⟨#[], #[.slice none 0 0, .slice none 0 0, .bool false], []⟩ 8 (by kernel_rfl) (by kernel_rfl) (by kernel_rfl) (by kernel_rfl)) ?_
  intro W base args ds gs before hval0 hW hcnd hsz0 _
  have hsz : (DataW.weightsEach Try.prog (Try.f3.params.toList ++ Rows.deltaPairsSpec.plain.varTypes Try.prog) (ds ++ gs)).all (· ≤ reachBytes) = true := hsz0
  have hval : ∀ (j : Nat) t v, Try.f3.params[j]? = some t → args[j]? = some v → Value.okWide Try.prog W .any base t v := hval0
  have hW' := hW
  obtain ⟨p, q, hA0, hV, rfl, hfz, hnd⟩ := hW
  have hA : DataW.TrodAll enc Try.prog W 0 (fun _ => true) true Try.f3.params.toList args.toList ds p := hA0
  rw [Try.params3] at hA hval hsz
  obtain ⟨v0, vs0, d0, ds0, p0, q0, hargs, rfl, rfl, h0, r0⟩ := trodAll_cons hA
  obtain ⟨v1, vs1, d1, ds1, p1, q1, rfl, rfl, rfl, h1, r1⟩ := trodAll_cons r0
  obtain ⟨v2, vs2, d2, ds2, p2, q2, rfl, rfl, rfl, h2, r2⟩ := trodAll_cons r1
  obtain ⟨rfl, rfl, rfl⟩ := trodAll_nil r2
  obtain rfl : args = #[v0, v1, v2] := by cases args; simp_all
  obtain ⟨rfl, rfl⟩ := trodVars_none hV
  have k0 := h0
  have lt0 : ∀ x ∈ p0, x.block < W.heap.size := by obtain ⟨m, hm⟩ := k0; exact DataW.trod_lt m _ _ _ hm
  obtain ⟨l0, rd0, all0, len0⟩ := Eng.open_rd (t := 22) Try.underlying22 (by kernel_rfl) (fun cs n y h hl => decCg h hl) (hval 0 22 v0 rfl rfl) k0
  have k1 := h1
  have lt1 : ∀ x ∈ p1, x.block < W.heap.size := by obtain ⟨m, hm⟩ := k1; exact DataW.trod_lt m _ _ _ hm
  obtain ⟨l1, rd1, all1, len1⟩ := Eng.open_rd (t := 22) Try.underlying22 (by kernel_rfl) (fun cs n y h hl => decCg h hl) (hval 1 22 v1 rfl rfl) k1
  obtain ⟨a2, rfl, rfl, rfl⟩ := open_bool Try.underlying4 (hval 2 4 v2 rfl rfl) h2
  refine (Eng.law_calls (args := #[v0, v1, .bool a2]) prims1_ok mixed (run_DeltaPairs W (Eng.convA W.heap.size v0) l0 rd0 all0 len0 ⟨_, rfl⟩ (Eng.convA W.heap.size v1) l1 rd1 all1 len1 ⟨_, rfl⟩ a2)).mono fun e W' ⟨he, bel⟩ => ?_
  subst he
  exact ⟨_, rfl, _, _, _, [], _, [], hW', trodAll_mk1 (shut_bool Try.underlying4 _), (trodAll_cons_mk (Below.trod laidOut (by kernel_rfl) (of_decide_eq_true (by kernel_rfl)) k0 bel lt0) (trodAll_cons_mk (Below.trod laidOut (by kernel_rfl) (of_decide_eq_true (by kernel_rfl)) k1 bel lt1) (trodAll_cons_mk (shut_bool Try.underlying4 _) trodAll_mk0))), rfl, bel.frame _, fun h => by cases h⟩

theorem over : Rows.deltaPairsRow.holds Try.pinned (OpenSpec.ofChange Rows.deltaPairsSpec) :=
  OpenClaim.holds_of_wide 3 Try.f3 rfl rfl rfl rfl rfl rfl rfl ⟨rfl, rfl, rfl, rfl, rfl⟩ rfl rfl rfl rfl rfl (by kernel_rfl) Try.func3 (by kernel_rfl)
    (of_decide_eq_true (by kernel_rfl)) (by unfold Func.isWrapper; first | (rw [if_pos (by decide +kernel)]; kernel_rfl) | (rw [if_neg (by decide +kernel)]; exact ⟨rfl, rfl⟩))
    (fun os started H enc _ => lifted os started H enc)
theorem proved : Rows.DeltaPairsSaid := over
#print axioms proved
end Go.Proofs.Ytlbieadnfgfhlaa.deltaPairs
namespace Go.Proofs.Ytlbieadnfgfhlaa
/-- The row, under a short name, for the claim. -/
theorem deltaPairs_holds : Rows.DeltaPairsSaid := deltaPairs.proved
end Go.Proofs.Ytlbieadnfgfhlaa
