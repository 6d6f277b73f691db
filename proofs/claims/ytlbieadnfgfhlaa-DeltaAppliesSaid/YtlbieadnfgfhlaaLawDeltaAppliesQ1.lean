/-
  5 texts in one (merge.py): Ct ShDeltaApplies DsDeltaApplies Cu LawDeltaApplies.
  Conditions: none. By an AI agent.
-/
import Derived.Test.YtlbieadnfgfhlaaQb2
import Derived.Test.YtlbieadnfgfhlaaChecked
import Derived.KernelRfl
import Derived.Test.YtlbieadnfgfhlaaRows
import Derived.WalkKit
import Derived.ProofKit
import Derived.OpenShut
import Derived.ShutString
import Derived.ChangeOld
import Derived.Below
import Derived.SizedLaws
import Derived.ChangeArms
import Derived.Carry

/-
  Chapter 49: few changes; a field of a row's element is set; the law's own fits.
  Conditions: none. By an AI agent.
-/
set_option maxRecDepth 10000
set_option linter.unusedSimpArgs false
set_option linter.unusedVariables false
namespace Go.Proofs.Ytlbieadnfgfhlaa
open Go Eng

@[go_sem] theorem tt_bne : (true != true) = false := by rfl
@[go_sem] theorem ff_bne : (false != false) = false := by rfl
@[go_sem] theorem tt_beq : (true == true) = true := by rfl
@[go_sem] theorem ff_beq : (false == false) = true := by rfl

/-! ### A field of a row's element is set -/
theorem cells_setF {α : Type} (E : Enc α) : ∀ (l : List α) (i : Nat) (h : i < l.length) (j : Nat) (_ : j < E.w) (z : Value) (a : α), E.enc a = (E.enc l[i]).set j z → (E.cells l).set (i * E.w + j) z = E.cells (l.set i a)
  | [], _, h, _, _, _, _, _ => by simp at h
  | y :: l, 0, _, j, hj, z, a, ha => by
    rw [List.set_cons_zero, E.cells_cons, E.cells_cons, ha, Nat.zero_mul, Nat.zero_add, List.set_append_left _ _ (by rw [E.len]; exact hj)]
    rfl
  | y :: l, i + 1, h, j, hj, z, a, ha => by
    have hi : i < l.length := by simpa using h
    rw [List.set_cons_succ, E.cells_cons, E.cells_cons, ← cells_setF E l i hi j hj z a (by simpa using ha), List.set_append_right _ _ (by rw [E.len, Nat.add_mul]; omega), E.len]
    rw [show (i + 1) * E.w + j - E.w = i * E.w + j by rw [Nat.add_mul]; omega]
theorem Eng.Own.field {α : Type} {E : Enc α} {H : AHeap} {e : TypeId} {v : Value} {l : List α} (r : Own E H e v l) {i : Nat} (hi : i < l.length) {j : Nat} (hj : j < E.w) {z : Value} (hz : one z = true) {a : α} (ha : E.enc a = (E.enc l[i]).set j z) :
    ∃ b o H', ixS E.w v (.int .i64 (i : Int)) = some (.pointer (some ⟨b, o, none⟩)) ∧ cutB (H.f b) o E.w = some (E.enc l[i]) ∧ setB H b (wr1 (H.f b) (o + j) z) = some H' ∧ Own E H' e v (l.set i a) ∧ Fr (OnlyOf v) H H' := by
  obtain ⟨b', o', hix, _, hc, _⟩ := Rd.ix (Own.rd r) (q := .i64) hi
  rcases r with ⟨h, _⟩ | ⟨h, _⟩ | ⟨b, o, c, xs, rfl, hlc, hb, hf, ho, hx⟩
  · subst h; simp at hi
  · subst h; simp at hi
  · have hix2 : ixS E.w (.slice (some ⟨b, o, none⟩) l.length (2 * c + 1)) (.int .i64 (i : Int)) = some (.pointer (some ⟨b, o + i * E.w, none⟩)) := ixS_nat hi
    rw [hix2] at hix
    cases hix
    have hle : (i + 1) * E.w ≤ l.length * E.w := Nat.mul_le_mul_right _ hi
    have hle2 := Nat.mul_le_mul_right E.w hlc
    rw [Nat.add_mul, Nat.one_mul] at hle
    refine ⟨b', o + i * E.w, H.set b' (.cells (xs.set (o + i * E.w + j) z) e true), hix2, hc, ?_, ?_, Fr.set (Fr.refl H) _ _ fun _ => rfl⟩
    · rw [hf, wr1_c (by omega) hz, setB_s]
    · refine .inr (.inr ⟨b', o, c, _, by simp, by simpa using hlc, by simpa using hb, set_f_eq, by simpa using ho, ?_⟩)
      rw [List.length_set, ← cells_setF E l i hi j hj z a ha, ← hx, List.drop_set, if_neg (by omega), show o + i * E.w + j - o = i * E.w + j by omega, List.take_set]

/-! ### Few changes -/
theorem l_small (l : List Cg) (v : Value) (H : AHeap) (hr : Rd ECg H v l) : ∀ (x : List Cg) (i : Nat), l.drop i = x →
    (∀ K : K, l_law_small_0 v (.int .i64 (i : Int)) H (blkK [0] 0 K) = K .normal [(0, v)] H) ∨ (∀ K : K, l_law_small_0 v (.int .i64 (i : Int)) H (blkK [0] 0 K) = K .ret [(2, .bool false)] H)
  | [], i, hx => by
    have h : l.length ≤ i := List.drop_eq_nil_iff.1 hx
    have hlt : ¬ (i : Int) < (l.length : Int) := by omega
    have hlen := hr.lenS
    refine .inl fun K => ?_
    rw [r_law_small_0]
    simp (disch := first | with_reducible rfl | assumption | omega | rfl | (simp only [go_sem]; first | done | omega)) only [go_sem, ↓reduceIte, reduceCtorEq, Nat.reduceEqDiff, Nat.reduceAdd, Nat.reduceSub, Nat.reduceMul, Nat.reduceDiv, Nat.reduceMod, Nat.reduceLeDiff, Nat.reduceLT, Nat.reduceBEq, Int.reduceEq, Int.reduceBEq, Int.reduceBNe, Int.reduceLT, Int.reduceLE, Int.reduceAdd, Int.reduceSub, Int.reduceNeg, Int.reduceToNat, Int.reducePow, Nat.reducePow, Int.reduceMul, Int.reduceDiv, ↓s_law_small_b0, hlen, hlt]
  | c :: x, i, hx => by
    obtain ⟨h, hxa, hx'⟩ := drop_cons hx
    have hlt : (i : Int) < (l.length : Int) := by omega
    have hlen := hr.lenS
    obtain ⟨b1, o1, hix, hb1, hc1, _⟩ := hr.ix (q := .i64) h
    rw [hxa] at hc1
    have hix : ixS 5 v (.int .i64 i) = some (.pointer (some ⟨b1, o1, none⟩)) := hix
    have hc2 : cellB (H.f b1) o1 = some (.string c.key) := cutB_cell hc1 (i := 0) (by decide)
    have hc3 : cellB (H.f b1) (o1 + 3) = some (.string c.before) := cutB_cell hc1 (i := 3) (by decide)
    have hc4 : cellB (H.f b1) (o1 + 4) = some (.string c.after) := cutB_cell hc1 (i := 4) (by decide)
    by_cases hi : (i : Int) < 21
    · by_cases h1 : 30 < ((bl c.key).length : Int)
      · refine .inr fun K => ?_
        rw [r_law_small_0]
        simp (disch := first | with_reducible rfl | assumption | omega | rfl | (simp only [go_sem]; first | done | omega)) only [go_sem, ↓reduceIte, reduceCtorEq, Nat.reduceEqDiff, Nat.reduceAdd, Nat.reduceSub, Nat.reduceMul, Nat.reduceDiv, Nat.reduceMod, Nat.reduceLeDiff, Nat.reduceLT, Nat.reduceBEq, Int.reduceEq, Int.reduceBEq, Int.reduceBNe, Int.reduceLT, Int.reduceLE, Int.reduceAdd, Int.reduceSub, Int.reduceNeg, Int.reduceToNat, Int.reducePow, Nat.reducePow, Int.reduceMul, Int.reduceDiv, ↓s_law_small_b0, hlen, hlt, hi, hix, hc2, decide_eq_true h1]
      · by_cases h2 : 44 < ((bl c.before).length : Int)
        · refine .inr fun K => ?_
          rw [r_law_small_0]
          simp (disch := first | with_reducible rfl | assumption | omega | rfl | (simp only [go_sem]; first | done | omega)) only [go_sem, ↓reduceIte, reduceCtorEq, Nat.reduceEqDiff, Nat.reduceAdd, Nat.reduceSub, Nat.reduceMul, Nat.reduceDiv, Nat.reduceMod, Nat.reduceLeDiff, Nat.reduceLT, Nat.reduceBEq, Int.reduceEq, Int.reduceBEq, Int.reduceBNe, Int.reduceLT, Int.reduceLE, Int.reduceAdd, Int.reduceSub, Int.reduceNeg, Int.reduceToNat, Int.reducePow, Nat.reducePow, Int.reduceMul, Int.reduceDiv, ↓s_law_small_b0, hlen, hlt, hi, hix, hc2, hc3, decide_eq_false h1, decide_eq_true h2]
        · by_cases h3 : 44 < ((bl c.after).length : Int)
          · refine .inr fun K => ?_
            rw [r_law_small_0]
            simp (disch := first | with_reducible rfl | assumption | omega | rfl | (simp only [go_sem]; first | done | omega)) only [go_sem, ↓reduceIte, reduceCtorEq, Nat.reduceEqDiff, Nat.reduceAdd, Nat.reduceSub, Nat.reduceMul, Nat.reduceDiv, Nat.reduceMod, Nat.reduceLeDiff, Nat.reduceLT, Nat.reduceBEq, Int.reduceEq, Int.reduceBEq, Int.reduceBNe, Int.reduceLT, Int.reduceLE, Int.reduceAdd, Int.reduceSub, Int.reduceNeg, Int.reduceToNat, Int.reducePow, Nat.reducePow, Int.reduceMul, Int.reduceDiv, ↓s_law_small_b0, hlen, hlt, hi, hix, hc2, hc3, hc4, decide_eq_false h1, decide_eq_false h2, decide_eq_true h3]
          · have step : ∀ K : K, l_law_small_0 v (.int .i64 (i : Int)) H (blkK [0] 0 K) = l_law_small_0 v (.int .i64 ((i + 1 : Nat) : Int)) H (blkK [0] 0 K) := fun K => by
              rw [r_law_small_0, Int.natCast_add]
              simp (disch := first | with_reducible rfl | assumption | omega | rfl | (simp only [go_sem]; first | done | omega)) only [go_sem, ↓reduceIte, reduceCtorEq, Nat.reduceEqDiff, Nat.reduceAdd, Nat.reduceSub, Nat.reduceMul, Nat.reduceDiv, Nat.reduceMod, Nat.reduceLeDiff, Nat.reduceLT, Nat.reduceBEq, Int.reduceEq, Int.reduceBEq, Int.reduceBNe, Int.reduceLT, Int.reduceLE, Int.reduceAdd, Int.reduceSub, Int.reduceNeg, Int.reduceToNat, Int.reducePow, Nat.reducePow, Int.reduceMul, Int.reduceDiv, ↓s_law_small_b0, hlen, hlt, hi, hix, hc2, hc3, hc4, decide_eq_false h1, decide_eq_false h2, decide_eq_false h3]
            rcases l_small l v H hr x (i + 1) hx' with ih | ih
            · exact .inl fun K => (step K).trans (ih K)
            · exact .inr fun K => (step K).trans (ih K)
    · refine .inl fun K => ?_
      rw [r_law_small_0]
      simp (disch := first | with_reducible rfl | assumption | omega | rfl | (simp only [go_sem]; first | done | omega)) only [go_sem, ↓reduceIte, reduceCtorEq, Nat.reduceEqDiff, Nat.reduceAdd, Nat.reduceSub, Nat.reduceMul, Nat.reduceDiv, Nat.reduceMod, Nat.reduceLeDiff, Nat.reduceLT, Nat.reduceBEq, Int.reduceEq, Int.reduceBEq, Int.reduceBNe, Int.reduceLT, Int.reduceLE, Int.reduceAdd, Int.reduceSub, Int.reduceNeg, Int.reduceToNat, Int.reducePow, Nat.reducePow, Int.reduceMul, Int.reduceDiv, ↓s_law_small_b0, hlen, hlt, hi]
theorem q_small (l : List Cg) (v : Value) (H : AHeap) (hr : Rd ECg H v l) :
    ∃ b : Bool, CC F.law_small [v] H = some (.bool b, H) ∧ (b = true → l.length ≤ 20) := by
  have hlen := hr.lenS
  rcases l_small l v H hr l 0 rfl with hloop | hloop
  · refine ⟨decide ((l.length : Int) ≤ 20), ?_, fun h => by have := of_decide_eq_true h; omega⟩
    refine pure_of (H' := H) ?_ (d_law_small _ H) rfl (Fr.refl H)
    simp (disch := first | with_reducible rfl | assumption | omega | rfl | (simp only [go_sem]; first | done | omega)) only [go_sem, ↓reduceIte, reduceCtorEq, Nat.reduceEqDiff, Nat.reduceAdd, Nat.reduceSub, Nat.reduceMul, Nat.reduceDiv, Nat.reduceMod, Nat.reduceLeDiff, Nat.reduceLT, Nat.reduceBEq, Int.reduceEq, Int.reduceBEq, Int.reduceBNe, Int.reduceLT, Int.reduceLE, Int.reduceAdd, Int.reduceSub, Int.reduceNeg, Int.reduceToNat, Int.reducePow, Nat.reducePow, Int.reduceMul, Int.reduceDiv, ↓s_law_small]
    refine (hloop _).trans ?_
    simp (disch := first | with_reducible rfl | assumption | omega | rfl | (simp only [go_sem]; first | done | omega)) only [go_sem, ↓reduceIte, reduceCtorEq, Nat.reduceEqDiff, Nat.reduceAdd, Nat.reduceSub, Nat.reduceMul, Nat.reduceDiv, Nat.reduceMod, Nat.reduceLeDiff, Nat.reduceLT, Nat.reduceBEq, Int.reduceEq, Int.reduceBEq, Int.reduceBNe, Int.reduceLT, Int.reduceLE, Int.reduceAdd, Int.reduceSub, Int.reduceNeg, Int.reduceToNat, Int.reducePow, Nat.reducePow, Int.reduceMul, Int.reduceDiv, hlen]
  · refine ⟨false, ?_, fun h => by cases h⟩
    refine pure_of (H' := H) ?_ (d_law_small _ H) rfl (Fr.refl H)
    simp (disch := first | with_reducible rfl | assumption | omega | rfl | (simp only [go_sem]; first | done | omega)) only [go_sem, ↓reduceIte, reduceCtorEq, Nat.reduceEqDiff, Nat.reduceAdd, Nat.reduceSub, Nat.reduceMul, Nat.reduceDiv, Nat.reduceMod, Nat.reduceLeDiff, Nat.reduceLT, Nat.reduceBEq, Int.reduceEq, Int.reduceBEq, Int.reduceBNe, Int.reduceLT, Int.reduceLE, Int.reduceAdd, Int.reduceSub, Int.reduceNeg, Int.reduceToNat, Int.reducePow, Nat.reducePow, Int.reduceMul, Int.reduceDiv, ↓s_law_small]
    exact hloop _

/-! ### The law's own fits -/
theorem l_lfits (l : List Cg) (m : List Pr) (v : Value) (bm : Nat) (H : AHeap) (hr : Rd ECg H v l) (hl : l.length ≤ 1000000) (hb : ∀ c ∈ l, baseC c = true) (r : Mdl H bm m) (f : Fine m) : ∀ (x : List Cg) (i : Nat), l.drop i = x →
    (fitsC m x = true → ∀ K : K, l_law_fits_0 (.pointer (some ⟨bm, 0, none⟩)) v (.int .i64 (i : Int)) H (blkK [] 0 K) = K .normal [] H) ∧ (fitsC m x = false → ∀ K : K, l_law_fits_0 (.pointer (some ⟨bm, 0, none⟩)) v (.int .i64 (i : Int)) H (blkK [] 0 K) = K .ret [(4, .bool false)] H)
  | [], i, hx => by
    have h : l.length ≤ i := List.drop_eq_nil_iff.1 hx
    have hlt : ¬ (i : Int) < (l.length : Int) := by omega
    have hlen := hr.lenS
    refine ⟨fun _ K => ?_, fun h => by cases h⟩
    rw [r_law_fits_0]
    simp (disch := first | with_reducible rfl | assumption | omega | rfl | (simp only [go_sem]; first | done | omega)) only [go_sem, ↓reduceIte, reduceCtorEq, Nat.reduceEqDiff, Nat.reduceAdd, Nat.reduceSub, Nat.reduceMul, Nat.reduceDiv, Nat.reduceMod, Nat.reduceLeDiff, Nat.reduceLT, Nat.reduceBEq, Int.reduceEq, Int.reduceBEq, Int.reduceBNe, Int.reduceLT, Int.reduceLE, Int.reduceAdd, Int.reduceSub, Int.reduceNeg, Int.reduceToNat, Int.reducePow, Nat.reducePow, Int.reduceMul, Int.reduceDiv, ↓s_law_fits_b0, hlen, hlt]
  | c :: x, i, hx => by
    obtain ⟨h, hxa, hx'⟩ := drop_cons hx
    have hlt : (i : Int) < (l.length : Int) := by omega
    have hlen := hr.lenS
    obtain ⟨b1, o1, hix, hb1, hc1, _⟩ := hr.ix (q := .i64) h
    rw [hxa] at hc1
    have hix : ixS 5 v (.int .i64 i) = some (.pointer (some ⟨b1, o1, none⟩)) := hix
    have hc2 : cellB (H.f b1) o1 = some (.string c.key) := cutB_cell hc1 (i := 0) (by decide)
    have hc3 : cellB (H.f b1) (o1 + 1) = some (.bool c.was) := cutB_cell hc1 (i := 1) (by decide)
    have hc4 : cellB (H.f b1) (o1 + 3) = some (.string c.before) := cutB_cell hc1 (i := 3) (by decide)
    have hkc : chk c.key [] = 0 := base_key (hb c (by rw [← hxa]; exact List.getElem_mem h))
    have hg := q_getM bm m c.key H r f.srt f.len
    obtain ⟨s, e, g1, g2, g3⟩ := getE_is f.srt hkc
    rw [g1] at hg
    have hf : fitsC m (c :: x) = (fit1 m c && fitsC m x) := rfl
    have hf1 : fit1 m c = (!(decide (e = 0) != c.was) && decide (bl s = bl c.before)) := by unfold fit1; rw [g3, g2]
    obtain ⟨r1, r2⟩ := l_lfits l m v bm H hr hl hb r f x (i + 1) hx'
    cases hq : (decide (e = 0) != c.was) with
    | true =>
      have hz : fit1 m c = false := by rw [hf1, hq]; rfl
      refine ⟨fun h => by rw [hf, hz] at h; simp at h, fun _ K => ?_⟩
      rw [r_law_fits_0]
      simp (disch := first | with_reducible rfl | assumption | omega | rfl | (simp only [go_sem]; first | done | omega)) only [go_sem, ↓reduceIte, reduceCtorEq, Nat.reduceEqDiff, Nat.reduceAdd, Nat.reduceSub, Nat.reduceMul, Nat.reduceDiv, Nat.reduceMod, Nat.reduceLeDiff, Nat.reduceLT, Nat.reduceBEq, Int.reduceEq, Int.reduceBEq, Int.reduceBNe, Int.reduceLT, Int.reduceLE, Int.reduceAdd, Int.reduceSub, Int.reduceNeg, Int.reduceToNat, Int.reducePow, Nat.reducePow, Int.reduceMul, Int.reduceDiv, ↓s_law_fits_b0, hlen, hlt, hix, hc2, hc3, enterK_eq hg, hq]
    | false =>
      by_cases hbs : bl s = bl c.before
      · have hz : fit1 m c = true := by rw [hf1, hq, decide_eq_true hbs]; rfl
        rw [hf, hz, Bool.true_and]
        have step : ∀ K : K, l_law_fits_0 (.pointer (some ⟨bm, 0, none⟩)) v (.int .i64 (i : Int)) H (blkK [] 0 K) = l_law_fits_0 (.pointer (some ⟨bm, 0, none⟩)) v (.int .i64 ((i + 1 : Nat) : Int)) H (blkK [] 0 K) := fun K => by
          rw [r_law_fits_0, Int.natCast_add]
          simp (disch := first | with_reducible rfl | assumption | omega | rfl | (simp only [go_sem]; first | done | omega)) only [go_sem, ↓reduceIte, reduceCtorEq, Nat.reduceEqDiff, Nat.reduceAdd, Nat.reduceSub, Nat.reduceMul, Nat.reduceDiv, Nat.reduceMod, Nat.reduceLeDiff, Nat.reduceLT, Nat.reduceBEq, Int.reduceEq, Int.reduceBEq, Int.reduceBNe, Int.reduceLT, Int.reduceLE, Int.reduceAdd, Int.reduceSub, Int.reduceNeg, Int.reduceToNat, Int.reducePow, Nat.reducePow, Int.reduceMul, Int.reduceDiv, ↓s_law_fits_b0, hlen, hlt, hix, hc2, hc3, hc4, enterK_eq hg, hq, decide_eq_true hbs]
        exact ⟨fun h K => (step K).trans (r1 h K), fun h K => (step K).trans (r2 h K)⟩
      · have hz : fit1 m c = false := by rw [hf1, hq, decide_eq_false hbs]; rfl
        refine ⟨fun h => by rw [hf, hz] at h; simp at h, fun _ K => ?_⟩
        rw [r_law_fits_0]
        simp (disch := first | with_reducible rfl | assumption | omega | rfl | (simp only [go_sem]; first | done | omega)) only [go_sem, ↓reduceIte, reduceCtorEq, Nat.reduceEqDiff, Nat.reduceAdd, Nat.reduceSub, Nat.reduceMul, Nat.reduceDiv, Nat.reduceMod, Nat.reduceLeDiff, Nat.reduceLT, Nat.reduceBEq, Int.reduceEq, Int.reduceBEq, Int.reduceBNe, Int.reduceLT, Int.reduceLE, Int.reduceAdd, Int.reduceSub, Int.reduceNeg, Int.reduceToNat, Int.reducePow, Nat.reducePow, Int.reduceMul, Int.reduceDiv, ↓s_law_fits_b0, hlen, hlt, hix, hc2, hc3, hc4, enterK_eq hg, hq, decide_eq_false hbs]
theorem q_lfits (l : List Cg) (m : List Pr) (v : Value) (bm : Nat) (H : AHeap) (hr : Rd ECg H v l) (hl : l.length ≤ 1000000) (hb : ∀ c ∈ l, baseC c = true) (r : Mdl H bm m) (f : Fine m) :
    CC F.law_fits [.pointer (some ⟨bm, 0, none⟩), v] H = some (.bool (fitsC m l), H) := by
  obtain ⟨g1, g2⟩ := l_lfits l m v bm H hr hl hb r f l 0 rfl
  refine pure_of (H' := H) ?_ (d_law_fits _ _ H) rfl (Fr.refl H)
  cases h2 : fitsC m l with
  | true =>
    simp (disch := first | with_reducible rfl | assumption | omega | rfl | (simp only [go_sem]; first | done | omega)) only [go_sem, ↓reduceIte, reduceCtorEq, Nat.reduceEqDiff, Nat.reduceAdd, Nat.reduceSub, Nat.reduceMul, Nat.reduceDiv, Nat.reduceMod, Nat.reduceLeDiff, Nat.reduceLT, Nat.reduceBEq, Int.reduceEq, Int.reduceBEq, Int.reduceBNe, Int.reduceLT, Int.reduceLE, Int.reduceAdd, Int.reduceSub, Int.reduceNeg, Int.reduceToNat, Int.reducePow, Nat.reducePow, Int.reduceMul, Int.reduceDiv, ↓s_law_fits]
    refine (g1 h2 _).trans ?_
    simp (disch := first | with_reducible rfl | assumption | omega | rfl | (simp only [go_sem]; first | done | omega)) only [go_sem, ↓reduceIte, reduceCtorEq, Nat.reduceEqDiff, Nat.reduceAdd, Nat.reduceSub, Nat.reduceMul, Nat.reduceDiv, Nat.reduceMod, Nat.reduceLeDiff, Nat.reduceLT, Nat.reduceBEq, Int.reduceEq, Int.reduceBEq, Int.reduceBNe, Int.reduceLT, Int.reduceLE, Int.reduceAdd, Int.reduceSub, Int.reduceNeg, Int.reduceToNat, Int.reducePow, Nat.reducePow, Int.reduceMul, Int.reduceDiv]
  | false =>
    simp (disch := first | with_reducible rfl | assumption | omega | rfl | (simp only [go_sem]; first | done | omega)) only [go_sem, ↓reduceIte, reduceCtorEq, Nat.reduceEqDiff, Nat.reduceAdd, Nat.reduceSub, Nat.reduceMul, Nat.reduceDiv, Nat.reduceMod, Nat.reduceLeDiff, Nat.reduceLT, Nat.reduceBEq, Int.reduceEq, Int.reduceBEq, Int.reduceBNe, Int.reduceLT, Int.reduceLE, Int.reduceAdd, Int.reduceSub, Int.reduceNeg, Int.reduceToNat, Int.reducePow, Nat.reducePow, Int.reduceMul, Int.reduceDiv, ↓s_law_fits]
    refine (g2 h2 _).trans ?_
    simp (disch := first | with_reducible rfl | assumption | omega | rfl | (simp only [go_sem]; first | done | omega)) only [go_sem, ↓reduceIte, reduceCtorEq, Nat.reduceEqDiff, Nat.reduceAdd, Nat.reduceSub, Nat.reduceMul, Nat.reduceDiv, Nat.reduceMod, Nat.reduceLeDiff, Nat.reduceLT, Nat.reduceBEq, Int.reduceEq, Int.reduceBEq, Int.reduceBNe, Int.reduceLT, Int.reduceLE, Int.reduceAdd, Int.reduceSub, Int.reduceNeg, Int.reduceToNat, Int.reducePow, Nat.reducePow, Int.reduceMul, Int.reduceDiv]

/-! ### Changes as elements of an argument -/
theorem dec_bool {W : World} {H : Type} {enc : TypeId × Value → H} {e : TypeId} (he : Try.prog.underlying e = some .bool) {n : Nat} {y : DataW H × List MemPlace} {c : Value} (h : DataW.trod enc Try.prog W 0 (fun _ => true) true n e [c] = some y) :
    ∃ b, c = .bool b := by
  obtain ⟨b, h1, _⟩ := DataW.trod_bool he h
  exact ⟨b, (List.cons.inj h1).1⟩
theorem decCg {W : World} {H : Type} {enc : TypeId × Value → H} {cs : List Value} {n : Nat} {y : DataW H × List MemPlace} (h : DataW.trod enc Try.prog W 0 (fun _ => true) true n T.api_Change cs = some y) (hl : cs.length = ECg.w) :
    ∃ a : Cg, cs = ECg.enc a ∧ True ∧ cs.all plain = true := by
  have ht := Try.underlying26
  obtain ⟨c0, c1, c2, c3, c4, rfl⟩ : ∃ c0 c1 c2 c3 c4, cs = [c0, c1, c2, c3, c4] := by
    match cs, hl with
    | [c0, c1, c2, c3, c4], _ => exact ⟨_, _, _, _, _, rfl⟩
  obtain ⟨m0, z0, h0⟩ := dec_field ht h (i := 0) rfl rfl (by kernel_rfl) rfl
  obtain ⟨m1, z1, h1⟩ := dec_field ht h (i := 1) rfl rfl (by kernel_rfl) rfl
  obtain ⟨m2, z2, h2⟩ := dec_field ht h (i := 2) rfl rfl (by kernel_rfl) rfl
  obtain ⟨m3, z3, h3⟩ := dec_field ht h (i := 3) rfl rfl (by kernel_rfl) rfl
  obtain ⟨m4, z4, h4⟩ := dec_field ht h (i := 4) rfl rfl (by kernel_rfl) rfl
  obtain ⟨s0, rfl, _⟩ := dec_str Try.underlying9 h0
  obtain ⟨s1, rfl⟩ := dec_bool Try.underlying4 h1
  obtain ⟨s2, rfl⟩ := dec_bool Try.underlying4 h2
  obtain ⟨s3, rfl, _⟩ := dec_str Try.underlying9 h3
  obtain ⟨s4, rfl, _⟩ := dec_str Try.underlying9 h4
  exact ⟨⟨s0, s1, s2, s3, s4⟩, rfl, trivial, rfl⟩

end Go.Proofs.Ytlbieadnfgfhlaa

/-
  The seat's functions as terms over the engine's combinators (a program of ours printed it).
  Conditions: none. By an AI agent.
-/
set_option linter.unusedVariables false
namespace Go.Proofs.Ytlbieadnfgfhlaa
open Go Eng

/-! ticketline.ticketlinelaw49.DeltaApplies -/

noncomputable def s_law_DeltaApplies (mg : GT) (mc : CT) (ms : ST) (P : Program) (C : CallF) (L0 : Value → Value → Value → AHeap → K → Res) (L1 : Value → Value → Value → Value → Value → Value → AHeap → K → Res) (a0 : Value) (a1 : Value) (a2 : Value) (H : AHeap) (K0 : K) : Res :=
enterK C F.law_pairs [a0, (.int .i64 20)] H fun t18 h1 =>
bareK (xun P .not t18) h1 fun t19 h2 =>
mg t19 false (fun o1 => o1 a1 h2) h2 fun t21 h3 =>
mg t19 false (fun o2 => enterK C F.law_small [t21] h3 o2) h3 fun t22 h4 =>
mg t19 false (fun o3 => bareK (xun P .not t22) h4 o3) h4 fun t23 h5 =>
pickK t19 (.bool true) t23 fun t24 =>
mc t24 (fun k4 => enterK C F.law_known [] h5 fun t25 h6 =>
k4 .ret [(6, t25)] h6) (fun k4 =>
k4 .normal [(0, a0), (1, a1), (2, a2)] h5) (seqK (fun tT h7 =>
enterK C F.law_filled [(get tT 0)] h7 fun t27 h8 =>
mc (get tT 2) (fun k5 => bothK (app T.api_Change 5 56 (.slice none 0 0) (srcS 5 (get tT 1) h8) h8) fun t30 h9 =>
ms (fun k6 =>
L0 t30 t27 (.int .i64 0) h9 (blkK [1, 7] 0 k6)) (afterK [1, 7] k5)) (fun k5 =>
k5 .normal [(1, (get tT 1)), (7, t27)] h8) (seqK (fun tT_1 h10 =>
enterK C F.delta_Valid [(get tT_1 1)] h10 fun t59 h11 =>
enterK C F.law_valid [(get tT_1 1)] h11 fun t61 h12 =>
bareK (xbin P .neq T.bool (.tmp 59) (.tmp 61) t59 t61) h12 fun t62 h13 =>
mc t62 (fun k7 => k7 .ret [(6, (.bool false))] h13) (fun k7 =>
k7 .normal [(1, (get tT_1 1)), (7, (get tT_1 7))] h13) (seqK (fun tT_2 h14 =>
enterK C F.law_valid [(get tT_2 1)] h14 fun t64 h15 =>
bareK (xun P .not t64) h15 fun t65 h16 =>
mc t65 (fun k8 => enterK C F.delta_Fits [(get tT_2 7), (get tT_2 1)] h16 fun t68 h17 =>
bareK (xun P .not t68) h17 fun t69 h18 =>
mg t69 true (fun o9 => o9 (get tT_2 7) h18) h18 fun t71 h19 =>
mg t69 true (fun o10 => o10 (get tT_2 1) h19) h19 fun t72 h20 =>
mg t69 true (fun o11 => enterK C F.delta_Apply [t71, t72] h20 o11) h20 fun t73 h21 =>
mg t69 true (fun o12 => bareK (xbin P .eql T.api_Errno (.tmp 73) (.const (.int .i64 2)) t73 (.int .i64 2)) h21 o12) h21 fun t74 h22 =>
pickK t69 t74 (.bool false) fun t75 =>
mg t75 true (fun o13 => o13 (get tT_2 1) h22) h22 fun t77 h23 =>
mg t75 true (fun o14 => enterK C F.delta_Apply [(.pointer none), t77] h23 o14) h23 fun t78 h24 =>
mg t75 true (fun o15 => bareK (xbin P .eql T.api_Errno (.tmp 78) (.const (.int .i64 1)) t78 (.int .i64 1)) h24 o15) h24 fun t79 h25 =>
pickK t75 t79 (.bool false) fun t80 =>
mg t80 true (fun o16 => o16 (get tT_2 1) h25) h25 fun t82 h26 =>
mg t80 true (fun o17 => enterK C F.law_reverses [t82, (.slice none 0 0), (.int .i64 2)] h26 o17) h26 fun t83 h27 =>
pickK t80 t83 (.bool false) fun t84 =>
mg t84 true (fun o18 => enterK C F.law_known [] h27 o18) h27 fun t86 h28 =>
pickK t84 t86 (.bool false) fun t87 =>
k8 .ret [(6, t87)] h28) (fun k8 =>
k8 .normal [(1, (get tT_2 1)), (7, (get tT_2 7))] h16) (seqK (fun tT_3 h29 =>
enterK C F.law_fits [(get tT_3 7), (get tT_3 1)] h29 fun t90 h30 =>
enterK C F.model_Model_Copy [(get tT_3 7)] h30 fun t92 h31 =>
ms (fun k19 =>
L1 (get tT_3 1) (get tT_3 7) t90 (.slice none 0 0) t92 (.int .i64 0) h31 (blkK [1, 7, 11, 12, 13] 2 k19)) (seqK (fun tT_4 h32 =>
bareK (xun P .not (get tT_4 11)) h32 fun t132 h33 =>
mc t132 (fun k20 => k20 .normal [(1, (get tT_4 1)), (7, (get tT_4 7)), (11, (get tT_4 11)), (12, (get tT_4 12)), (13, (get tT_4 13)), (16, (.int .i64 10))] h33) (fun k20 =>
k20 .normal [(1, (get tT_4 1)), (7, (get tT_4 7)), (11, (get tT_4 11)), (12, (get tT_4 12)), (13, (get tT_4 13)), (16, (.int .i64 0))] h33) (seqK (fun tT_5 h34 =>
enterK C F.delta_Fits [(get tT_5 7), (get tT_5 1)] h34 fun t135 h35 =>
bareK (xbin P .eql T.bool (.tmp 135) (.tmp 136) t135 (get tT_5 11)) h35 fun t137 h36 =>
mg t137 true (fun o21 => o21 (get tT_5 7) h36) h36 fun t139 h37 =>
mg t137 true (fun o22 => o22 (get tT_5 1) h37) h37 fun t140 h38 =>
mg t137 true (fun o23 => enterK C F.delta_Apply [t139, t140] h38 o23) h38 fun t141 h39 =>
mg t137 true (fun o24 => o24 (get tT_5 16) h39) h39 fun t142 h40 =>
mg t137 true (fun o25 => bareK (xbin P .eql T.int (.tmp 141) (.tmp 142) t141 t142) h40 o25) h40 fun t143 h41 =>
pickK t137 t143 (.bool false) fun t144 =>
mg t144 true (fun o26 => o26 (get tT_5 7) h41) h41 fun t146 h42 =>
mg t144 true (fun o27 => o27 (get tT_5 13) h42) h42 fun t147 h43 =>
mg t144 true (fun o28 => enterK C F.model_Equal [t146, t147] h43 o28) h43 fun t148 h44 =>
pickK t144 t148 (.bool false) fun t149 =>
mg t149 true (fun o29 => o29 (get tT_5 1) h44) h44 fun t151 h45 =>
mg t149 true (fun o30 => enterK C F.delta_Fits [(.pointer none), t151] h45 o30) h45 fun t152 h46 =>
mg t149 true (fun o31 => bareK (xun P .not t152) h46 o31) h46 fun t153 h47 =>
pickK t149 t153 (.bool false) fun t154 =>
mg t154 true (fun o32 => o32 (get tT_5 1) h47) h47 fun t156 h48 =>
mg t154 true (fun o33 => o33 (get tT_5 12) h48) h48 fun t157 h49 =>
mg t154 true (fun o34 => enterK C F.law_reverses [t156, t157, (.int .i64 0)] h49 o34) h49 fun t158 h50 =>
pickK t154 t158 (.bool false) fun t159 =>
mg t159 true (fun o35 => enterK C F.law_known [] h50 o35) h50 fun t161 h51 =>
pickK t159 t161 (.bool false) fun t162 =>
K0 .ret [(6, t162)] h51) K0)) K0)) K0)) K0)) K0)) K0)

noncomputable def s_law_DeltaApplies_b0 (mg : GT) (mc : CT) (ms : ST) (P : Program) (C : CallF) (L0 : Value → Value → Value → AHeap → K → Res) (L1 : Value → Value → Value → Value → Value → Value → AHeap → K → Res) (v1 : Value) (v7 : Value) (v8 : Value) (H : AHeap) (k : K) : Res :=
bareK (lenS v1) H fun t33 h10 =>
bareK (xbin P .lss T.int (.tmp 31) (.tmp 33) v8 t33) h10 fun t34 h11 =>
mc t34 (fun k7 => k7 .normal [(1, v1), (7, v7), (8, v8)] h11) (fun k7 =>
k7 (.exit 0) [(34, t34), (33, t33), (32, v1), (31, v8), (1, v1), (7, v7), (8, v8)] h11) (seqK (fun tT h12 =>
ms (fun k8 =>
bareK (ixS 5 (get tT 1) (get tT 8)) h12 fun t41 h13 =>
bareK (fad 0 t41) h13 fun t42 h14 =>
bareK (ld1 h14 t42) h14 fun t43 h15 =>
enterK C F.model_Model_Get [(get tT 7), t43] h15 fun t44 h16 =>
bareK (xextract t44 0) h16 fun t45 h17 =>
bareK (xextract t44 1) h17 fun t46 h18 =>
bareK (xbin P .eql T.api_Errno (.tmp 51) (.const (.int .i64 0)) t46 (.int .i64 0)) h18 fun t52 h19 =>
bareK (ixS 5 (get tT 1) (get tT 8)) h19 fun t54 h20 =>
bareK (fad 1 t54) h20 fun t55 h21 =>
quietK (st1 h21 t55 t52) fun _ h22 =>
bareK (ixS 5 (get tT 1) (get tT 8)) h22 fun t56 h23 =>
bareK (fad 3 t56) h23 fun t57 h24 =>
quietK (st1 h24 t57 t45) fun _ h25 =>
k8 .normal [(1, (get tT 1)), (7, (get tT 7)), (8, (get tT 8))] h25) (seqK (fun tT_1 h26 =>
bareK (xbin P .add T.int (.tmp 35) (.const (.int .i64 1)) (get tT_1 8) (.int .i64 1)) h26 fun t36 h27 =>
k .normal [(1, (get tT_1 1)), (7, (get tT_1 7)), (8, t36)] h27) (afterK [1, 7, 8] k))) (afterK [1, 7, 8] k))

noncomputable def s_law_DeltaApplies_b1 (mg : GT) (mc : CT) (ms : ST) (P : Program) (C : CallF) (L0 : Value → Value → Value → AHeap → K → Res) (L1 : Value → Value → Value → Value → Value → Value → AHeap → K → Res) (v1 : Value) (v7 : Value) (v11 : Value) (v12 : Value) (v13 : Value) (v14 : Value) (H : AHeap) (k : K) : Res :=
bareK (lenS v1) H fun t95 h32 =>
bareK (xbin P .lss T.int (.tmp 93) (.tmp 95) v14 t95) h32 fun t96 h33 =>
mc t96 (fun k20 => k20 .normal [(1, v1), (7, v7), (11, v11), (12, v12), (13, v13), (14, v14)] h33) (fun k20 =>
k20 (.exit 2) [(96, t96), (95, t95), (94, v1), (93, v14), (1, v1), (7, v7), (11, v11), (12, v12), (13, v13), (14, v14)] h33) (seqK (fun tT h34 =>
ms (fun k21 =>
bareK (ixS 5 (get tT 1) (get tT 14)) h34 fun t101 h35 =>
bareK (ldN 5 h35 t101) h35 fun t102 h36 =>
bothK (newv T.api_Change (.agg #[(.string (mk [])), (.bool false), (.bool false), (.string (mk [])), (.string (mk []))]) h36) fun t15 h37 =>
quietK (stN 5 h37 t15 t102) fun _ h38 =>
bareK (fad 0 t15) h38 fun t104 h39 =>
bareK (ld1 h39 t104) h39 fun t105 h40 =>
bareK (fad 2 t15) h40 fun t106 h41 =>
bareK (ld1 h41 t106) h41 fun t107 h42 =>
bareK (fad 1 t15) h42 fun t108 h43 =>
bareK (ld1 h43 t108) h43 fun t109 h44 =>
bareK (fad 4 t15) h44 fun t110 h45 =>
bareK (ld1 h45 t110) h45 fun t111 h46 =>
bareK (fad 3 t15) h46 fun t112 h47 =>
bareK (ld1 h47 t112) h47 fun t113 h48 =>
bareK (bldS #[(.string (mk [])), (.bool false), (.bool false), (.string (mk [])), (.string (mk []))] [(0, 1), (1, 1), (2, 1), (3, 1), (4, 1)] [(0, t105), (1, t107), (2, t109), (3, t111), (4, t113)]) h48 fun t114 h49 =>
bothK (bldL T.api_Change [(.string (mk [])), (.bool false), (.bool false), (.string (mk [])), (.string (mk []))] 1 [(0, t114)] h49) fun t115 h50 =>
bothK (app T.api_Change 5 56 (get tT 12) (srcS 5 t115 h50) h50) fun t116 h51 =>
bareK (xun P .not (get tT 11)) h51 fun t118 h52 =>
mc t118 (fun k22 => k22 (.exit 3) ((118, t118) :: (117, (get tT 11)) :: (12, t116) :: (116, t116) :: (115, t115) :: (114, t114) :: (113, t113) :: (112, t112) :: (111, t111) :: (110, t110) :: (109, t109) :: (108, t108) :: (107, t107) :: (106, t106) :: (105, t105) :: (104, t104) :: (103, (get tT 12)) :: (15, t15) :: (102, t102) :: (101, t101) :: (100, (get tT 14)) :: (99, (get tT 1)) :: tT) h52) (fun k22 =>
k22 .normal [(1, (get tT 1)), (7, (get tT 7)), (11, (get tT 11)), (12, t116), (13, (get tT 13)), (14, (get tT 14)), (15, t15)] h52) (seqK (fun tT_1 h53 =>
bareK (fad 0 (get tT_1 15)) h53 fun t120 h54 =>
bareK (ld1 h54 t120) h54 fun t121 h55 =>
enterK C F.model_Model_Delete [(get tT_1 13), t121] h55 fun t122 h56 =>
bareK (fad 2 (get tT_1 15)) h56 fun t123 h57 =>
bareK (ld1 h57 t123) h57 fun t124 h58 =>
mc t124 (fun k23 => bareK (fad 0 (get tT_1 15)) h58 fun t126 h59 =>
bareK (ld1 h59 t126) h59 fun t127 h60 =>
bareK (fad 4 (get tT_1 15)) h60 fun t128 h61 =>
bareK (ld1 h61 t128) h61 fun t129 h62 =>
enterK C F.model_Model_Put [(get tT_1 13), t127, t129] h62 fun t130 h63 =>
k23 .normal [(1, (get tT_1 1)), (7, (get tT_1 7)), (11, (get tT_1 11)), (12, (get tT_1 12)), (13, (get tT_1 13)), (14, (get tT_1 14))] h63) (fun k23 =>
k23 .normal [(1, (get tT_1 1)), (7, (get tT_1 7)), (11, (get tT_1 11)), (12, (get tT_1 12)), (13, (get tT_1 13)), (14, (get tT_1 14))] h58) (blkK [1, 7, 11, 12, 13, 14] 3 k21)) (blkK [1, 7, 11, 12, 13, 14] 3 k21))) (seqK (fun tT_2 h64 =>
bareK (xbin P .add T.int (.tmp 97) (.const (.int .i64 1)) (get tT_2 14) (.int .i64 1)) h64 fun t98 h65 =>
k .normal [(1, (get tT_2 1)), (7, (get tT_2 7)), (11, (get tT_2 11)), (12, (get tT_2 12)), (13, (get tT_2 13)), (14, t98)] h65) (afterK [1, 7, 11, 12, 13, 14] k))) (afterK [1, 7, 11, 12, 13, 14] k))

theorem s_law_DeltaApplies_eq (M : CombL) (C : CallF) (LP : LoopH) (a0 : Value) (a1 : Value) (a2 : Value) (H : AHeap) : dBodyL M Try.prog hints C LP F.law_DeltaApplies [a0, a1, a2] H = s_law_DeltaApplies M.b.g M.c M.s Try.prog C (fun v1 v7 v8 H k => loopL M Try.prog hints C LP F.law_DeltaApplies 0 [(1, v1), (7, v7), (8, v8)] H k) (fun v1 v7 v11 v12 v13 v14 H k => loopL M Try.prog hints C LP F.law_DeltaApplies 1 [(1, v1), (7, v7), (11, v11), (12, v12), (13, v13), (14, v14)] H k) a0 a1 a2 H (endK Try.prog [.tmp 6]) := by kernel_rfl

theorem s_law_DeltaApplies_b0_eq (M : CombL) (C : CallF) (LP : LoopH) (v1 : Value) (v7 : Value) (v8 : Value) (H : AHeap) (k : K) : bodyL M Try.prog hints C LP F.law_DeltaApplies 0 [(1, v1), (7, v7), (8, v8)] H (afterK [1, 7, 8] k) = s_law_DeltaApplies_b0 M.b.g M.c M.s Try.prog C (fun v1 v7 v8 H k => loopL M Try.prog hints C LP F.law_DeltaApplies 0 [(1, v1), (7, v7), (8, v8)] H k) (fun v1 v7 v11 v12 v13 v14 H k => loopL M Try.prog hints C LP F.law_DeltaApplies 1 [(1, v1), (7, v7), (11, v11), (12, v12), (13, v13), (14, v14)] H k) v1 v7 v8 H k := by kernel_rfl

theorem s_law_DeltaApplies_b1_eq (M : CombL) (C : CallF) (LP : LoopH) (v1 : Value) (v7 : Value) (v11 : Value) (v12 : Value) (v13 : Value) (v14 : Value) (H : AHeap) (k : K) : bodyL M Try.prog hints C LP F.law_DeltaApplies 1 [(1, v1), (7, v7), (11, v11), (12, v12), (13, v13), (14, v14)] H (afterK [1, 7, 11, 12, 13, 14] k) = s_law_DeltaApplies_b1 M.b.g M.c M.s Try.prog C (fun v1 v7 v8 H k => loopL M Try.prog hints C LP F.law_DeltaApplies 0 [(1, v1), (7, v7), (8, v8)] H k) (fun v1 v7 v11 v12 v13 v14 H k => loopL M Try.prog hints C LP F.law_DeltaApplies 1 [(1, v1), (7, v7), (11, v11), (12, v12), (13, v13), (14, v14)] H k) v1 v7 v11 v12 v13 v14 H k := by kernel_rfl

end Go.Proofs.Ytlbieadnfgfhlaa

/-
  The equations of the seat's functions over calls in the limit (a program of ours printed it).
  Conditions: none. By an AI agent.
-/
set_option linter.unusedVariables false
namespace Go.Proofs.Ytlbieadnfgfhlaa
open Go Eng



noncomputable def l_law_DeltaApplies_0 (v1 : Value) (v7 : Value) (v8 : Value) (H : AHeap) (k : K) : Res := loopL stdL Try.prog hints CC limLP F.law_DeltaApplies 0 [(1, v1), (7, v7), (8, v8)] H k
noncomputable def l_law_DeltaApplies_1 (v1 : Value) (v7 : Value) (v11 : Value) (v12 : Value) (v13 : Value) (v14 : Value) (H : AHeap) (k : K) : Res := loopL stdL Try.prog hints CC limLP F.law_DeltaApplies 1 [(1, v1), (7, v7), (11, v11), (12, v12), (13, v13), (14, v14)] H k
theorem r_law_DeltaApplies_0 (v1 : Value) (v7 : Value) (v8 : Value) (H : AHeap) (k : K) : l_law_DeltaApplies_0 v1 v7 v8 H k = s_law_DeltaApplies_b0 guardK condL shareL Try.prog CC l_law_DeltaApplies_0 l_law_DeltaApplies_1 v1 v7 v8 H (seqK (fun T H => l_law_DeltaApplies_0 (get T 1) (get T 7) (get T 8) H k) k) := ((loopL_next (by kernel_rfl) rfl H k).trans (s_law_DeltaApplies_b0_eq stdL CC limLP v1 v7 v8 H _)).trans (by kernel_rfl)
theorem r_law_DeltaApplies_1 (v1 : Value) (v7 : Value) (v11 : Value) (v12 : Value) (v13 : Value) (v14 : Value) (H : AHeap) (k : K) : l_law_DeltaApplies_1 v1 v7 v11 v12 v13 v14 H k = s_law_DeltaApplies_b1 guardK condL shareL Try.prog CC l_law_DeltaApplies_0 l_law_DeltaApplies_1 v1 v7 v11 v12 v13 v14 H (seqK (fun T H => l_law_DeltaApplies_1 (get T 1) (get T 7) (get T 11) (get T 12) (get T 13) (get T 14) H k) k) := ((loopL_next (by kernel_rfl) rfl H k).trans (s_law_DeltaApplies_b1_eq stdL CC limLP v1 v7 v11 v12 v13 v14 H _)).trans (by kernel_rfl)
theorem d_law_DeltaApplies (a0 : Value) (a1 : Value) (a2 : Value) (H : AHeap) {r : Value × AHeap} (h : s_law_DeltaApplies guardK condL shareL Try.prog CC l_law_DeltaApplies_0 l_law_DeltaApplies_1 a0 a1 a2 H (endK Try.prog [.tmp 6]) = some r) : CC F.law_DeltaApplies [a0, a1, a2] H = some (tidy H r) := D_body (by kernel_rfl) ((s_law_DeltaApplies_eq stdL CC limLP a0 a1 a2 H).trans (Eq.trans (show s_law_DeltaApplies stdL.b.g stdL.c stdL.s Try.prog CC (fun v1 v7 v8 H k => loopL stdL Try.prog hints CC limLP F.law_DeltaApplies 0 [(1, v1), (7, v7), (8, v8)] H k) (fun v1 v7 v11 v12 v13 v14 H k => loopL stdL Try.prog hints CC limLP F.law_DeltaApplies 1 [(1, v1), (7, v7), (11, v11), (12, v12), (13, v13), (14, v14)] H k) a0 a1 a2 H (endK Try.prog [.tmp 6]) = s_law_DeltaApplies guardK condL shareL Try.prog CC l_law_DeltaApplies_0 l_law_DeltaApplies_1 a0 a1 a2 H (endK Try.prog [.tmp 6]) by kernel_rfl) h))

end Go.Proofs.Ytlbieadnfgfhlaa

/-
  Chapter 49: the law DeltaApplies runs to true.
  Conditions: none. By an AI agent.
-/
set_option maxRecDepth 10000
set_option linter.unusedSimpArgs false
set_option linter.unusedVariables false
namespace Go.Proofs.Ytlbieadnfgfhlaa
open Go Eng

/-! ### Changes that begin with what the map has -/
theorem l_real (m : List Pr) (bm : Nat) (Hz : AHeap) (r : Mdl Hz bm m) (f : Fine m) (v : Value) (hv : ∀ c, blockOf v = some c → Hz.n ≤ c) (n : Nat) (hn : n ≤ 20) : ∀ (d i : Nat) (H : AHeap) (l : List Cg), n - i = d → i ≤ n → l.length = n → Still Hz H → Own ECg H T.api_Change v l → ∃ H' l', Still Hz H' ∧ Own ECg H' T.api_Change v l' ∧ l'.length = n ∧
    ∀ K : K, l_law_DeltaApplies_0 v (.pointer (some ⟨bm, 0, none⟩)) (.int .i64 (i : Int)) H (blkK [1, 7] 0 K) = K .normal [(1, v), (7, .pointer (some ⟨bm, 0, none⟩))] H'
  | 0, i, H, l, hd, hi, hl, hs, ho => by
    have hlt : ¬ (i : Int) < (l.length : Int) := by omega
    have hlen := ho.rd.lenS
    refine ⟨H, l, hs, ho, hl, fun K => ?_⟩
    rw [r_law_DeltaApplies_0]
    simp (disch := first | with_reducible rfl | assumption | omega | rfl | (simp only [go_sem]; first | done | omega)) only [go_sem, ↓reduceIte, reduceCtorEq, Nat.reduceEqDiff, Nat.reduceAdd, Nat.reduceSub, Nat.reduceMul, Nat.reduceDiv, Nat.reduceMod, Nat.reduceLeDiff, Nat.reduceLT, Nat.reduceBEq, Int.reduceEq, Int.reduceBEq, Int.reduceBNe, Int.reduceLT, Int.reduceLE, Int.reduceAdd, Int.reduceSub, Int.reduceNeg, Int.reduceToNat, Int.reducePow, Nat.reducePow, Int.reduceMul, Int.reduceDiv, ↓s_law_DeltaApplies_b0, hlen, hlt]
  | d + 1, i, H, l, hd, hi, hl, hs, ho => by
    have hlt : (i : Int) < (l.length : Int) := by omega
    have him : i < l.length := by omega
    have hlen := ho.rd.lenS
    have hg := q_getM bm m l[i].key H (r.still hs) f.srt f.len
    obtain ⟨s, e, hse⟩ := getE_shape m l[i].key
    rw [hse] at hg
    obtain ⟨b, o, H1, hix, hc, hset, o1, fr1⟩ := ho.field him (j := 1) (by decide) (z := .bool (decide (e = 0))) rfl (a := ⟨l[i].key, decide (e = 0), l[i].is, l[i].before, l[i].after⟩) rfl
    have hix : ixS 5 v (.int .i64 (i : Int)) = some (.pointer (some ⟨b, o, none⟩)) := hix
    have hc0 : cellB (H.f b) o = some (.string l[i].key) := cutB_cell hc (i := 0) (by decide)
    obtain ⟨b2, p2, H2, hix2, _, hset2, o2, fr2⟩ := o1.field (i := i) (by simpa using him) (j := 3) (by decide) (z := .string s) rfl (a := ⟨l[i].key, decide (e = 0), l[i].is, s, l[i].after⟩) (by rw [List.getElem_set_self]; rfl)
    have hix2 : ixS 5 v (.int .i64 (i : Int)) = some (.pointer (some ⟨b2, p2, none⟩)) := hix2
    rw [hix] at hix2
    cases hix2
    have s2 : Still Hz H2 := (hs.still.then fr1 fun c hc h => by have := hv c h; omega).still.then fr2 fun c hc h => by have := hv c h; omega
    obtain ⟨H', l', q1, q2, q3, ih⟩ := l_real m bm Hz r f v hv n hn d (i + 1) H2 _ (by omega) (by omega) (by simpa using hl) s2 o2
    refine ⟨H', l', q1, q2, q3, fun K => ?_⟩
    have ih := ih K
    rw [Int.natCast_add] at ih
    rw [r_law_DeltaApplies_0]
    simp (disch := first | with_reducible rfl | assumption | omega | rfl | (simp only [go_sem]; first | done | omega)) only [go_sem, ↓reduceIte, reduceCtorEq, Nat.reduceEqDiff, Nat.reduceAdd, Nat.reduceSub, Nat.reduceMul, Nat.reduceDiv, Nat.reduceMod, Nat.reduceLeDiff, Nat.reduceLT, Nat.reduceBEq, Int.reduceEq, Int.reduceBEq, Int.reduceBNe, Int.reduceLT, Int.reduceLE, Int.reduceAdd, Int.reduceSub, Int.reduceNeg, Int.reduceToNat, Int.reducePow, Nat.reducePow, Int.reduceMul, Int.reduceDiv, ↓s_law_DeltaApplies_b0, hlen, hlt, hix, hc0, enterK_eq hg, hset, hset2]
    exact ih

/-! ### The reverse, and the changes one after the other -/
def seq1 (w : List Pr) (c : Cg) : List Pr := if c.is = true then (putE (delE w c.key) ⟨c.key, c.after⟩).2 else delE w c.key
def seqF (w : List Pr) (l : List Cg) : List Pr := l.foldl seq1 w
theorem Fine.seq1 {w : List Pr} (f : Fine w) (c : Cg) : Fine (seq1 w c) := by
  unfold Go.Proofs.Ytlbieadnfgfhlaa.seq1
  split
  · exact (f.del _).put _
  · exact f.del _
theorem Fine.seq : ∀ {l : List Cg} {w : List Pr}, Fine w → Fine (seqF w l)
  | [], _, f => f
  | c :: l, w, f => Fine.seq (l := l) (f.seq1 c)
theorem seq1_len (w : List Pr) (c : Cg) : (seq1 w c).length ≤ w.length + 1 := by
  have h1 := delE_len w c.key
  have h2 := put_len (delE w c.key) ⟨c.key, c.after⟩
  unfold seq1
  split <;> omega
theorem val_seq1 {w : List Pr} (f : Fine w) {c : Cg} (hb : baseC c = true) (hl : w.length < 20000) (k : ByteArray) : val (seq1 w c) k = if c.key = k then (if c.is = true then some c.after else none) else val w k := by
  have hkc : chk c.key [] = 0 := base_key hb
  have h1 := delE_len w c.key
  unfold seq1
  cases hci : c.is with
  | true =>
    simp only [if_true]
    rw [val_putE (f.del _) (base_two hb).2 (by omega), val_delE f.srt hkc]
    split <;> rfl
  | false =>
    simp only [Bool.false_eq_true, if_false]
    rw [val_delE f.srt hkc]
theorem val_seq : ∀ {l : List Cg} {w : List Pr}, Fine w → SrtC l → (∀ c ∈ l, baseC c = true) → w.length + l.length ≤ 20000 → ∀ k, val (seqF w l) k = match findC l k with | some c => if c.is = true then some c.after else none | none => val w k
  | [], w, f, hs, hb, hl, k => rfl
  | c :: l, w, f, hs, hb, hl, k => by
    obtain ⟨h1, h2⟩ := List.pairwise_cons.1 hs
    simp only [List.length_cons] at hl
    have := seq1_len w c
    show val (seqF (seq1 w c) l) k = _
    rw [val_seq (f.seq1 c) h2 (fun d hd => hb d (List.mem_cons_of_mem _ hd)) (by omega) k, val_seq1 f (hb c (by simp)) (by omega), findC_cons]
    by_cases hk : c.key = k
    · rw [if_pos hk, if_pos hk, findC_none fun d hd e' => by have := h1 d hd; rw [e', hk, cmpS_self] at this; omega]
    · rw [if_neg hk, if_neg hk]
theorem apply_seq {l : List Cg} {m : List Pr} (f : Fine m) (hs : SrtC l) (hb : ∀ c ∈ l, baseC c = true) (hl : m.length + l.length ≤ 20000) : applyF m l = seqF m l :=
  fine_ext f.apply f.seq fun k => by rw [val_apply f hs hb hl, val_seq f hs hb hl]; cases findC l k <;> rfl

/-- A map of the law's own, and a row beside it. -/
structure Bk (Hz H : AHeap) (bw : Nat) (w : List Pr) (o : Value) (acc : List Cg) : Prop where
  t : MdlN Hz H bw w
  own : Own ECg H T.api_Change o acc
  lo : ∀ c, blockOf o = some c → Hz.n ≤ c
  off : ∀ c, blockOf o = some c → ¬ MB H bw c
theorem Bk.still {Hz H H' : AHeap} {bw : Nat} {w : List Pr} {o : Value} {acc : List Cg} (t : Bk Hz H bw w o acc) (s : Still H H') : Bk Hz H' bw w o acc :=
  ⟨t.t.still s, t.own.still s, t.lo, fun c hc h => t.off c hc (MBT_still t.t.m s h)⟩
theorem Bk.row {Hz H H' : AHeap} {bw : Nat} {w : List Pr} {o o' : Value} {acc acc' : List Cg} (t : Bk Hz H bw w o acc) (own' : Own ECg H' T.api_Change o' acc') (fr : Fr (OnlyOf o) H H') (hb : blockOf o' = blockOf o ∨ blockOf o' = some H.n) : Bk Hz H' bw w o' acc' ∧ ∀ c, MB H' bw c → MB H bw c := by
  have nb : ¬ OnlyOf o bw := fun h => t.off bw h (.inl rfl)
  have hbw : bw < H.n := t.t.m.blk (.inl rfl)
  have e : H'.f bw = H.f bw := fr.f hbw nb
  have mb : ∀ c, MB H' bw c → MB H bw c := fun c h => by
    rcases h with h | ⟨u, hu, hc⟩
    · exact .inl h
    · rw [e] at hu; exact .inr ⟨u, hu, hc⟩
  refine ⟨⟨⟨t.t.ok.fr fr, t.t.base.still.then fr fun c hc h => by have := t.lo c h; omega, t.t.m.keep fr nb (fun u hu c hc h => t.off c h (.inr ⟨u, hu, hc⟩)), fun c h => t.t.lo c (mb c h), t.t.fine⟩, own', fun c hc => ?_, fun c hc h => ?_⟩, mb⟩
  · rcases hb with hb | hb
    · rw [hb] at hc; exact t.lo c hc
    · rw [hb] at hc; cases hc; exact t.t.base.n
  · have h := mb c h
    rcases hb with hb | hb
    · rw [hb] at hc; exact t.off c hc h
    · rw [hb] at hc; cases hc; have := t.t.m.blk h; omega
theorem Bk.map {Hz H H' : AHeap} {bw : Nat} {w w' : List Pr} {o : Value} {acc : List Cg} (t : Bk Hz H bw w o acc) (m1 : Mdl H' bw w') (f : Fine w') (u : Up H bw H') : Bk Hz H' bw w' o acc :=
  ⟨t.t.step m1 u f, t.own.keep u.fr (fun c hc h => t.off c hc h), t.lo, fun c hc h => by
    rcases u.mb c h with h | h
    · exact t.off c hc h
    · have := t.own.blk hc; omega⟩

theorem l_back_f (l : List Cg) (v : Value) (bm bw : Nat) (Hz : AHeap) (hr0 : Rd ECg Hz v l) (hl : l.length ≤ 20) : ∀ (x : List Cg) (i : Nat) (H : AHeap) (w : List Pr) (o : Value) (acc : List Cg), l.drop i = x → Bk Hz H bw w o acc → acc.length ≤ i → ∃ H' o', Bk Hz H' bw w o' (acc ++ x.map revC) ∧
    ∀ K : K, l_law_DeltaApplies_1 v (.pointer (some ⟨bm, 0, none⟩)) (.bool false) o (.pointer (some ⟨bw, 0, none⟩)) (.int .i64 (i : Int)) H (blkK [1, 7, 11, 12, 13] 2 K) = K .normal [(1, v), (7, .pointer (some ⟨bm, 0, none⟩)), (11, .bool false), (12, o'), (13, .pointer (some ⟨bw, 0, none⟩))] H'
  | [], i, H, w, o, acc, hx, t, hacc => by
    have h : l.length ≤ i := List.drop_eq_nil_iff.1 hx
    have hlt : ¬ (i : Int) < (l.length : Int) := by omega
    have hlen := hr0.lenS
    refine ⟨H, o, by simpa using t, fun K => ?_⟩
    rw [r_law_DeltaApplies_1]
    simp (disch := first | with_reducible rfl | assumption | omega | rfl | (simp only [go_sem]; first | done | omega)) only [go_sem, ↓reduceIte, reduceCtorEq, Nat.reduceEqDiff, Nat.reduceAdd, Nat.reduceSub, Nat.reduceMul, Nat.reduceDiv, Nat.reduceMod, Nat.reduceLeDiff, Nat.reduceLT, Nat.reduceBEq, Int.reduceEq, Int.reduceBEq, Int.reduceBNe, Int.reduceLT, Int.reduceLE, Int.reduceAdd, Int.reduceSub, Int.reduceNeg, Int.reduceToNat, Int.reducePow, Nat.reducePow, Int.reduceMul, Int.reduceDiv, ↓s_law_DeltaApplies_b1, hlen, hlt]
  | c :: x, i, H, w, o, acc, hx, t, hacc => by
    obtain ⟨h, hxa, hx'⟩ := drop_cons hx
    have hlt : (i : Int) < (l.length : Int) := by omega
    have hlen := hr0.lenS
    obtain ⟨b1, o1, hix, hb1, hc1, _⟩ := (hr0.still t.t.base).ix (q := .i64) h
    rw [hxa] at hc1
    have hix : ixS 5 v (.int .i64 i) = some (.pointer (some ⟨b1, o1, none⟩)) := hix
    obtain ⟨ck, cw, ci, cb, ca⟩ := c
    have hc1 : cutB (H.f b1) o1 5 = some [.string ck, .bool cw, .bool ci, .string cb, .string ca] := hc1
    generalize hH1 : (H.push (.cells [.string (mk []), .bool false, .bool false, .string (mk []), .string (mk [])] T.api_Change true)).set H.n (.cells [.string ck, .bool cw, .bool ci, .string cb, .string ca] T.api_Change true) = H1
    have s1 : Still H H1 := by rw [← hH1]; exact Fr.set ((Fr.refl H).push _) _ _ (fun h => by omega)
    have f1 : H1.f H.n = .cells [.string ck, .bool cw, .bool ci, .string cb, .string ca] T.api_Change true := by rw [← hH1]; exact set_f_eq
    generalize hH2 : H1.push (.cells [.string ck, .bool ci, .bool cw, .string ca, .string cb] T.api_Change true) = H2
    have s2 : Still H1 H2 := by rw [← hH2]; exact (Fr.refl H1).push _
    have hlit := litC (revC ⟨ck, cw, ci, cb, ca⟩) H1
    rw [show H1.push (.cells [.string (revC ⟨ck, cw, ci, cb, ca⟩).key, .bool (revC ⟨ck, cw, ci, cb, ca⟩).was, .bool (revC ⟨ck, cw, ci, cb, ca⟩).is, .string (revC ⟨ck, cw, ci, cb, ca⟩).before, .string (revC ⟨ck, cw, ci, cb, ca⟩).after] T.api_Change true) = H2 from hH2] at hlit
    have t2 := (t.still s1).still s2
    obtain ⟨o', H3, happ, ho2, fr2, hb2⟩ := t2.own.appE (m := [revC ⟨ck, cw, ci, cb, ca⟩]) (sz := 5) (bytes := 56) rfl (by simp; omega) (by simp; omega) (hlit.src (sz := 5) rfl)
    obtain ⟨t3, mb3⟩ := t2.row ho2 fr2 hb2
    obtain ⟨H', o'', q1, ih⟩ := l_back_f l v bm bw Hz hr0 hl x (i + 1) H3 w o' _ hx' t3 (by simp; omega)
    refine ⟨H', o'', by rw [List.map_cons]; simpa using q1, fun K => ?_⟩
    have ih := ih K
    rw [Int.natCast_add] at ih
    rw [r_law_DeltaApplies_1]
    simp (disch := first | with_reducible rfl | assumption | omega | rfl | (simp only [go_sem]; first | done | omega)) only [go_sem, ↓reduceIte, reduceCtorEq, Nat.reduceEqDiff, Nat.reduceAdd, Nat.reduceSub, Nat.reduceMul, Nat.reduceDiv, Nat.reduceMod, Nat.reduceLeDiff, Nat.reduceLT, Nat.reduceBEq, Int.reduceEq, Int.reduceBEq, Int.reduceBNe, Int.reduceLT, Int.reduceLE, Int.reduceAdd, Int.reduceSub, Int.reduceNeg, Int.reduceToNat, Int.reducePow, Nat.reducePow, Int.reduceMul, Int.reduceDiv, ↓s_law_DeltaApplies_b1, hlen, hlt, hix, hc1, hH1, f1, hH2, happ]
    exact ih

theorem l_back_t (l : List Cg) (v : Value) (bm bw : Nat) (Hz : AHeap) (hr0 : Rd ECg Hz v l) (hl : l.length ≤ 20) : ∀ (x : List Cg) (i : Nat) (H : AHeap) (w : List Pr) (o : Value) (acc : List Cg), l.drop i = x → Bk Hz H bw w o acc → acc.length ≤ i → ∃ H' o', Bk Hz H' bw (seqF w x) o' (acc ++ x.map revC) ∧
    ∀ K : K, l_law_DeltaApplies_1 v (.pointer (some ⟨bm, 0, none⟩)) (.bool true) o (.pointer (some ⟨bw, 0, none⟩)) (.int .i64 (i : Int)) H (blkK [1, 7, 11, 12, 13] 2 K) = K .normal [(1, v), (7, .pointer (some ⟨bm, 0, none⟩)), (11, .bool true), (12, o'), (13, .pointer (some ⟨bw, 0, none⟩))] H'
  | [], i, H, w, o, acc, hx, t, hacc => by
    have h : l.length ≤ i := List.drop_eq_nil_iff.1 hx
    have hlt : ¬ (i : Int) < (l.length : Int) := by omega
    have hlen := hr0.lenS
    refine ⟨H, o, by simpa [seqF] using t, fun K => ?_⟩
    rw [r_law_DeltaApplies_1]
    simp (disch := first | with_reducible rfl | assumption | omega | rfl | (simp only [go_sem]; first | done | omega)) only [go_sem, ↓reduceIte, reduceCtorEq, Nat.reduceEqDiff, Nat.reduceAdd, Nat.reduceSub, Nat.reduceMul, Nat.reduceDiv, Nat.reduceMod, Nat.reduceLeDiff, Nat.reduceLT, Nat.reduceBEq, Int.reduceEq, Int.reduceBEq, Int.reduceBNe, Int.reduceLT, Int.reduceLE, Int.reduceAdd, Int.reduceSub, Int.reduceNeg, Int.reduceToNat, Int.reducePow, Nat.reducePow, Int.reduceMul, Int.reduceDiv, ↓s_law_DeltaApplies_b1, hlen, hlt]
  | c :: x, i, H, w, o, acc, hx, t, hacc => by
    obtain ⟨h, hxa, hx'⟩ := drop_cons hx
    have hlt : (i : Int) < (l.length : Int) := by omega
    have hlen := hr0.lenS
    obtain ⟨b1, o1, hix, hb1, hc1, _⟩ := (hr0.still t.t.base).ix (q := .i64) h
    rw [hxa] at hc1
    have hix : ixS 5 v (.int .i64 i) = some (.pointer (some ⟨b1, o1, none⟩)) := hix
    obtain ⟨ck, cw, ci, cb, ca⟩ := c
    have hc1 : cutB (H.f b1) o1 5 = some [.string ck, .bool cw, .bool ci, .string cb, .string ca] := hc1
    generalize hH1 : (H.push (.cells [.string (mk []), .bool false, .bool false, .string (mk []), .string (mk [])] T.api_Change true)).set H.n (.cells [.string ck, .bool cw, .bool ci, .string cb, .string ca] T.api_Change true) = H1
    have s1 : Still H H1 := by rw [← hH1]; exact Fr.set ((Fr.refl H).push _) _ _ (fun h => by omega)
    have n1 : H1.n = H.n + 1 := by rw [← hH1]; rfl
    have f1 : H1.f H.n = .cells [.string ck, .bool cw, .bool ci, .string cb, .string ca] T.api_Change true := by rw [← hH1]; exact set_f_eq
    generalize hH2 : H1.push (.cells [.string ck, .bool ci, .bool cw, .string ca, .string cb] T.api_Change true) = H2
    have s2 : Still H1 H2 := by rw [← hH2]; exact (Fr.refl H1).push _
    have n2 : H2.n = H1.n + 1 := by rw [← hH2]; rfl
    have hlit := litC (revC ⟨ck, cw, ci, cb, ca⟩) H1
    rw [show H1.push (.cells [.string (revC ⟨ck, cw, ci, cb, ca⟩).key, .bool (revC ⟨ck, cw, ci, cb, ca⟩).was, .bool (revC ⟨ck, cw, ci, cb, ca⟩).is, .string (revC ⟨ck, cw, ci, cb, ca⟩).before, .string (revC ⟨ck, cw, ci, cb, ca⟩).after] T.api_Change true) = H2 from hH2] at hlit
    have t2 := (t.still s1).still s2
    have f2 : H2.f H.n = .cells [.string ck, .bool cw, .bool ci, .string cb, .string ca] T.api_Change true := by rw [s2.f (by omega) (fun h => h), f1]
    obtain ⟨o', H3, happ, ho2, fr2, hb2⟩ := t2.own.appE (m := [revC ⟨ck, cw, ci, cb, ca⟩]) (sz := 5) (bytes := 56) rfl (by simp; omega) (by simp; omega) (hlit.src (sz := 5) rfl)
    obtain ⟨t3, mb3⟩ := t2.row ho2 fr2 hb2
    have n3 := fr2.n
    have f3 : H3.f H.n = .cells [.string ck, .bool cw, .bool ci, .string cb, .string ca] T.api_Change true := by rw [fr2.f (by omega) (fun h => by have := t.own.blk h; omega), f2]
    obtain ⟨H4, hdel, m4, u4⟩ := q_delM bw w ck H3 t3.t.ok t3.t.m t3.t.fine.srt t3.t.fine.len
    obtain ⟨s, e, hse⟩ := getE_shape w ck
    rw [hse] at hdel
    have hnm : ¬ MB H3 bw H.n := fun h => by
      have h := MBT_still t.t.m s1 (MBT_still (t.t.m.still s1) s2 (mb3 _ h))
      have := t.t.m.blk h
      omega
    have f4 : H4.f H.n = .cells [.string ck, .bool cw, .bool ci, .string cb, .string ca] T.api_Change true := by rw [u4.fr.f (by omega) hnm, f3]
    have t4 := t3.map m4 (t3.t.fine.del ck) u4
    cases ci with
    | false =>
      obtain ⟨H', o'', q1, ih⟩ := l_back_t l v bm bw Hz hr0 hl x (i + 1) H4 _ o' _ hx' t4 (by simp; omega)
      refine ⟨H', o'', by rw [List.map_cons]; simpa [seqF, seq1] using q1, fun K => ?_⟩
      have ih := ih K
      rw [Int.natCast_add] at ih
      rw [r_law_DeltaApplies_1]
      simp (maxSteps := 2000000) (disch := first | with_reducible rfl | assumption | omega | rfl | (simp only [go_sem]; first | done | omega)) only [go_sem, ↓reduceIte, reduceCtorEq, Nat.reduceEqDiff, Nat.reduceAdd, Nat.reduceSub, Nat.reduceMul, Nat.reduceDiv, Nat.reduceMod, Nat.reduceLeDiff, Nat.reduceLT, Nat.reduceBEq, Int.reduceEq, Int.reduceBEq, Int.reduceBNe, Int.reduceLT, Int.reduceLE, Int.reduceAdd, Int.reduceSub, Int.reduceNeg, Int.reduceToNat, Int.reducePow, Nat.reducePow, Int.reduceMul, Int.reduceDiv, s_law_DeltaApplies_b1, hlen, hlt, hix, hc1, hH1, f1, hH2, happ, f3, enterK_eq hdel, f4]
      exact ih
    | true =>
      obtain ⟨H5, hput, m5, u5⟩ := q_putM bw (delE w ck) ⟨ck, ca⟩ H4 t4.t.ok t4.t.m t4.t.fine.srt t4.t.fine.len
      have t5 := t4.map m5 (t4.t.fine.put _) u5
      obtain ⟨H', o'', q1, ih⟩ := l_back_t l v bm bw Hz hr0 hl x (i + 1) H5 _ o' _ hx' t5 (by simp; omega)
      refine ⟨H', o'', by rw [List.map_cons]; simpa [seqF, seq1] using q1, fun K => ?_⟩
      have ih := ih K
      rw [Int.natCast_add] at ih
      generalize (putE (delE w ck) ⟨ck, ca⟩).1 = e2 at hput
      have hput : CC F.model_Model_Put [.pointer (some ⟨bw, 0, none⟩), .string ck, .string ca] H4 = some (.int .i64 e2, H5) := hput
      rw [r_law_DeltaApplies_1]
      simp (maxSteps := 2000000) (disch := first | with_reducible rfl | assumption | omega | rfl | (simp only [go_sem]; first | done | omega)) only [go_sem, ↓reduceIte, reduceCtorEq, Nat.reduceEqDiff, Nat.reduceAdd, Nat.reduceSub, Nat.reduceMul, Nat.reduceDiv, Nat.reduceMod, Nat.reduceLeDiff, Nat.reduceLT, Nat.reduceBEq, Int.reduceEq, Int.reduceBEq, Int.reduceBNe, Int.reduceLT, Int.reduceLE, Int.reduceAdd, Int.reduceSub, Int.reduceNeg, Int.reduceToNat, Int.reducePow, Nat.reducePow, Int.reduceMul, Int.reduceDiv, s_law_DeltaApplies_b1, hlen, hlt, hix, hc1, hH1, f1, hH2, happ, f3, enterK_eq hdel, f4, enterK_eq hput]
      exact ih

/-! ### The law -/
theorem q_Apply_e (bm : Nat) (m : List Pr) (v : Value) (H : AHeap) (ok : Ok H) (hr : Rd ECg H v []) (r : Mdl H bm m) (f : Fine m) : CC F.delta_Apply [.pointer (some ⟨bm, 0, none⟩), v] H = some (.int .i64 0, H) := by
  have hval : CC F.delta_Valid [v] H = some (.bool true, H) := q_Valid [] v H ok hr (by simp)
  have hfit : CC F.delta_Fits [.pointer (some ⟨bm, 0, none⟩), v] H = some (.bool true, H) := q_Fits [] m v bm H ok hr (by simp) r f
  have hlen : lenS v = some (.int .i64 0) := hr.lenS
  have hlm := q_Len bm m H r
  have hm : ¬ 20000 < (m.length : Int) := by have := f.len; omega
  refine pure_of (H' := H) ?_ (d_delta_Apply _ _ H) rfl (Fr.refl H)
  simp (disch := first | with_reducible rfl | assumption | omega | rfl | (simp only [go_sem]; first | done | omega)) only [go_sem, ↓reduceIte, reduceCtorEq, Nat.reduceEqDiff, Nat.reduceAdd, Nat.reduceSub, Nat.reduceMul, Nat.reduceDiv, Nat.reduceMod, Nat.reduceLeDiff, Nat.reduceLT, Nat.reduceBEq, Int.reduceEq, Int.reduceBEq, Int.reduceBNe, Int.reduceLT, Int.reduceLE, Int.reduceAdd, Int.reduceSub, Int.reduceNeg, Int.reduceToNat, Int.reducePow, Nat.reducePow, Int.reduceMul, Int.reduceDiv, ↓s_delta_Apply, mp_some, enterK_eq hval, enterK_eq hfit, enterK_eq hlm, hlen]
  rw [r_delta_Apply_0]
  simp (disch := first | with_reducible rfl | assumption | omega | rfl | (simp only [go_sem]; first | done | omega)) only [go_sem, ↓reduceIte, reduceCtorEq, Nat.reduceEqDiff, Nat.reduceAdd, Nat.reduceSub, Nat.reduceMul, Nat.reduceDiv, Nat.reduceMod, Nat.reduceLeDiff, Nat.reduceLT, Nat.reduceBEq, Int.reduceEq, Int.reduceBEq, Int.reduceBNe, Int.reduceLT, Int.reduceLE, Int.reduceAdd, Int.reduceSub, Int.reduceNeg, Int.reduceToNat, Int.reducePow, Nat.reducePow, Int.reduceMul, Int.reduceDiv, ↓s_delta_Apply_b0, hlen, decide_eq_false hm]
  rw [r_delta_Apply_1]
  simp (disch := first | with_reducible rfl | assumption | omega | rfl | (simp only [go_sem]; first | done | omega)) only [go_sem, ↓reduceIte, reduceCtorEq, Nat.reduceEqDiff, Nat.reduceAdd, Nat.reduceSub, Nat.reduceMul, Nat.reduceDiv, Nat.reduceMod, Nat.reduceLeDiff, Nat.reduceLT, Nat.reduceBEq, Int.reduceEq, Int.reduceBEq, Int.reduceBNe, Int.reduceLT, Int.reduceLE, Int.reduceAdd, Int.reduceSub, Int.reduceNeg, Int.reduceToNat, Int.reducePow, Nat.reducePow, Int.reduceMul, Int.reduceDiv, ↓s_delta_Apply_b1, hlen]
  rw [r_delta_Apply_2]
  simp (disch := first | with_reducible rfl | assumption | omega | rfl | (simp only [go_sem]; first | done | omega)) only [go_sem, ↓reduceIte, reduceCtorEq, Nat.reduceEqDiff, Nat.reduceAdd, Nat.reduceSub, Nat.reduceMul, Nat.reduceDiv, Nat.reduceMod, Nat.reduceLeDiff, Nat.reduceLT, Nat.reduceBEq, Int.reduceEq, Int.reduceBEq, Int.reduceBNe, Int.reduceLT, Int.reduceLE, Int.reduceAdd, Int.reduceSub, Int.reduceNeg, Int.reduceToNat, Int.reducePow, Nat.reducePow, Int.reduceMul, Int.reduceDiv, ↓s_delta_Apply_b2, hlen]
theorem app_bad (l : List Cg) (v : Value) (bm : Nat) (H : AHeap) (ok : Ok H) (hr : Rd ECg H v l) (hl : l.length ≤ 20) (m : List Pr) (r : Mdl H bm m) (f : Fine m) (hv : validC l = false) :
    CC F.delta_Fits [.pointer (some ⟨bm, 0, none⟩), v] H = some (.bool false, H) ∧ CC F.delta_Apply [.pointer (some ⟨bm, 0, none⟩), v] H = some (.int .i64 2, H) ∧ CC F.delta_Apply [.pointer none, v] H = some (.int .i64 1, H) ∧ CC F.law_reverses [v, .slice none 0 0, .int .i64 2] H = some (.bool true, H) := by
  have hfit := q_Fits l m v bm H ok hr (by omega) r f
  rw [hv] at hfit
  exact ⟨hfit, q_Apply_arg bm l v H ok hr (by omega) hv, q_Apply_nil v H, q_reverses_no v 2 H (q_Reverse_bad l v H ok hr (by omega) hv)⟩

theorem app_good (l : List Cg) (v : Value) (bm : Nat) (Hz : AHeap) (ok : Ok Hz) (hr : Rd ECg Hz v l) (hl : l.length ≤ 20) (m : List Pr) (r : Mdl Hz bm m) (f : Fine m) (hm : m.length ≤ 20) (hoff : ¬ l = [] → ∀ c, blockOf v = some c → c < Hz.n ∧ ¬ MB Hz bm c) (hv : validC l = true) (is : Bool) (his : fitsC m l = is) :
    ∃ bw H1 o' H2 H3, CC F.law_fits [.pointer (some ⟨bm, 0, none⟩), v] Hz = some (.bool is, Hz) ∧ CC F.model_Model_Copy [.pointer (some ⟨bm, 0, none⟩)] Hz = some (.pointer (some ⟨bw, 0, none⟩), H1) ∧
      (∀ K : K, l_law_DeltaApplies_1 v (.pointer (some ⟨bm, 0, none⟩)) (.bool is) (.slice none 0 0) (.pointer (some ⟨bw, 0, none⟩)) (.int .i64 0) H1 (blkK [1, 7, 11, 12, 13] 2 K) = K .normal [(1, v), (7, .pointer (some ⟨bm, 0, none⟩)), (11, .bool is), (12, o'), (13, .pointer (some ⟨bw, 0, none⟩))] H2) ∧
      CC F.delta_Fits [.pointer (some ⟨bm, 0, none⟩), v] H2 = some (.bool is, H2) ∧ CC F.delta_Apply [.pointer (some ⟨bm, 0, none⟩), v] H2 = some (.int .i64 (if is = true then 0 else 10), H3) ∧
      CC F.model_Equal [.pointer (some ⟨bm, 0, none⟩), .pointer (some ⟨bw, 0, none⟩)] H3 = some (.bool true, H3) ∧ CC F.delta_Fits [.pointer none, v] H3 = some (.bool false, H3) ∧ CC F.law_reverses [v, o', .int .i64 0] H3 = some (.bool true, H3) := by
  obtain ⟨hlv, hbs, hsr⟩ := valid_all hv
  have hlf := q_lfits l m v bm Hz hr (by omega) hbs r f
  rw [his] at hlf
  obtain ⟨bw, H1, hcp, m1, s1, hbw, hmb⟩ := q_MCopy bm m Hz r (by omega)
  have t1 : Bk Hz H1 bw m (.slice none 0 0) [] := ⟨⟨ok.fr s1, s1, m1, hmb, f⟩, .inl ⟨rfl, rfl⟩, (fun c hc => by cases hc), fun c hc => by cases hc⟩
  cases is with
  | false =>
    obtain ⟨H2, o', t2, hloop⟩ := l_back_f l v bm bw Hz hr hl l 0 H1 m _ [] rfl t1 (by simp)
    have r2 := r.still t2.t.base
    have hr2 := hr.still t2.t.base
    have ok2 := t2.t.ok
    have hfit := q_Fits l m v bm H2 ok2 hr2 (by omega) r2 f
    rw [hv, his] at hfit
    have hap := q_Apply_fit bm m l v H2 ok2 hr2 r2 f hv his
    have heq := q_Equal bm bw m m H2 r2 t2.t.m (by omega) (by omega)
    rw [decide_eq_true rfl] at heq
    obtain ⟨o2, H3, hrev, ow, s3, _⟩ := q_Reverse l v H2 ok2 hr2 (by omega) hv
    exact ⟨bw, H1, o', H2, H2, hlf, hcp, hloop, hfit, hap, heq, q_Fits_nil v H2, q_reverses v o' o2 _ H2 H3 hrev ow.rd s3 t2.own.rd (by simp; omega)⟩
  | true =>
    obtain ⟨H2, o', t2, hloop⟩ := l_back_t l v bm bw Hz hr hl l 0 H1 m _ [] rfl t1 (by simp)
    have r2 := r.still t2.t.base
    have hr2 := hr.still t2.t.base
    have ok2 := t2.t.ok
    have hfit := q_Fits l m v bm H2 ok2 hr2 (by omega) r2 f
    rw [hv, his] at hfit
    by_cases h0 : l = []
    · subst h0
      have hap := q_Apply_e bm m v H2 ok2 hr2 r2 f
      have heq := q_Equal bm bw m m H2 r2 t2.t.m (by omega) (by omega)
      rw [decide_eq_true rfl] at heq
      obtain ⟨o2, H3, hrev, ow, s3, _⟩ := q_Reverse [] v H2 ok2 hr2 (by simp) hv
      exact ⟨bw, H1, o', H2, H2, hlf, hcp, hloop, hfit, hap, heq, q_Fits_nil v H2, q_reverses v o' o2 _ H2 H3 hrev ow.rd s3 t2.own.rd (by simp)⟩
    have hoff := hoff h0
    have hc := cnt_le l (m.length : Int)
    have mb2 : ∀ c, MB H2 bm c → c < Hz.n := fun c h => r.blk (MBT_still r t2.t.base h)
    have n2 := t2.t.base.n
    have off2 : ∀ c, blockOf v = some c → c < H2.n ∧ ¬ MB H2 bm c := fun c hc => ⟨by have := (hoff c hc).1; omega, fun h => (hoff c hc).2 (MBT_still r t2.t.base h)⟩
    obtain ⟨H3, hap, m3, f3, u3⟩ := q_Apply bm m l v H2 ok2 hr2 off2 r2 f hv his (by omega)
    have hbw2 := t2.t.lo bw (.inl rfl)
    have w3 : Mdl H3 bw (seqF m l) := t2.t.m.keep u3.fr (fun h => by have := mb2 _ h; omega) fun u hu c hc h => by have := mb2 _ h; have := t2.t.lo c (.inr ⟨u, hu, hc⟩); omega
    have o3 : Own ECg H3 T.api_Change o' (l.map revC) := t2.own.keep u3.fr fun c hc h => by have := mb2 _ h; have := t2.lo c hc; omega
    have r3 : Rd ECg H3 v l := hr2.keep u3.fr fun c hc h => (off2 c hc).2 h
    rw [apply_seq f hsr hbs (by omega)] at m3
    have hls := f.seq (l := l)
    have heq := q_Equal bm bw _ _ H3 m3 w3 (by have := hls.len; omega) (by have := hls.len; omega)
    rw [decide_eq_true rfl] at heq
    obtain ⟨o2, H4, hrev, ow, s4, _⟩ := q_Reverse l v H3 (ok2.fr u3.fr) r3 (by omega) hv
    exact ⟨bw, H1, o', H2, H3, hlf, hcp, hloop, hfit, hap, heq, q_Fits_nil v H3, q_reverses v o' o2 _ H3 H4 hrev ow.rd s4 o3.rd (by simp; omega)⟩

theorem small_valid {l : List Cg} (hl : l.length ≤ 20) : validC l = okL none l := by
  unfold validC
  rw [decide_eq_true (by omega), Bool.true_and]

theorem q_App_r (a : List Pr) (l : List Cg) (va vl : Value) (H : AHeap) (ok : Ok H) (ha : Rd EPr H va a) (hl : Rd ECg H vl l) (hla : a.length ≤ 20) (hll : l.length ≤ 20)
    (hpa : CC F.law_pairs [va, .int .i64 20] H = some (.bool true, H)) (hsm : CC F.law_small [vl] H = some (.bool true, H)) : ∃ H', CC F.law_DeltaApplies [va, vl, .bool true] H = some (.bool true, H') := by
  obtain ⟨H1, hf1, t1⟩ := q_filled a va H ok ha (by omega)
  have l1 := fill_len a []
  simp only [List.length_nil, Nat.zero_add] at l1
  generalize fillF [] a = m at *
  have hl1 := hl.still t1.base
  obtain ⟨v, H2, happ, ho2, fr2, hb2⟩ := (show Own ECg H1 T.api_Change (.slice none 0 0) [] from .inl ⟨rfl, rfl⟩).appE (m := l) (sz := 5) (bytes := 56) rfl (by simp; omega) (by simp; omega) (hl1.src (sz := 5) rfl)
  have s2 : Still H1 H2 := (Fr.refl H1).then fr2 fun c _ h => by cases h
  rw [List.nil_append] at ho2
  have hv : ∀ c, blockOf v = some c → H1.n ≤ c := fun c hc => by
    rcases hb2 with hb | hb
    · rw [hb] at hc; cases hc
    · rw [hb] at hc; cases hc; exact Nat.le_refl _
  obtain ⟨H3, l', s3, o3, hl3, hreal⟩ := l_real m H.n H1 t1.m t1.fine v hv l.length hll l.length 0 H2 l rfl (by omega) rfl s2 ho2
  have ok3 := t1.ok.fr s3
  have r3 := t1.m.still s3
  have hval := q_Valid l' v H3 ok3 o3.rd (by omega)
  have hlval := q_lvalid l' v H3 ok3 o3.rd (by omega)
  rw [← small_valid (by omega)] at hlval
  cases hvc : validC l' with
  | false =>
    rw [hvc] at hval hlval
    obtain ⟨e1, e2, e3, e4⟩ := app_bad l' v H.n H3 ok3 o3.rd (by omega) m r3 t1.fine hvc
    refine any_of (H1 := H3) (d_law_DeltaApplies _ _ _ H ?_)
    simp (maxSteps := 2000000) (disch := first | with_reducible rfl | assumption | omega | rfl | (simp only [go_sem]; first | done | omega)) only [go_sem, ↓reduceIte, reduceCtorEq, Nat.reduceEqDiff, Nat.reduceAdd, Nat.reduceSub, Nat.reduceMul, Nat.reduceDiv, Nat.reduceMod, Nat.reduceLeDiff, Nat.reduceLT, Nat.reduceBEq, Int.reduceEq, Int.reduceBEq, Int.reduceBNe, Int.reduceLT, Int.reduceLE, Int.reduceAdd, Int.reduceSub, Int.reduceNeg, Int.reduceToNat, Int.reducePow, Nat.reducePow, Int.reduceMul, Int.reduceDiv, s_law_DeltaApplies, enterK_eq hpa, enterK_eq hsm, enterK_eq hf1, happ]
    refine (hreal _).trans ?_
    simp (maxSteps := 2000000) (disch := first | with_reducible rfl | assumption | omega | rfl | (simp only [go_sem]; first | done | omega)) only [go_sem, ↓reduceIte, reduceCtorEq, Nat.reduceEqDiff, Nat.reduceAdd, Nat.reduceSub, Nat.reduceMul, Nat.reduceDiv, Nat.reduceMod, Nat.reduceLeDiff, Nat.reduceLT, Nat.reduceBEq, Int.reduceEq, Int.reduceBEq, Int.reduceBNe, Int.reduceLT, Int.reduceLE, Int.reduceAdd, Int.reduceSub, Int.reduceNeg, Int.reduceToNat, Int.reducePow, Nat.reducePow, Int.reduceMul, Int.reduceDiv, enterK_eq hval, enterK_eq hlval, enterK_eq e1, enterK_eq e2, enterK_eq e3, enterK_eq e4]
  | true =>
    rw [hvc] at hval hlval
    have hoff : ¬ l' = [] → ∀ c, blockOf v = some c → c < H3.n ∧ ¬ MB H3 H.n c := fun _ c hc => ⟨o3.blk hc, fun h => by have := hv c hc; have := t1.m.blk (MBT_still t1.m s3 h); omega⟩
    cases his : fitsC m l' with
    | false =>
      obtain ⟨bw, H4, o', H5, H6, e1, e2, e3, e4, e5, e6, e7, e8⟩ := app_good l' v H.n H3 ok3 o3.rd (by omega) m r3 t1.fine (by omega) hoff hvc false his
      have e5 : CC F.delta_Apply [.pointer (some ⟨H.n, 0, none⟩), v] H5 = some (.int .i64 10, H6) := e5
      refine any_of (H1 := H6) (d_law_DeltaApplies _ _ _ H ?_)
      simp (maxSteps := 2000000) (disch := first | with_reducible rfl | assumption | omega | rfl | (simp only [go_sem]; first | done | omega)) only [go_sem, ↓reduceIte, reduceCtorEq, Nat.reduceEqDiff, Nat.reduceAdd, Nat.reduceSub, Nat.reduceMul, Nat.reduceDiv, Nat.reduceMod, Nat.reduceLeDiff, Nat.reduceLT, Nat.reduceBEq, Int.reduceEq, Int.reduceBEq, Int.reduceBNe, Int.reduceLT, Int.reduceLE, Int.reduceAdd, Int.reduceSub, Int.reduceNeg, Int.reduceToNat, Int.reducePow, Nat.reducePow, Int.reduceMul, Int.reduceDiv, s_law_DeltaApplies, enterK_eq hpa, enterK_eq hsm, enterK_eq hf1, happ]
      refine (hreal _).trans ?_
      simp (maxSteps := 2000000) (disch := first | with_reducible rfl | assumption | omega | rfl | (simp only [go_sem]; first | done | omega)) only [go_sem, ↓reduceIte, reduceCtorEq, Nat.reduceEqDiff, Nat.reduceAdd, Nat.reduceSub, Nat.reduceMul, Nat.reduceDiv, Nat.reduceMod, Nat.reduceLeDiff, Nat.reduceLT, Nat.reduceBEq, Int.reduceEq, Int.reduceBEq, Int.reduceBNe, Int.reduceLT, Int.reduceLE, Int.reduceAdd, Int.reduceSub, Int.reduceNeg, Int.reduceToNat, Int.reducePow, Nat.reducePow, Int.reduceMul, Int.reduceDiv, enterK_eq hval, enterK_eq hlval, enterK_eq e1, enterK_eq e2]
      refine (e3 _).trans ?_
      simp (maxSteps := 2000000) (disch := first | with_reducible rfl | assumption | omega | rfl | (simp only [go_sem]; first | done | omega)) only [go_sem, ↓reduceIte, reduceCtorEq, Nat.reduceEqDiff, Nat.reduceAdd, Nat.reduceSub, Nat.reduceMul, Nat.reduceDiv, Nat.reduceMod, Nat.reduceLeDiff, Nat.reduceLT, Nat.reduceBEq, Int.reduceEq, Int.reduceBEq, Int.reduceBNe, Int.reduceLT, Int.reduceLE, Int.reduceAdd, Int.reduceSub, Int.reduceNeg, Int.reduceToNat, Int.reducePow, Nat.reducePow, Int.reduceMul, Int.reduceDiv, enterK_eq e4, enterK_eq e5, enterK_eq e6, enterK_eq e7, enterK_eq e8]
    | true =>
      obtain ⟨bw, H4, o', H5, H6, e1, e2, e3, e4, e5, e6, e7, e8⟩ := app_good l' v H.n H3 ok3 o3.rd (by omega) m r3 t1.fine (by omega) hoff hvc true his
      have e5 : CC F.delta_Apply [.pointer (some ⟨H.n, 0, none⟩), v] H5 = some (.int .i64 0, H6) := e5
      refine any_of (H1 := H6) (d_law_DeltaApplies _ _ _ H ?_)
      simp (maxSteps := 2000000) (disch := first | with_reducible rfl | assumption | omega | rfl | (simp only [go_sem]; first | done | omega)) only [go_sem, ↓reduceIte, reduceCtorEq, Nat.reduceEqDiff, Nat.reduceAdd, Nat.reduceSub, Nat.reduceMul, Nat.reduceDiv, Nat.reduceMod, Nat.reduceLeDiff, Nat.reduceLT, Nat.reduceBEq, Int.reduceEq, Int.reduceBEq, Int.reduceBNe, Int.reduceLT, Int.reduceLE, Int.reduceAdd, Int.reduceSub, Int.reduceNeg, Int.reduceToNat, Int.reducePow, Nat.reducePow, Int.reduceMul, Int.reduceDiv, s_law_DeltaApplies, enterK_eq hpa, enterK_eq hsm, enterK_eq hf1, happ]
      refine (hreal _).trans ?_
      simp (maxSteps := 2000000) (disch := first | with_reducible rfl | assumption | omega | rfl | (simp only [go_sem]; first | done | omega)) only [go_sem, ↓reduceIte, reduceCtorEq, Nat.reduceEqDiff, Nat.reduceAdd, Nat.reduceSub, Nat.reduceMul, Nat.reduceDiv, Nat.reduceMod, Nat.reduceLeDiff, Nat.reduceLT, Nat.reduceBEq, Int.reduceEq, Int.reduceBEq, Int.reduceBNe, Int.reduceLT, Int.reduceLE, Int.reduceAdd, Int.reduceSub, Int.reduceNeg, Int.reduceToNat, Int.reducePow, Nat.reducePow, Int.reduceMul, Int.reduceDiv, enterK_eq hval, enterK_eq hlval, enterK_eq e1, enterK_eq e2]
      refine (e3 _).trans ?_
      simp (maxSteps := 2000000) (disch := first | with_reducible rfl | assumption | omega | rfl | (simp only [go_sem]; first | done | omega)) only [go_sem, ↓reduceIte, reduceCtorEq, Nat.reduceEqDiff, Nat.reduceAdd, Nat.reduceSub, Nat.reduceMul, Nat.reduceDiv, Nat.reduceMod, Nat.reduceLeDiff, Nat.reduceLT, Nat.reduceBEq, Int.reduceEq, Int.reduceBEq, Int.reduceBNe, Int.reduceLT, Int.reduceLE, Int.reduceAdd, Int.reduceSub, Int.reduceNeg, Int.reduceToNat, Int.reducePow, Nat.reducePow, Int.reduceMul, Int.reduceDiv, enterK_eq e4, enterK_eq e5, enterK_eq e6, enterK_eq e7, enterK_eq e8]

theorem q_App_n (a : List Pr) (l : List Cg) (va vl : Value) (H : AHeap) (ok : Ok H) (ha : Rd EPr H va a) (hl : Rd ECg H vl l) (hla : a.length ≤ 20) (hll : l.length ≤ 20)
    (hpa : CC F.law_pairs [va, .int .i64 20] H = some (.bool true, H)) (hsm : CC F.law_small [vl] H = some (.bool true, H)) : ∃ H', CC F.law_DeltaApplies [va, vl, .bool false] H = some (.bool true, H') := by
  obtain ⟨H1, hf1, t1⟩ := q_filled a va H ok ha (by omega)
  have l1 := fill_len a []
  simp only [List.length_nil, Nat.zero_add] at l1
  generalize fillF [] a = m at *
  have hl1 := hl.still t1.base
  have hval := q_Valid l vl H1 t1.ok hl1 (by omega)
  have hlval := q_lvalid l vl H1 t1.ok hl1 (by omega)
  rw [← small_valid (by omega)] at hlval
  cases hvc : validC l with
  | false =>
    rw [hvc] at hval hlval
    obtain ⟨e1, e2, e3, e4⟩ := app_bad l vl H.n H1 t1.ok hl1 (by omega) m t1.m t1.fine hvc
    refine any_of (H1 := H1) (d_law_DeltaApplies _ _ _ H ?_)
    simp (maxSteps := 2000000) (disch := first | with_reducible rfl | assumption | omega | rfl | (simp only [go_sem]; first | done | omega)) only [go_sem, ↓reduceIte, reduceCtorEq, Nat.reduceEqDiff, Nat.reduceAdd, Nat.reduceSub, Nat.reduceMul, Nat.reduceDiv, Nat.reduceMod, Nat.reduceLeDiff, Nat.reduceLT, Nat.reduceBEq, Int.reduceEq, Int.reduceBEq, Int.reduceBNe, Int.reduceLT, Int.reduceLE, Int.reduceAdd, Int.reduceSub, Int.reduceNeg, Int.reduceToNat, Int.reducePow, Nat.reducePow, Int.reduceMul, Int.reduceDiv, s_law_DeltaApplies, enterK_eq hpa, enterK_eq hsm, enterK_eq hf1]
    simp (maxSteps := 2000000) (disch := first | with_reducible rfl | assumption | omega | rfl | (simp only [go_sem]; first | done | omega)) only [go_sem, ↓reduceIte, reduceCtorEq, Nat.reduceEqDiff, Nat.reduceAdd, Nat.reduceSub, Nat.reduceMul, Nat.reduceDiv, Nat.reduceMod, Nat.reduceLeDiff, Nat.reduceLT, Nat.reduceBEq, Int.reduceEq, Int.reduceBEq, Int.reduceBNe, Int.reduceLT, Int.reduceLE, Int.reduceAdd, Int.reduceSub, Int.reduceNeg, Int.reduceToNat, Int.reducePow, Nat.reducePow, Int.reduceMul, Int.reduceDiv, enterK_eq hval, enterK_eq hlval, enterK_eq e1, enterK_eq e2, enterK_eq e3, enterK_eq e4]
  | true =>
    rw [hvc] at hval hlval
    have hoff : ¬ l = [] → ∀ c, blockOf vl = some c → c < H1.n ∧ ¬ MB H1 H.n c := fun h0 c hc => by
      obtain ⟨b, o, k, rfl, hb, _⟩ := hl.elem (List.length_pos_iff.2 h0)
      obtain rfl : b = c := by cases hc; rfl
      have := t1.base.n
      exact ⟨by omega, fun h => by have := t1.lo _ h; omega⟩
    cases his : fitsC m l with
    | false =>
      obtain ⟨bw, H4, o', H5, H6, e1, e2, e3, e4, e5, e6, e7, e8⟩ := app_good l vl H.n H1 t1.ok hl1 (by omega) m t1.m t1.fine (by omega) hoff hvc false his
      have e5 : CC F.delta_Apply [.pointer (some ⟨H.n, 0, none⟩), vl] H5 = some (.int .i64 10, H6) := e5
      refine any_of (H1 := H6) (d_law_DeltaApplies _ _ _ H ?_)
      simp (maxSteps := 2000000) (disch := first | with_reducible rfl | assumption | omega | rfl | (simp only [go_sem]; first | done | omega)) only [go_sem, ↓reduceIte, reduceCtorEq, Nat.reduceEqDiff, Nat.reduceAdd, Nat.reduceSub, Nat.reduceMul, Nat.reduceDiv, Nat.reduceMod, Nat.reduceLeDiff, Nat.reduceLT, Nat.reduceBEq, Int.reduceEq, Int.reduceBEq, Int.reduceBNe, Int.reduceLT, Int.reduceLE, Int.reduceAdd, Int.reduceSub, Int.reduceNeg, Int.reduceToNat, Int.reducePow, Nat.reducePow, Int.reduceMul, Int.reduceDiv, s_law_DeltaApplies, enterK_eq hpa, enterK_eq hsm, enterK_eq hf1]
      simp (maxSteps := 2000000) (disch := first | with_reducible rfl | assumption | omega | rfl | (simp only [go_sem]; first | done | omega)) only [go_sem, ↓reduceIte, reduceCtorEq, Nat.reduceEqDiff, Nat.reduceAdd, Nat.reduceSub, Nat.reduceMul, Nat.reduceDiv, Nat.reduceMod, Nat.reduceLeDiff, Nat.reduceLT, Nat.reduceBEq, Int.reduceEq, Int.reduceBEq, Int.reduceBNe, Int.reduceLT, Int.reduceLE, Int.reduceAdd, Int.reduceSub, Int.reduceNeg, Int.reduceToNat, Int.reducePow, Nat.reducePow, Int.reduceMul, Int.reduceDiv, enterK_eq hval, enterK_eq hlval, enterK_eq e1, enterK_eq e2]
      refine (e3 _).trans ?_
      simp (maxSteps := 2000000) (disch := first | with_reducible rfl | assumption | omega | rfl | (simp only [go_sem]; first | done | omega)) only [go_sem, ↓reduceIte, reduceCtorEq, Nat.reduceEqDiff, Nat.reduceAdd, Nat.reduceSub, Nat.reduceMul, Nat.reduceDiv, Nat.reduceMod, Nat.reduceLeDiff, Nat.reduceLT, Nat.reduceBEq, Int.reduceEq, Int.reduceBEq, Int.reduceBNe, Int.reduceLT, Int.reduceLE, Int.reduceAdd, Int.reduceSub, Int.reduceNeg, Int.reduceToNat, Int.reducePow, Nat.reducePow, Int.reduceMul, Int.reduceDiv, enterK_eq e4, enterK_eq e5, enterK_eq e6, enterK_eq e7, enterK_eq e8]
    | true =>
      obtain ⟨bw, H4, o', H5, H6, e1, e2, e3, e4, e5, e6, e7, e8⟩ := app_good l vl H.n H1 t1.ok hl1 (by omega) m t1.m t1.fine (by omega) hoff hvc true his
      have e5 : CC F.delta_Apply [.pointer (some ⟨H.n, 0, none⟩), vl] H5 = some (.int .i64 0, H6) := e5
      refine any_of (H1 := H6) (d_law_DeltaApplies _ _ _ H ?_)
      simp (maxSteps := 2000000) (disch := first | with_reducible rfl | assumption | omega | rfl | (simp only [go_sem]; first | done | omega)) only [go_sem, ↓reduceIte, reduceCtorEq, Nat.reduceEqDiff, Nat.reduceAdd, Nat.reduceSub, Nat.reduceMul, Nat.reduceDiv, Nat.reduceMod, Nat.reduceLeDiff, Nat.reduceLT, Nat.reduceBEq, Int.reduceEq, Int.reduceBEq, Int.reduceBNe, Int.reduceLT, Int.reduceLE, Int.reduceAdd, Int.reduceSub, Int.reduceNeg, Int.reduceToNat, Int.reducePow, Nat.reducePow, Int.reduceMul, Int.reduceDiv, s_law_DeltaApplies, enterK_eq hpa, enterK_eq hsm, enterK_eq hf1]
      simp (maxSteps := 2000000) (disch := first | with_reducible rfl | assumption | omega | rfl | (simp only [go_sem]; first | done | omega)) only [go_sem, ↓reduceIte, reduceCtorEq, Nat.reduceEqDiff, Nat.reduceAdd, Nat.reduceSub, Nat.reduceMul, Nat.reduceDiv, Nat.reduceMod, Nat.reduceLeDiff, Nat.reduceLT, Nat.reduceBEq, Int.reduceEq, Int.reduceBEq, Int.reduceBNe, Int.reduceLT, Int.reduceLE, Int.reduceAdd, Int.reduceSub, Int.reduceNeg, Int.reduceToNat, Int.reducePow, Nat.reducePow, Int.reduceMul, Int.reduceDiv, enterK_eq hval, enterK_eq hlval, enterK_eq e1, enterK_eq e2]
      refine (e3 _).trans ?_
      simp (maxSteps := 2000000) (disch := first | with_reducible rfl | assumption | omega | rfl | (simp only [go_sem]; first | done | omega)) only [go_sem, ↓reduceIte, reduceCtorEq, Nat.reduceEqDiff, Nat.reduceAdd, Nat.reduceSub, Nat.reduceMul, Nat.reduceDiv, Nat.reduceMod, Nat.reduceLeDiff, Nat.reduceLT, Nat.reduceBEq, Int.reduceEq, Int.reduceBEq, Int.reduceBNe, Int.reduceLT, Int.reduceLE, Int.reduceAdd, Int.reduceSub, Int.reduceNeg, Int.reduceToNat, Int.reducePow, Nat.reducePow, Int.reduceMul, Int.reduceDiv, enterK_eq e4, enterK_eq e5, enterK_eq e6, enterK_eq e7, enterK_eq e8]

theorem q_DeltaApplies (a : List Pr) (l : List Cg) (va vl : Value) (real : Bool) (H : AHeap) (ok : Ok H) (ha : Rd EPr H va a) (hl : Rd ECg H vl l) : ∃ H', CC F.law_DeltaApplies [va, vl, .bool real] H = some (.bool true, H') := by
  obtain ⟨x, hpa, hxa⟩ := q_pairsn a va 20 H ha (by omega)
  obtain ⟨y, hsm, hya⟩ := q_small l vl H hl
  have hpa : CC F.law_pairs [va, .int .i64 20] H = some (.bool x, H) := hpa
  cases x with
  | false =>
    refine any_of (H1 := ?_) (d_law_DeltaApplies _ _ _ H ?_)
    rotate_left 1
    · simp (disch := first | with_reducible rfl | assumption | omega | rfl | (simp only [go_sem]; first | done | omega)) only [go_sem, ↓reduceIte, reduceCtorEq, Nat.reduceEqDiff, Nat.reduceAdd, Nat.reduceSub, Nat.reduceMul, Nat.reduceDiv, Nat.reduceMod, Nat.reduceLeDiff, Nat.reduceLT, Nat.reduceBEq, Int.reduceEq, Int.reduceBEq, Int.reduceBNe, Int.reduceLT, Int.reduceLE, Int.reduceAdd, Int.reduceSub, Int.reduceNeg, Int.reduceToNat, Int.reducePow, Nat.reducePow, Int.reduceMul, Int.reduceDiv, ↓s_law_DeltaApplies, enterK_eq hpa]
      rfl
  | true =>
    cases y with
    | false =>
      refine any_of (H1 := ?_) (d_law_DeltaApplies _ _ _ H ?_)
      rotate_left 1
      · simp (disch := first | with_reducible rfl | assumption | omega | rfl | (simp only [go_sem]; first | done | omega)) only [go_sem, ↓reduceIte, reduceCtorEq, Nat.reduceEqDiff, Nat.reduceAdd, Nat.reduceSub, Nat.reduceMul, Nat.reduceDiv, Nat.reduceMod, Nat.reduceLeDiff, Nat.reduceLT, Nat.reduceBEq, Int.reduceEq, Int.reduceBEq, Int.reduceBNe, Int.reduceLT, Int.reduceLE, Int.reduceAdd, Int.reduceSub, Int.reduceNeg, Int.reduceToNat, Int.reducePow, Nat.reducePow, Int.reduceMul, Int.reduceDiv, ↓s_law_DeltaApplies, enterK_eq hpa, enterK_eq hsm]
        rfl
    | true =>
      cases real with
      | true => exact q_App_r a l va vl H ok ha hl (hxa rfl) (hya rfl) hpa hsm
      | false => exact q_App_n a l va vl H ok ha hl (hxa rfl) (hya rfl) hpa hsm

theorem run_DeltaApplies (W : World) (va : Value) (a : List Pr) (ha : Rd EPr (absHeap W) va a) (_ : ∀ x, x ∈ a → True) (_ : a.length ≤ maxLen) (vb : Value) (b : List Cg) (hb : Rd ECg (absHeap W) vb b) (_ : ∀ x, x ∈ b → True) (_ : b.length ≤ maxLen) (real : Bool) :
    ∃ k H', dCall Try.prog prims1 hints k F.law_DeltaApplies [va, vb, .bool real] (absHeap W) = some (.bool true, H') := by
  obtain ⟨H', h⟩ := q_DeltaApplies a b va vb real (absHeap W) (absHeap_ok W) ha hb
  obtain ⟨k, h⟩ := D_run h
  exact ⟨k, _, h⟩

end Go.Proofs.Ytlbieadnfgfhlaa

/-
  The law DeltaApplies: for every input it returns true, and its input reads as it did.
  Conditions: none. By an AI agent.
-/
namespace Go.Proofs.Ytlbieadnfgfhlaa.deltaApplies
open Go.ChangeShapes Go.WideShapes Go.ChangeAt Go.RowKit
open Go.ChangeMaps (open_string shut_string)
set_option linter.unusedVariables false
theorem own : ownKnob Try.prog.godebug = none := by kernel_rfl
theorem laidOut : laidOutB Try.prog = true := by kernel_rfl
set_option maxRecDepth 100000 in
theorem lifted (os : Os) (started : os.Started) (H : Type) (enc : TypeId × Value → H) :
    ReturnsInHanded {} Try.checked os 6 .any (Rows.deltaAppliesSpec.pre6 enc Try.prog Try.f6 Rows.deltaAppliesRow.domain false) (Rows.deltaAppliesSpec.post enc Try.prog Try.f6 false true false false) := by
  refine returnsInHanded_of_change_sized (C := Try.checked) own started (by kernel_rfl) Try.func6
    (ChangeSpec.witness6 (enc := enc) (C := Try.checked) false ⟨#[], #[.slice none 0 0, .slice none 0 0, .bool false], []⟩ 8 (by kernel_rfl) (by kernel_rfl) (by kernel_rfl) (by kernel_rfl)) ?_
  intro W base args ds gs before hval0 hW hcnd hsz0 _
  have hsz : (DataW.weightsEach Try.prog (Try.f6.params.toList ++ Rows.deltaAppliesSpec.plain.varTypes Try.prog) (ds ++ gs)).all (· ≤ reachBytes) = true := hsz0
  have hval : ∀ (j : Nat) t v, Try.f6.params[j]? = some t → args[j]? = some v → Value.okWide Try.prog W .any base t v := hval0
  have hW' := hW
  obtain ⟨p, q, hA0, hV, rfl, hfz, hnd⟩ := hW
  have hA : DataW.TrodAll enc Try.prog W 0 (fun _ => true) true Try.f6.params.toList args.toList ds p := hA0
  rw [Try.params6] at hA hval hsz
  obtain ⟨v0, vs0, d0, ds0, p0, q0, hargs, rfl, rfl, h0, r0⟩ := trodAll_cons hA
  obtain ⟨v1, vs1, d1, ds1, p1, q1, rfl, rfl, rfl, h1, r1⟩ := trodAll_cons r0
  obtain ⟨v2, vs2, d2, ds2, p2, q2, rfl, rfl, rfl, h2, r2⟩ := trodAll_cons r1
  obtain ⟨rfl, rfl, rfl⟩ := trodAll_nil r2
  obtain rfl : args = #[v0, v1, v2] := by cases args; simp_all
  obtain ⟨rfl, rfl⟩ := trodVars_none hV
  have k0 := h0
  have lt0 : ∀ x ∈ p0, x.block < W.heap.size := by obtain ⟨m, hm⟩ := k0; exact DataW.trod_lt m _ _ _ hm
  obtain ⟨l0, rd0, all0, len0⟩ := Eng.open_rd (t := 42) Try.underlying42 (by kernel_rfl) (fun cs n y h hl => decPr h hl) (hval 0 42 v0 rfl rfl) k0
  have k1 := h1
  have lt1 : ∀ x ∈ p1, x.block < W.heap.size := by obtain ⟨m, hm⟩ := k1; exact DataW.trod_lt m _ _ _ hm
  obtain ⟨l1, rd1, all1, len1⟩ := Eng.open_rd (t := 22) Try.underlying22 (by kernel_rfl) (fun cs n y h hl => decCg h hl) (hval 1 22 v1 rfl rfl) k1
  obtain ⟨a2, rfl, rfl, rfl⟩ := open_bool Try.underlying4 (hval 2 4 v2 rfl rfl) h2
  refine (Eng.law_calls (args := #[v0, v1, .bool a2]) prims1_ok mixed (run_DeltaApplies W (Eng.convA W.heap.size v0) l0 rd0 all0 len0 (Eng.convA W.heap.size v1) l1 rd1 all1 len1 a2)).mono fun e W' ⟨he, bel⟩ => ?_
  subst he
  exact ⟨_, rfl, _, _, _, [], _, [], hW', trodAll_mk1 (shut_bool Try.underlying4 _), (trodAll_cons_mk (Below.trod laidOut (by kernel_rfl) (of_decide_eq_true (by kernel_rfl)) k0 bel lt0) (trodAll_cons_mk (Below.trod laidOut (by kernel_rfl) (of_decide_eq_true (by kernel_rfl)) k1 bel lt1) (trodAll_cons_mk (shut_bool Try.underlying4 _) trodAll_mk0))), rfl, bel.frame _, fun h => by cases h⟩

theorem over : Rows.deltaAppliesRow.holds Try.pinned (OpenSpec.ofChange Rows.deltaAppliesSpec) :=
  OpenClaim.holds_of_wide 6 Try.f6 rfl rfl rfl rfl rfl rfl rfl ⟨rfl, rfl, rfl, rfl, rfl⟩ rfl rfl rfl rfl rfl (by kernel_rfl) Try.func6 (by kernel_rfl)
    (of_decide_eq_true (by kernel_rfl)) (by unfold Func.isWrapper; first | (rw [if_pos (by decide +kernel)]; kernel_rfl) | (rw [if_neg (by decide +kernel)]; exact ⟨rfl, rfl⟩))
    (fun os started H enc _ => lifted os started H enc)
theorem proved : Rows.DeltaAppliesSaid := over
#print axioms proved
end Go.Proofs.Ytlbieadnfgfhlaa.deltaApplies
namespace Go.Proofs.Ytlbieadnfgfhlaa
/-- The row, under a short name, for the claim. -/
theorem deltaApplies_holds : Rows.DeltaAppliesSaid := deltaApplies.proved
end Go.Proofs.Ytlbieadnfgfhlaa
