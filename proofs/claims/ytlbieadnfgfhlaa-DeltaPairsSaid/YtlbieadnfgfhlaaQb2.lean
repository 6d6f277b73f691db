/-
  5 texts in one (merge.py): Cl Cm Cn Co Cp.
  Conditions: none. By an AI agent.
-/
import Derived.Test.YtlbieadnfgfhlaaQb1

/-
  Chapter 49: Fits, Reverse, Apply.
  Conditions: none. By an AI agent.
-/
set_option maxRecDepth 10000
set_option linter.unusedSimpArgs false
set_option linter.unusedVariables false
namespace Go.Proofs.Ytlbieadnfgfhlaa
open Go Eng

/-! ### Fits -/
def fit1 (m : List Pr) (c : Cg) : Bool := !((val m c.key).isSome != c.was) && decide (bl ((val m c.key).getD (mk [])) = bl c.before)
def fitsC (m : List Pr) (l : List Cg) : Bool := l.all (fit1 m)
theorem base_key {c : Cg} (h : baseC c = true) : chk c.key [] = 0 := by
  unfold baseC at h
  simp only [Bool.and_eq_true, decide_eq_true_iff] at h
  exact chk_key h.1

theorem l_Fits (l : List Cg) (m : List Pr) (v : Value) (bm : Nat) (Hz : AHeap) (hr0 : Rd ECg Hz v l) (hl : l.length ≤ 1000000) (hb : ∀ c ∈ l, baseC c = true) (r : Mdl Hz bm m) (f : Fine m) : ∀ (x : List Cg) (i : Nat) (H : AHeap), l.drop i = x → Still Hz H → ∃ H', Still Hz H' ∧
    (fitsC m x = true → ∀ K : K, l_delta_Fits_0 (.pointer (some ⟨bm, 0, none⟩)) v (.int .i64 (l.length : Int)) (.int .i64 (i : Int)) H (blkK [] 0 K) = K .normal [] H') ∧ (fitsC m x = false → ∀ K : K, l_delta_Fits_0 (.pointer (some ⟨bm, 0, none⟩)) v (.int .i64 (l.length : Int)) (.int .i64 (i : Int)) H (blkK [] 0 K) = K .ret [(4, .bool false)] H')
  | [], i, H, hx, hs => by
    have h : l.length ≤ i := List.drop_eq_nil_iff.1 hx
    have hlt : ¬ (i : Int) < (l.length : Int) := by omega
    refine ⟨H, hs, fun _ K => ?_, fun h => by cases h⟩
    rw [r_delta_Fits_0]
    simp (disch := first | with_reducible rfl | assumption | omega | rfl | (simp only [go_sem]; first | done | omega)) only [go_sem, ↓reduceIte, reduceCtorEq, Nat.reduceEqDiff, Nat.reduceAdd, Nat.reduceSub, Nat.reduceMul, Nat.reduceDiv, Nat.reduceMod, Nat.reduceLeDiff, Nat.reduceLT, Nat.reduceBEq, Int.reduceEq, Int.reduceBEq, Int.reduceBNe, Int.reduceLT, Int.reduceLE, Int.reduceAdd, Int.reduceSub, Int.reduceNeg, Int.reduceToNat, Int.reducePow, Nat.reducePow, Int.reduceMul, Int.reduceDiv, ↓s_delta_Fits_b0, hlt]
  | c :: x, i, H, hx, hs => by
    obtain ⟨h, hxa, hx'⟩ := drop_cons hx
    have hlt : (i : Int) < (l.length : Int) := by omega
    obtain ⟨b1, o1, hix, hb1, hc1, _⟩ := (hr0.still hs).ix (q := .i64) h
    rw [hxa] at hc1
    have hix : ixS 5 v (.int .i64 i) = some (.pointer (some ⟨b1, o1, none⟩)) := hix
    have hc1 : cutB (H.f b1) o1 5 = some [.string c.key, .bool c.was, .bool c.is, .string c.before, .string c.after] := hc1
    generalize hH1 : (H.push (.cells [.string (mk []), .bool false, .bool false, .string (mk []), .string (mk [])] T.api_Change true)).set H.n (.cells [.string c.key, .bool c.was, .bool c.is, .string c.before, .string c.after] T.api_Change true) = H1
    have s1 : Still H H1 := by rw [← hH1]; exact Fr.set ((Fr.refl H).push _) _ _ (fun h => by omega)
    have f1 : H1.f H.n = .cells [.string c.key, .bool c.was, .bool c.is, .string c.before, .string c.after] T.api_Change true := by rw [← hH1]; exact set_f_eq
    have hs1 : Still Hz H1 := hs.still.then s1 fun _ _ h => h
    have hkc : chk c.key [] = 0 := base_key (hb c (by rw [← hxa]; exact List.getElem_mem h))
    have hg := q_getM bm m c.key H1 (r.still hs1) f.srt f.len
    obtain ⟨s, e, g1, g2, g3⟩ := getE_is f.srt hkc
    rw [g1] at hg
    have hf : fitsC m (c :: x) = (fit1 m c && fitsC m x) := rfl
    have hf1 : fit1 m c = (!(decide (e = 0) != c.was) && decide (bl s = bl c.before)) := by unfold fit1; rw [g3, g2]
    obtain ⟨H', hs', r1, r2⟩ := l_Fits l m v bm Hz hr0 hl hb r f x (i + 1) H1 hx' hs1
    cases hq : (decide (e = 0) != c.was) with
    | true =>
      have hz : fit1 m c = false := by rw [hf1, hq]; rfl
      refine ⟨H1, hs1, fun h => by rw [hf, hz] at h; simp at h, fun _ K => ?_⟩
      rw [r_delta_Fits_0]
      simp (disch := first | with_reducible rfl | assumption | omega | rfl | (simp only [go_sem]; first | done | omega)) only [go_sem, ↓reduceIte, reduceCtorEq, Nat.reduceEqDiff, Nat.reduceAdd, Nat.reduceSub, Nat.reduceMul, Nat.reduceDiv, Nat.reduceMod, Nat.reduceLeDiff, Nat.reduceLT, Nat.reduceBEq, Int.reduceEq, Int.reduceBEq, Int.reduceBNe, Int.reduceLT, Int.reduceLE, Int.reduceAdd, Int.reduceSub, Int.reduceNeg, Int.reduceToNat, Int.reducePow, Nat.reducePow, Int.reduceMul, Int.reduceDiv, ↓s_delta_Fits_b0, hlt, hix, hc1, hH1, f1, enterK_eq hg, hq]
    | false =>
      by_cases hbs : bl s = bl c.before
      · have hz : fit1 m c = true := by rw [hf1, hq, decide_eq_true hbs]; rfl
        rw [hf, hz, Bool.true_and]
        have step : ∀ K : K, l_delta_Fits_0 (.pointer (some ⟨bm, 0, none⟩)) v (.int .i64 (l.length : Int)) (.int .i64 (i : Int)) H (blkK [] 0 K) = l_delta_Fits_0 (.pointer (some ⟨bm, 0, none⟩)) v (.int .i64 (l.length : Int)) (.int .i64 ((i + 1 : Nat) : Int)) H1 (blkK [] 0 K) := fun K => by
          rw [r_delta_Fits_0, Int.natCast_add]
          simp (disch := first | with_reducible rfl | assumption | omega | rfl | (simp only [go_sem]; first | done | omega)) only [go_sem, ↓reduceIte, reduceCtorEq, Nat.reduceEqDiff, Nat.reduceAdd, Nat.reduceSub, Nat.reduceMul, Nat.reduceDiv, Nat.reduceMod, Nat.reduceLeDiff, Nat.reduceLT, Nat.reduceBEq, Int.reduceEq, Int.reduceBEq, Int.reduceBNe, Int.reduceLT, Int.reduceLE, Int.reduceAdd, Int.reduceSub, Int.reduceNeg, Int.reduceToNat, Int.reducePow, Nat.reducePow, Int.reduceMul, Int.reduceDiv, ↓s_delta_Fits_b0, hlt, hix, hc1, hH1, f1, enterK_eq hg, hq, decide_eq_true hbs]
        exact ⟨H', hs', fun h K => (step K).trans (r1 h K), fun h K => (step K).trans (r2 h K)⟩
      · have hz : fit1 m c = false := by rw [hf1, hq, decide_eq_false hbs]; rfl
        refine ⟨H1, hs1, fun h => by rw [hf, hz] at h; simp at h, fun _ K => ?_⟩
        rw [r_delta_Fits_0]
        simp (disch := first | with_reducible rfl | assumption | omega | rfl | (simp only [go_sem]; first | done | omega)) only [go_sem, ↓reduceIte, reduceCtorEq, Nat.reduceEqDiff, Nat.reduceAdd, Nat.reduceSub, Nat.reduceMul, Nat.reduceDiv, Nat.reduceMod, Nat.reduceLeDiff, Nat.reduceLT, Nat.reduceBEq, Int.reduceEq, Int.reduceBEq, Int.reduceBNe, Int.reduceLT, Int.reduceLE, Int.reduceAdd, Int.reduceSub, Int.reduceNeg, Int.reduceToNat, Int.reducePow, Nat.reducePow, Int.reduceMul, Int.reduceDiv, ↓s_delta_Fits_b0, hlt, hix, hc1, hH1, f1, enterK_eq hg, hq, decide_eq_false hbs]
theorem valid_all {l : List Cg} (h : validC l = true) : l.length ≤ 20000 ∧ (∀ c ∈ l, baseC c = true) ∧ SrtC l := by
  unfold validC at h
  rw [Bool.and_eq_true] at h
  obtain ⟨h1, h2, _⟩ := okL_all h.2
  exact ⟨of_decide_eq_true h.1, h1, h2⟩
theorem q_Fits (l : List Cg) (m : List Pr) (v : Value) (bm : Nat) (H : AHeap) (ok : Ok H) (hr : Rd ECg H v l) (hl : l.length ≤ 1000000) (r : Mdl H bm m) (f : Fine m) :
    CC F.delta_Fits [.pointer (some ⟨bm, 0, none⟩), v] H = some (.bool (validC l && fitsC m l), H) := by
  have hv := q_Valid l v H ok hr hl
  have hlen := hr.lenS
  cases hvc : validC l with
  | false =>
    rw [hvc] at hv
    apply pure_of _ (d_delta_Fits _ _ H) rfl
    rotate_left 2
    · simp (disch := first | with_reducible rfl | assumption | omega | rfl | (simp only [go_sem]; first | done | omega)) only [go_sem, ↓reduceIte, reduceCtorEq, Nat.reduceEqDiff, Nat.reduceAdd, Nat.reduceSub, Nat.reduceMul, Nat.reduceDiv, Nat.reduceMod, Nat.reduceLeDiff, Nat.reduceLT, Nat.reduceBEq, Int.reduceEq, Int.reduceBEq, Int.reduceBNe, Int.reduceLT, Int.reduceLE, Int.reduceAdd, Int.reduceSub, Int.reduceNeg, Int.reduceToNat, Int.reducePow, Nat.reducePow, Int.reduceMul, Int.reduceDiv, ↓s_delta_Fits, mp_some, enterK_eq hv]
      rfl
    · (repeat (first | exact Fr.refl _ | refine Fr.push ?_ _ | refine Fr.set ?_ _ _ (by intro h; first | omega | (simp only [go_sem] at h; omega))))
  | true =>
    rw [hvc] at hv
    rw [Bool.true_and]
    obtain ⟨H', hs, g1, g2⟩ := l_Fits l m v bm H hr hl (valid_all hvc).2.1 r f l 0 H rfl (Fr.refl H)
    refine pure_of (H' := H') ?_ (d_delta_Fits _ _ H) rfl hs
    cases h2 : fitsC m l with
    | true =>
      simp (disch := first | with_reducible rfl | assumption | omega | rfl | (simp only [go_sem]; first | done | omega)) only [go_sem, ↓reduceIte, reduceCtorEq, Nat.reduceEqDiff, Nat.reduceAdd, Nat.reduceSub, Nat.reduceMul, Nat.reduceDiv, Nat.reduceMod, Nat.reduceLeDiff, Nat.reduceLT, Nat.reduceBEq, Int.reduceEq, Int.reduceBEq, Int.reduceBNe, Int.reduceLT, Int.reduceLE, Int.reduceAdd, Int.reduceSub, Int.reduceNeg, Int.reduceToNat, Int.reducePow, Nat.reducePow, Int.reduceMul, Int.reduceDiv, ↓s_delta_Fits, mp_some, enterK_eq hv, hlen]
      refine (g1 h2 _).trans ?_
      simp (disch := first | with_reducible rfl | assumption | omega | rfl | (simp only [go_sem]; first | done | omega)) only [go_sem, ↓reduceIte, reduceCtorEq, Nat.reduceEqDiff, Nat.reduceAdd, Nat.reduceSub, Nat.reduceMul, Nat.reduceDiv, Nat.reduceMod, Nat.reduceLeDiff, Nat.reduceLT, Nat.reduceBEq, Int.reduceEq, Int.reduceBEq, Int.reduceBNe, Int.reduceLT, Int.reduceLE, Int.reduceAdd, Int.reduceSub, Int.reduceNeg, Int.reduceToNat, Int.reducePow, Nat.reducePow, Int.reduceMul, Int.reduceDiv]
    | false =>
      simp (disch := first | with_reducible rfl | assumption | omega | rfl | (simp only [go_sem]; first | done | omega)) only [go_sem, ↓reduceIte, reduceCtorEq, Nat.reduceEqDiff, Nat.reduceAdd, Nat.reduceSub, Nat.reduceMul, Nat.reduceDiv, Nat.reduceMod, Nat.reduceLeDiff, Nat.reduceLT, Nat.reduceBEq, Int.reduceEq, Int.reduceBEq, Int.reduceBNe, Int.reduceLT, Int.reduceLE, Int.reduceAdd, Int.reduceSub, Int.reduceNeg, Int.reduceToNat, Int.reducePow, Nat.reducePow, Int.reduceMul, Int.reduceDiv, ↓s_delta_Fits, mp_some, enterK_eq hv, hlen]
      refine (g2 h2 _).trans ?_
      simp (disch := first | with_reducible rfl | assumption | omega | rfl | (simp only [go_sem]; first | done | omega)) only [go_sem, ↓reduceIte, reduceCtorEq, Nat.reduceEqDiff, Nat.reduceAdd, Nat.reduceSub, Nat.reduceMul, Nat.reduceDiv, Nat.reduceMod, Nat.reduceLeDiff, Nat.reduceLT, Nat.reduceBEq, Int.reduceEq, Int.reduceBEq, Int.reduceBNe, Int.reduceLT, Int.reduceLE, Int.reduceAdd, Int.reduceSub, Int.reduceNeg, Int.reduceToNat, Int.reducePow, Nat.reducePow, Int.reduceMul, Int.reduceDiv]
theorem q_Fits_nil (v : Value) (H : AHeap) : CC F.delta_Fits [.pointer none, v] H = some (.bool false, H) := by
  apply pure_of _ (d_delta_Fits _ _ H) rfl
  rotate_left 2
  · simp (disch := first | with_reducible rfl | assumption | omega | rfl | (simp only [go_sem]; first | done | omega)) only [go_sem, ↓reduceIte, reduceCtorEq, Nat.reduceEqDiff, Nat.reduceAdd, Nat.reduceSub, Nat.reduceMul, Nat.reduceDiv, Nat.reduceMod, Nat.reduceLeDiff, Nat.reduceLT, Nat.reduceBEq, Int.reduceEq, Int.reduceBEq, Int.reduceBNe, Int.reduceLT, Int.reduceLE, Int.reduceAdd, Int.reduceSub, Int.reduceNeg, Int.reduceToNat, Int.reducePow, Nat.reducePow, Int.reduceMul, Int.reduceDiv, ↓s_delta_Fits]
    rfl
  · (repeat (first | exact Fr.refl _ | refine Fr.push ?_ _ | refine Fr.set ?_ _ _ (by intro h; first | omega | (simp only [go_sem] at h; omega))))

/-! ### Reverse -/
def revC (c : Cg) : Cg := ⟨c.key, c.is, c.was, c.after, c.before⟩
theorem q_reversed (c : Cg) (H : AHeap) : CC F.delta_reversed [cgV c] H = some (cgV (revC c), H) := by
  generalize hH1 : H.push (.cells [.string c.key, .bool c.was, .bool c.is, .string c.before, .string c.after] T.api_Change true) = H1
  have s1 : Still H H1 := by rw [← hH1]; exact (Fr.refl H).push _
  have n1 : H1.n = H.n + 1 := by rw [← hH1]; rfl
  have f1 : H1.f H.n = .cells [.string c.key, .bool c.was, .bool c.is, .string c.before, .string c.after] T.api_Change true := by rw [← hH1]; exact push_f_eq rfl
  generalize hH2 : H1.push (.cells [.string (mk []), .bool false, .bool false, .string (mk []), .string (mk [])] T.api_Change true) = H2
  have s2 : Still H1 H2 := by rw [← hH2]; exact (Fr.refl H1).push _
  have n2 : H2.n = H1.n + 1 := by rw [← hH2]; rfl
  have f2 : H2.f H1.n = .cells [.string (mk []), .bool false, .bool false, .string (mk []), .string (mk [])] T.api_Change true := by rw [← hH2]; exact push_f_eq rfl
  have f21 : H2.f H.n = .cells [.string c.key, .bool c.was, .bool c.is, .string c.before, .string c.after] T.api_Change true := by rw [s2.f (by omega) (fun h => h), f1]
  generalize hH3 : H2.set H1.n (.cells [.string c.key, .bool c.is, .bool c.was, .string c.after, .string c.before] T.api_Change true) = H3
  have s3 : Still H H3 := by rw [← hH3]; exact Fr.set (s1.still.then s2 fun _ _ h => h) _ _ (fun h => by omega)
  have f3 : H3.f H1.n = .cells [.string c.key, .bool c.is, .bool c.was, .string c.after, .string c.before] T.api_Change true := by rw [← hH3]; exact set_f_eq
  refine pure_of (H' := H3) ?_ (d_delta_reversed _ H) rfl s3
  simp (disch := first | with_reducible rfl | assumption | omega | rfl | (simp only [go_sem]; first | done | omega)) only [go_sem, ↓reduceIte, reduceCtorEq, Nat.reduceEqDiff, Nat.reduceAdd, Nat.reduceSub, Nat.reduceMul, Nat.reduceDiv, Nat.reduceMod, Nat.reduceLeDiff, Nat.reduceLT, Nat.reduceBEq, Int.reduceEq, Int.reduceBEq, Int.reduceBNe, Int.reduceLT, Int.reduceLE, Int.reduceAdd, Int.reduceSub, Int.reduceNeg, Int.reduceToNat, Int.reducePow, Nat.reducePow, Int.reduceMul, Int.reduceDiv, ↓s_delta_reversed, hH1, hH2, f21, f2, hH3, f3]
  rfl
theorem l_Reverse (l : List Cg) (v : Value) (Hz : AHeap) (hr0 : Rd ECg Hz v l) (hl : l.length ≤ 20000) : ∀ (x : List Cg) (i : Nat) (H : AHeap) (o : Value) (acc : List Cg), l.drop i = x → Still Hz H → Own ECg H T.api_Change o acc → (∀ d, blockOf o = some d → Hz.n ≤ d) → i ≤ l.length → acc.length ≤ i → ∃ o' H', Still Hz H' ∧ Own ECg H' T.api_Change o' (acc ++ x.map revC) ∧ (∀ d, blockOf o' = some d → Hz.n ≤ d) ∧ ∀ K : K,
    l_delta_Reverse_0 o v (.int .i64 (l.length : Int)) (.int .i64 (i : Int)) H (blkK [4] 0 K) = K .normal [(4, o')] H'
  | [], i, H, o, acc, hx, hs, ho, hob, hi, hacc => by
    have h : l.length ≤ i := List.drop_eq_nil_iff.1 hx
    have hlt : ¬ (i : Int) < (l.length : Int) := by omega
    refine ⟨o, H, hs, by simpa using ho, hob, fun K => ?_⟩
    rw [r_delta_Reverse_0]
    simp (disch := first | with_reducible rfl | assumption | omega | rfl | (simp only [go_sem]; first | done | omega)) only [go_sem, ↓reduceIte, reduceCtorEq, Nat.reduceEqDiff, Nat.reduceAdd, Nat.reduceSub, Nat.reduceMul, Nat.reduceDiv, Nat.reduceMod, Nat.reduceLeDiff, Nat.reduceLT, Nat.reduceBEq, Int.reduceEq, Int.reduceBEq, Int.reduceBNe, Int.reduceLT, Int.reduceLE, Int.reduceAdd, Int.reduceSub, Int.reduceNeg, Int.reduceToNat, Int.reducePow, Nat.reducePow, Int.reduceMul, Int.reduceDiv, ↓s_delta_Reverse_b0, hlt]
  | c :: x, i, H, o, acc, hx, hs, ho, hob, hi, hacc => by
    obtain ⟨h, hxa, hx'⟩ := drop_cons hx
    have hlt : (i : Int) < (l.length : Int) := by omega
    obtain ⟨b1, o1, hix1, hb1, hc1, _⟩ := (hr0.still hs).ix (q := .i64) h
    rw [hxa] at hc1
    have hix1 : ixS 5 v (.int .i64 i) = some (.pointer (some ⟨b1, o1, none⟩)) := hix1
    have hc1 : cutB (H.f b1) o1 5 = some [.string c.key, .bool c.was, .bool c.is, .string c.before, .string c.after] := hc1
    generalize hH1 : (H.push (.cells [.string (mk []), .bool false, .bool false, .string (mk []), .string (mk [])] T.api_Change true)).set H.n (.cells [.string c.key, .bool c.was, .bool c.is, .string c.before, .string c.after] T.api_Change true) = H1
    have s1 : Still H H1 := by rw [← hH1]; exact Fr.set ((Fr.refl H).push _) _ _ (fun h => by omega)
    have n1 : H1.n = H.n + 1 := by rw [← hH1]; rfl
    have f1 : H1.f H.n = .cells [.string c.key, .bool c.was, .bool c.is, .string c.before, .string c.after] T.api_Change true := by rw [← hH1]; exact set_f_eq
    have hrev := q_reversed c H1
    generalize hH2 : H1.push (.cells [.string c.key, .bool c.is, .bool c.was, .string c.after, .string c.before] T.api_Change true) = H2
    have s2 : Still H1 H2 := by rw [← hH2]; exact (Fr.refl H1).push _
    have n2 : H2.n = H1.n + 1 := by rw [← hH2]; rfl
    have hlit := litC (revC c) H1
    rw [show H1.push (.cells [.string (revC c).key, .bool (revC c).was, .bool (revC c).is, .string (revC c).before, .string (revC c).after] T.api_Change true) = H2 from hH2] at hlit
    have hrev : CC F.delta_reversed [.agg #[.string c.key, .bool c.was, .bool c.is, .string c.before, .string c.after]] H1 = some (.agg #[.string c.key, .bool c.is, .bool c.was, .string c.after, .string c.before], H1) := hrev
    have n0 : Hz.n ≤ H.n := hs.n
    obtain ⟨o', H3, happ, ho2, fr2, hb2⟩ := ((ho.still s1).still s2).appE (m := [revC c]) (sz := 5) (bytes := 56) rfl (by simp; omega) (by simp; omega) (hlit.src (sz := 5) rfl)
    have hob' : ∀ d, blockOf o' = some d → Hz.n ≤ d := fun d hd => by
      rcases hb2 with hb | hb
      · rw [hb] at hd; exact hob d hd
      · rw [hb] at hd; cases hd; omega
    have s3 : Still Hz H3 := ((hs.then s1 fun _ _ h => h).still.then s2 fun _ _ h => h).still.then fr2 fun d hd h => by have := hob d h; omega
    obtain ⟨o'', H', q1, q2, q3, ih⟩ := l_Reverse l v Hz hr0 hl x (i + 1) H3 o' (acc ++ [revC c]) hx' s3 ho2 hob' h (by simp; omega)
    refine ⟨o'', H', q1, by rw [List.map_cons]; simpa using q2, q3, fun K => ?_⟩
    have ih := ih K
    rw [Int.natCast_add] at ih
    rw [r_delta_Reverse_0]
    simp (disch := first | with_reducible rfl | assumption | omega | rfl | (simp only [go_sem]; first | done | omega)) only [go_sem, ↓reduceIte, reduceCtorEq, Nat.reduceEqDiff, Nat.reduceAdd, Nat.reduceSub, Nat.reduceMul, Nat.reduceDiv, Nat.reduceMod, Nat.reduceLeDiff, Nat.reduceLT, Nat.reduceBEq, Int.reduceEq, Int.reduceBEq, Int.reduceBNe, Int.reduceLT, Int.reduceLE, Int.reduceAdd, Int.reduceSub, Int.reduceNeg, Int.reduceToNat, Int.reducePow, Nat.reducePow, Int.reduceMul, Int.reduceDiv, ↓s_delta_Reverse_b0, hlt, hix1, hc1, hH1, f1, enterK_eq hrev, hH2, happ]
    exact ih
theorem q_Reverse (l : List Cg) (v : Value) (H : AHeap) (ok : Ok H) (hr : Rd ECg H v l) (hl : l.length ≤ 1000000) (hv : validC l = true) :
    ∃ o H', CC F.delta_Reverse [v] H = some (.tuple #[o, .int .i64 0], H') ∧ Own ECg H' T.api_Change o (l.map revC) ∧ Still H H' ∧ New H o := by
  have hval := q_Valid l v H ok hr hl
  rw [hv] at hval
  have hlen := hr.lenS
  obtain ⟨o, H2, hs, ho2, hob, hloop⟩ := l_Reverse l v H hr (valid_all hv).1 l 0 H (.slice none 0 0) [] rfl (Fr.refl H) (.inl ⟨rfl, rfl⟩) (fun c h => by cases h) (by omega) (by simp)
  rw [List.nil_append] at ho2
  obtain ⟨H'', hx, r', s'⟩ := any_tidied (P := fun G => Own ECg G T.api_Change o (l.map revC)) (X := .tuple #[o, .int .i64 0]) hs ho2 fun hg => row_two ho2 hg
  refine ⟨o, H'', (d_delta_Reverse _ H (r := (.tuple #[o, .int .i64 0], H2)) ?_).trans (congrArg some hx), r', s', fun d hd => by have := hob d hd; omega⟩
  simp (disch := first | with_reducible rfl | assumption | omega | rfl | (simp only [go_sem]; first | done | omega)) only [go_sem, ↓reduceIte, reduceCtorEq, Nat.reduceEqDiff, Nat.reduceAdd, Nat.reduceSub, Nat.reduceMul, Nat.reduceDiv, Nat.reduceMod, Nat.reduceLeDiff, Nat.reduceLT, Nat.reduceBEq, Int.reduceEq, Int.reduceBEq, Int.reduceBNe, Int.reduceLT, Int.reduceLE, Int.reduceAdd, Int.reduceSub, Int.reduceNeg, Int.reduceToNat, Int.reducePow, Nat.reducePow, Int.reduceMul, Int.reduceDiv, ↓s_delta_Reverse, enterK_eq hval, hlen]
  refine (hloop _).trans ?_
  simp (disch := first | with_reducible rfl | assumption | omega | rfl | (simp only [go_sem]; first | done | omega)) only [go_sem, ↓reduceIte, reduceCtorEq, Nat.reduceEqDiff, Nat.reduceAdd, Nat.reduceSub, Nat.reduceMul, Nat.reduceDiv, Nat.reduceMod, Nat.reduceLeDiff, Nat.reduceLT, Nat.reduceBEq, Int.reduceEq, Int.reduceBEq, Int.reduceBNe, Int.reduceLT, Int.reduceLE, Int.reduceAdd, Int.reduceSub, Int.reduceNeg, Int.reduceToNat, Int.reducePow, Nat.reducePow, Int.reduceMul, Int.reduceDiv]
theorem q_Reverse_bad (l : List Cg) (v : Value) (H : AHeap) (ok : Ok H) (hr : Rd ECg H v l) (hl : l.length ≤ 1000000) (hv : validC l = false) :
    CC F.delta_Reverse [v] H = some (.tuple #[.slice none 0 0, .int .i64 2], H) := by
  have hval := q_Valid l v H ok hr hl
  rw [hv] at hval
  apply pure_of _ (d_delta_Reverse _ H) rfl
  rotate_left 2
  · simp (disch := first | with_reducible rfl | assumption | omega | rfl | (simp only [go_sem]; first | done | omega)) only [go_sem, ↓reduceIte, reduceCtorEq, Nat.reduceEqDiff, Nat.reduceAdd, Nat.reduceSub, Nat.reduceMul, Nat.reduceDiv, Nat.reduceMod, Nat.reduceLeDiff, Nat.reduceLT, Nat.reduceBEq, Int.reduceEq, Int.reduceBEq, Int.reduceBNe, Int.reduceLT, Int.reduceLE, Int.reduceAdd, Int.reduceSub, Int.reduceNeg, Int.reduceToNat, Int.reducePow, Nat.reducePow, Int.reduceMul, Int.reduceDiv, ↓s_delta_Reverse, enterK_eq hval]
    rfl
  · (repeat (first | exact Fr.refl _ | refine Fr.push ?_ _ | refine Fr.set ?_ _ _ (by intro h; first | omega | (simp only [go_sem] at h; omega))))

/-! ### Apply -/
def cntC (l : List Cg) (n : Int) : Int := l.foldl (fun n c => if c.is = true then (if c.was = true then n else n + 1) else n - 1) n
def delAll (m : List Pr) (l : List Cg) : List Pr := l.foldl (fun m c => if c.is = true then m else delE m c.key) m
def putAll (m : List Pr) (l : List Cg) : List Pr := l.foldl (fun m c => if c.is = true then (putE m ⟨c.key, c.after⟩).2 else m) m
theorem Fine.del {l : List Pr} (f : Fine l) (k : ByteArray) : Fine (delE l k) := by
  refine ⟨srt_delE f.srt k, len_delE f.len k, ?_⟩
  unfold delE
  split
  · split
    · exact allOk_sub f.ok fun a ha => by
        rcases List.mem_append.1 ha with h | h
        · exact List.mem_of_mem_take h
        · exact List.mem_of_mem_drop h
    · exact f.ok
  · exact f.ok

/-- A map that changes, and a list of changes that stays. -/
structure Ap (H0 H : AHeap) (bm : Nat) (m : List Pr) (v : Value) (l : List Cg) : Prop where
  ok : Ok H
  md : Mdl H bm m
  fine : Fine m
  rd : Rd ECg H v l
  off : ∀ c, blockOf v = some c → c < H.n ∧ ¬ MB H bm c
  up : Up H0 bm H
theorem up_trans {H H1 H2 : AHeap} {b : Nat} (u1 : Up H b H1) (u2 : Up H1 b H2) : Up H b H2 := by
  have n1 := u1.fr.n
  refine ⟨u1.fr.then u2.fr fun c hc h => ?_, fun c h => ?_⟩
  · rcases u1.mb c h with h | h
    · exact h
    · omega
  · rcases u2.mb c h with h | h
    · exact u1.mb c h
    · exact .inr (by omega)
theorem Ap.still {H0 H H' : AHeap} {bm : Nat} {m : List Pr} {v : Value} {l : List Cg} (t : Ap H0 H bm m v l) (s : Still H H') : Ap H0 H' bm m v l :=
  ⟨t.ok.fr s, t.md.still s, t.fine, t.rd.still s, fun c hc => ⟨Nat.lt_of_lt_of_le (t.off c hc).1 s.n, fun h => (t.off c hc).2 (MBT_still t.md s h)⟩, up_trans t.up (after_push t.md s (UpT.refl _ _))⟩
theorem Ap.step {H0 H H' : AHeap} {bm : Nat} {m m' : List Pr} {v : Value} {l : List Cg} (t : Ap H0 H bm m v l) (m1 : Mdl H' bm m') (f : Fine m') (u : Up H bm H') : Ap H0 H' bm m' v l := by
  refine ⟨t.ok.fr u.fr, m1, f, t.rd.keep u.fr fun c hc h => (t.off c hc).2 h, fun c hc => ?_, up_trans t.up u⟩
  have h1 := t.off c hc
  have := u.fr.n
  refine ⟨by omega, fun h => ?_⟩
  rcases u.mb c h with h | h
  · exact h1.2 h
  · omega

end Go.Proofs.Ytlbieadnfgfhlaa

/-
  Chapter 49: Apply.
  Conditions: none. By an AI agent.
-/
set_option maxRecDepth 10000
set_option linter.unusedSimpArgs false
set_option linter.unusedVariables false
namespace Go.Proofs.Ytlbieadnfgfhlaa
open Go Eng

theorem l_cnt (l : List Cg) (v w : Value) (Hz : AHeap) (hr0 : Rd ECg Hz v l) (hl : l.length ≤ 20000) : ∀ (x : List Cg) (i : Nat) (H : AHeap) (n : Int), l.drop i = x → i ≤ l.length → Still Hz H → -(i : Int) ≤ n → n ≤ 20000 + (i : Int) → ∃ H', Still Hz H' ∧
    ∀ K : K, l_delta_Apply_0 w v (.int .i64 n) v (.int .i64 (l.length : Int)) (.int .i64 (i : Int)) H (blkK [0, 1, 5] 1 K) = K .normal [(0, w), (1, v), (5, .int .i64 (cntC x n))] H'
  | [], i, H, n, hx, hi, hs, hn1, hn2 => by
    have h : l.length ≤ i := List.drop_eq_nil_iff.1 hx
    have hlt : ¬ (i : Int) < (l.length : Int) := by omega
    refine ⟨H, hs, fun K => ?_⟩
    rw [r_delta_Apply_0]
    simp (disch := first | with_reducible rfl | assumption | omega | rfl | (simp only [go_sem]; first | done | omega)) only [go_sem, ↓reduceIte, reduceCtorEq, Nat.reduceEqDiff, Nat.reduceAdd, Nat.reduceSub, Nat.reduceMul, Nat.reduceDiv, Nat.reduceMod, Nat.reduceLeDiff, Nat.reduceLT, Nat.reduceBEq, Int.reduceEq, Int.reduceBEq, Int.reduceBNe, Int.reduceLT, Int.reduceLE, Int.reduceAdd, Int.reduceSub, Int.reduceNeg, Int.reduceToNat, Int.reducePow, Nat.reducePow, Int.reduceMul, Int.reduceDiv, ↓s_delta_Apply_b0, hlt]
    rfl
  | c :: x, i, H, n, hx, hi, hs, hn1, hn2 => by
    obtain ⟨h, hxa, hx'⟩ := drop_cons hx
    have hlt : (i : Int) < (l.length : Int) := by omega
    obtain ⟨b1, o1, hix, hb1, hc1, _⟩ := (hr0.still hs).ix (q := .i64) h
    rw [hxa] at hc1
    have hix : ixS 5 v (.int .i64 i) = some (.pointer (some ⟨b1, o1, none⟩)) := hix
    obtain ⟨ck, cw, ci, cb, ca⟩ := c
    have hc1 : cutB (H.f b1) o1 5 = some [.string ck, .bool cw, .bool ci, .string cb, .string ca] := hc1
    generalize hH1 : (H.push (.cells [.string (mk []), .bool false, .bool false, .string (mk []), .string (mk [])] T.api_Change true)).set H.n (.cells [.string ck, .bool cw, .bool ci, .string cb, .string ca] T.api_Change true) = H1
    have s1 : Still H H1 := by rw [← hH1]; exact Fr.set ((Fr.refl H).push _) _ _ (fun h => by omega)
    have f1 : H1.f H.n = .cells [.string ck, .bool cw, .bool ci, .string cb, .string ca] T.api_Change true := by rw [← hH1]; exact set_f_eq
    have hs1 : Still Hz H1 := hs.still.then s1 fun _ _ h => h
    cases ci with
    | true =>
      cases cw with
      | true =>
        obtain ⟨H', hs', ih⟩ := l_cnt l v w Hz hr0 hl x (i + 1) H1 n hx' h hs1 (by omega) (by omega)
        refine ⟨H', hs', fun K => ?_⟩
        have ih := ih K
        rw [Int.natCast_add] at ih
        rw [r_delta_Apply_0]
        simp (disch := first | with_reducible rfl | assumption | omega | rfl | (simp only [go_sem]; first | done | omega)) only [go_sem, ↓reduceIte, reduceCtorEq, Nat.reduceEqDiff, Nat.reduceAdd, Nat.reduceSub, Nat.reduceMul, Nat.reduceDiv, Nat.reduceMod, Nat.reduceLeDiff, Nat.reduceLT, Nat.reduceBEq, Int.reduceEq, Int.reduceBEq, Int.reduceBNe, Int.reduceLT, Int.reduceLE, Int.reduceAdd, Int.reduceSub, Int.reduceNeg, Int.reduceToNat, Int.reducePow, Nat.reducePow, Int.reduceMul, Int.reduceDiv, ↓s_delta_Apply_b0, hlt, hix, hc1, hH1, f1]
        exact ih
      | false =>
        obtain ⟨H', hs', ih⟩ := l_cnt l v w Hz hr0 hl x (i + 1) H1 (n + 1) hx' h hs1 (by omega) (by omega)
        refine ⟨H', hs', fun K => ?_⟩
        have ih := ih K
        rw [Int.natCast_add] at ih
        rw [r_delta_Apply_0]
        simp (disch := first | with_reducible rfl | assumption | omega | rfl | (simp only [go_sem]; first | done | omega)) only [go_sem, ↓reduceIte, reduceCtorEq, Nat.reduceEqDiff, Nat.reduceAdd, Nat.reduceSub, Nat.reduceMul, Nat.reduceDiv, Nat.reduceMod, Nat.reduceLeDiff, Nat.reduceLT, Nat.reduceBEq, Int.reduceEq, Int.reduceBEq, Int.reduceBNe, Int.reduceLT, Int.reduceLE, Int.reduceAdd, Int.reduceSub, Int.reduceNeg, Int.reduceToNat, Int.reducePow, Nat.reducePow, Int.reduceMul, Int.reduceDiv, ↓s_delta_Apply_b0, hlt, hix, hc1, hH1, f1]
        exact ih
    | false =>
      obtain ⟨H', hs', ih⟩ := l_cnt l v w Hz hr0 hl x (i + 1) H1 (n - 1) hx' h hs1 (by omega) (by omega)
      refine ⟨H', hs', fun K => ?_⟩
      have ih := ih K
      rw [Int.natCast_add] at ih
      rw [r_delta_Apply_0]
      simp (disch := first | with_reducible rfl | assumption | omega | rfl | (simp only [go_sem]; first | done | omega)) only [go_sem, ↓reduceIte, reduceCtorEq, Nat.reduceEqDiff, Nat.reduceAdd, Nat.reduceSub, Nat.reduceMul, Nat.reduceDiv, Nat.reduceMod, Nat.reduceLeDiff, Nat.reduceLT, Nat.reduceBEq, Int.reduceEq, Int.reduceBEq, Int.reduceBNe, Int.reduceLT, Int.reduceLE, Int.reduceAdd, Int.reduceSub, Int.reduceNeg, Int.reduceToNat, Int.reducePow, Nat.reducePow, Int.reduceMul, Int.reduceDiv, ↓s_delta_Apply_b0, hlt, hix, hc1, hH1, f1]
      exact ih

theorem l_dels (l : List Cg) (v : Value) (bm : Nat) (H0 : AHeap) (hl : l.length ≤ 20000) : ∀ (x : List Cg) (i : Nat) (H : AHeap) (m : List Pr), l.drop i = x → Ap H0 H bm m v l → ∃ H', Ap H0 H' bm (delAll m x) v l ∧
    ∀ K : K, l_delta_Apply_1 (.pointer (some ⟨bm, 0, none⟩)) v v (.int .i64 (l.length : Int)) (.int .i64 (i : Int)) H (blkK [0, 1] 4 K) = K .normal [(0, .pointer (some ⟨bm, 0, none⟩)), (1, v)] H'
  | [], i, H, m, hx, t => by
    have h : l.length ≤ i := List.drop_eq_nil_iff.1 hx
    have hlt : ¬ (i : Int) < (l.length : Int) := by omega
    refine ⟨H, t, fun K => ?_⟩
    rw [r_delta_Apply_1]
    simp (disch := first | with_reducible rfl | assumption | omega | rfl | (simp only [go_sem]; first | done | omega)) only [go_sem, ↓reduceIte, reduceCtorEq, Nat.reduceEqDiff, Nat.reduceAdd, Nat.reduceSub, Nat.reduceMul, Nat.reduceDiv, Nat.reduceMod, Nat.reduceLeDiff, Nat.reduceLT, Nat.reduceBEq, Int.reduceEq, Int.reduceBEq, Int.reduceBNe, Int.reduceLT, Int.reduceLE, Int.reduceAdd, Int.reduceSub, Int.reduceNeg, Int.reduceToNat, Int.reducePow, Nat.reducePow, Int.reduceMul, Int.reduceDiv, ↓s_delta_Apply_b1, hlt]
  | c :: x, i, H, m, hx, t => by
    obtain ⟨h, hxa, hx'⟩ := drop_cons hx
    have hlt : (i : Int) < (l.length : Int) := by omega
    obtain ⟨b1, o1, hix, hb1, hc1, _⟩ := t.rd.ix (q := .i64) h
    rw [hxa] at hc1
    have hix : ixS 5 v (.int .i64 i) = some (.pointer (some ⟨b1, o1, none⟩)) := hix
    obtain ⟨ck, cw, ci, cb, ca⟩ := c
    have hc1 : cutB (H.f b1) o1 5 = some [.string ck, .bool cw, .bool ci, .string cb, .string ca] := hc1
    generalize hH1 : (H.push (.cells [.string (mk []), .bool false, .bool false, .string (mk []), .string (mk [])] T.api_Change true)).set H.n (.cells [.string ck, .bool cw, .bool ci, .string cb, .string ca] T.api_Change true) = H1
    have s1 : Still H H1 := by rw [← hH1]; exact Fr.set ((Fr.refl H).push _) _ _ (fun h => by omega)
    have f1 : H1.f H.n = .cells [.string ck, .bool cw, .bool ci, .string cb, .string ca] T.api_Change true := by rw [← hH1]; exact set_f_eq
    have t1 := t.still s1
    cases ci with
    | true =>
      obtain ⟨H', t', ih⟩ := l_dels l v bm H0 hl x (i + 1) H1 m hx' t1
      refine ⟨H', t', fun K => ?_⟩
      have ih := ih K
      rw [Int.natCast_add] at ih
      rw [r_delta_Apply_1]
      simp (disch := first | with_reducible rfl | assumption | omega | rfl | (simp only [go_sem]; first | done | omega)) only [go_sem, ↓reduceIte, reduceCtorEq, Nat.reduceEqDiff, Nat.reduceAdd, Nat.reduceSub, Nat.reduceMul, Nat.reduceDiv, Nat.reduceMod, Nat.reduceLeDiff, Nat.reduceLT, Nat.reduceBEq, Int.reduceEq, Int.reduceBEq, Int.reduceBNe, Int.reduceLT, Int.reduceLE, Int.reduceAdd, Int.reduceSub, Int.reduceNeg, Int.reduceToNat, Int.reducePow, Nat.reducePow, Int.reduceMul, Int.reduceDiv, ↓s_delta_Apply_b1, hlt, hix, hc1, hH1, f1]
      exact ih
    | false =>
      obtain ⟨H2, hdel, m2, u2⟩ := q_delM bm m ck H1 t1.ok t1.md t1.fine.srt t1.fine.len
      obtain ⟨s, e, hse⟩ := getE_shape m ck
      rw [hse] at hdel
      obtain ⟨H', t', ih⟩ := l_dels l v bm H0 hl x (i + 1) H2 _ hx' (t1.step m2 (t1.fine.del ck) u2)
      refine ⟨H', t', fun K => ?_⟩
      have ih := ih K
      rw [Int.natCast_add] at ih
      rw [r_delta_Apply_1]
      simp (disch := first | with_reducible rfl | assumption | omega | rfl | (simp only [go_sem]; first | done | omega)) only [go_sem, ↓reduceIte, reduceCtorEq, Nat.reduceEqDiff, Nat.reduceAdd, Nat.reduceSub, Nat.reduceMul, Nat.reduceDiv, Nat.reduceMod, Nat.reduceLeDiff, Nat.reduceLT, Nat.reduceBEq, Int.reduceEq, Int.reduceBEq, Int.reduceBNe, Int.reduceLT, Int.reduceLE, Int.reduceAdd, Int.reduceSub, Int.reduceNeg, Int.reduceToNat, Int.reducePow, Nat.reducePow, Int.reduceMul, Int.reduceDiv, ↓s_delta_Apply_b1, hlt, hix, hc1, hH1, f1, enterK_eq hdel]
      exact ih

theorem l_puts (l : List Cg) (v : Value) (bm : Nat) (H0 : AHeap) (hl : l.length ≤ 20000) : ∀ (x : List Cg) (i : Nat) (H : AHeap) (m : List Pr), l.drop i = x → Ap H0 H bm m v l → ∃ H', Ap H0 H' bm (putAll m x) v l ∧
    ∀ K : K, l_delta_Apply_2 (.pointer (some ⟨bm, 0, none⟩)) v (.int .i64 (l.length : Int)) (.int .i64 (i : Int)) H (blkK [] 6 K) = K .normal [] H'
  | [], i, H, m, hx, t => by
    have h : l.length ≤ i := List.drop_eq_nil_iff.1 hx
    have hlt : ¬ (i : Int) < (l.length : Int) := by omega
    refine ⟨H, t, fun K => ?_⟩
    rw [r_delta_Apply_2]
    simp (disch := first | with_reducible rfl | assumption | omega | rfl | (simp only [go_sem]; first | done | omega)) only [go_sem, ↓reduceIte, reduceCtorEq, Nat.reduceEqDiff, Nat.reduceAdd, Nat.reduceSub, Nat.reduceMul, Nat.reduceDiv, Nat.reduceMod, Nat.reduceLeDiff, Nat.reduceLT, Nat.reduceBEq, Int.reduceEq, Int.reduceBEq, Int.reduceBNe, Int.reduceLT, Int.reduceLE, Int.reduceAdd, Int.reduceSub, Int.reduceNeg, Int.reduceToNat, Int.reducePow, Nat.reducePow, Int.reduceMul, Int.reduceDiv, ↓s_delta_Apply_b2, hlt]
  | c :: x, i, H, m, hx, t => by
    obtain ⟨h, hxa, hx'⟩ := drop_cons hx
    have hlt : (i : Int) < (l.length : Int) := by omega
    obtain ⟨b1, o1, hix, hb1, hc1, _⟩ := t.rd.ix (q := .i64) h
    rw [hxa] at hc1
    have hix : ixS 5 v (.int .i64 i) = some (.pointer (some ⟨b1, o1, none⟩)) := hix
    obtain ⟨ck, cw, ci, cb, ca⟩ := c
    have hc1 : cutB (H.f b1) o1 5 = some [.string ck, .bool cw, .bool ci, .string cb, .string ca] := hc1
    generalize hH1 : (H.push (.cells [.string (mk []), .bool false, .bool false, .string (mk []), .string (mk [])] T.api_Change true)).set H.n (.cells [.string ck, .bool cw, .bool ci, .string cb, .string ca] T.api_Change true) = H1
    have s1 : Still H H1 := by rw [← hH1]; exact Fr.set ((Fr.refl H).push _) _ _ (fun h => by omega)
    have f1 : H1.f H.n = .cells [.string ck, .bool cw, .bool ci, .string cb, .string ca] T.api_Change true := by rw [← hH1]; exact set_f_eq
    have t1 := t.still s1
    cases ci with
    | false =>
      obtain ⟨H', t', ih⟩ := l_puts l v bm H0 hl x (i + 1) H1 m hx' t1
      refine ⟨H', t', fun K => ?_⟩
      have ih := ih K
      rw [Int.natCast_add] at ih
      rw [r_delta_Apply_2]
      simp (disch := first | with_reducible rfl | assumption | omega | rfl | (simp only [go_sem]; first | done | omega)) only [go_sem, ↓reduceIte, reduceCtorEq, Nat.reduceEqDiff, Nat.reduceAdd, Nat.reduceSub, Nat.reduceMul, Nat.reduceDiv, Nat.reduceMod, Nat.reduceLeDiff, Nat.reduceLT, Nat.reduceBEq, Int.reduceEq, Int.reduceBEq, Int.reduceBNe, Int.reduceLT, Int.reduceLE, Int.reduceAdd, Int.reduceSub, Int.reduceNeg, Int.reduceToNat, Int.reducePow, Nat.reducePow, Int.reduceMul, Int.reduceDiv, ↓s_delta_Apply_b2, hlt, hix, hc1, hH1, f1]
      exact ih
    | true =>
      obtain ⟨H2, hput, m2, u2⟩ := q_putM bm m ⟨ck, ca⟩ H1 t1.ok t1.md t1.fine.srt t1.fine.len
      obtain ⟨H', t', ih⟩ := l_puts l v bm H0 hl x (i + 1) H2 _ hx' (t1.step m2 (t1.fine.put _) u2)
      refine ⟨H', t', fun K => ?_⟩
      have ih := ih K
      rw [Int.natCast_add] at ih
      generalize (putE m ⟨ck, ca⟩).1 = e at hput
      have hput : CC F.model_Model_Put [.pointer (some ⟨bm, 0, none⟩), .string ck, .string ca] H1 = some (.int .i64 e, H2) := hput
      rw [r_delta_Apply_2]
      simp (disch := first | with_reducible rfl | assumption | omega | rfl | (simp only [go_sem]; first | done | omega)) only [go_sem, ↓reduceIte, reduceCtorEq, Nat.reduceEqDiff, Nat.reduceAdd, Nat.reduceSub, Nat.reduceMul, Nat.reduceDiv, Nat.reduceMod, Nat.reduceLeDiff, Nat.reduceLT, Nat.reduceBEq, Int.reduceEq, Int.reduceBEq, Int.reduceBNe, Int.reduceLT, Int.reduceLE, Int.reduceAdd, Int.reduceSub, Int.reduceNeg, Int.reduceToNat, Int.reducePow, Nat.reducePow, Int.reduceMul, Int.reduceDiv, ↓s_delta_Apply_b2, hlt, hix, hc1, hH1, f1, enterK_eq hput]
      exact ih

theorem q_Apply_nil (v : Value) (H : AHeap) : CC F.delta_Apply [.pointer none, v] H = some (.int .i64 1, H) := by
  apply pure_of _ (d_delta_Apply _ _ H) rfl
  rotate_left 2
  · simp (disch := first | with_reducible rfl | assumption | omega | rfl | (simp only [go_sem]; first | done | omega)) only [go_sem, ↓reduceIte, reduceCtorEq, Nat.reduceEqDiff, Nat.reduceAdd, Nat.reduceSub, Nat.reduceMul, Nat.reduceDiv, Nat.reduceMod, Nat.reduceLeDiff, Nat.reduceLT, Nat.reduceBEq, Int.reduceEq, Int.reduceBEq, Int.reduceBNe, Int.reduceLT, Int.reduceLE, Int.reduceAdd, Int.reduceSub, Int.reduceNeg, Int.reduceToNat, Int.reducePow, Nat.reducePow, Int.reduceMul, Int.reduceDiv, ↓s_delta_Apply]
    rfl
  · (repeat (first | exact Fr.refl _ | refine Fr.push ?_ _ | refine Fr.set ?_ _ _ (by intro h; first | omega | (simp only [go_sem] at h; omega))))
theorem q_Apply_arg (bm : Nat) (l : List Cg) (v : Value) (H : AHeap) (ok : Ok H) (hr : Rd ECg H v l) (hl : l.length ≤ 1000000) (hv : validC l = false) : CC F.delta_Apply [.pointer (some ⟨bm, 0, none⟩), v] H = some (.int .i64 2, H) := by
  have hval := q_Valid l v H ok hr hl
  rw [hv] at hval
  apply pure_of _ (d_delta_Apply _ _ H) rfl
  rotate_left 2
  · simp (disch := first | with_reducible rfl | assumption | omega | rfl | (simp only [go_sem]; first | done | omega)) only [go_sem, ↓reduceIte, reduceCtorEq, Nat.reduceEqDiff, Nat.reduceAdd, Nat.reduceSub, Nat.reduceMul, Nat.reduceDiv, Nat.reduceMod, Nat.reduceLeDiff, Nat.reduceLT, Nat.reduceBEq, Int.reduceEq, Int.reduceBEq, Int.reduceBNe, Int.reduceLT, Int.reduceLE, Int.reduceAdd, Int.reduceSub, Int.reduceNeg, Int.reduceToNat, Int.reducePow, Nat.reducePow, Int.reduceMul, Int.reduceDiv, ↓s_delta_Apply, mp_some, enterK_eq hval]
    rfl
  · (repeat (first | exact Fr.refl _ | refine Fr.push ?_ _ | refine Fr.set ?_ _ _ (by intro h; first | omega | (simp only [go_sem] at h; omega))))
theorem q_Apply_fit (bm : Nat) (m : List Pr) (l : List Cg) (v : Value) (H : AHeap) (ok : Ok H) (hr : Rd ECg H v l) (r : Mdl H bm m) (f : Fine m) (hv : validC l = true) (hf : fitsC m l = false) : CC F.delta_Apply [.pointer (some ⟨bm, 0, none⟩), v] H = some (.int .i64 10, H) := by
  have hl := (valid_all hv).1
  have hval := q_Valid l v H ok hr (by omega)
  have hfit := q_Fits l m v bm H ok hr (by omega) r f
  rw [hv, hf] at hfit
  rw [hv] at hval
  apply pure_of _ (d_delta_Apply _ _ H) rfl
  rotate_left 2
  · simp (disch := first | with_reducible rfl | assumption | omega | rfl | (simp only [go_sem]; first | done | omega)) only [go_sem, ↓reduceIte, reduceCtorEq, Nat.reduceEqDiff, Nat.reduceAdd, Nat.reduceSub, Nat.reduceMul, Nat.reduceDiv, Nat.reduceMod, Nat.reduceLeDiff, Nat.reduceLT, Nat.reduceBEq, Int.reduceEq, Int.reduceBEq, Int.reduceBNe, Int.reduceLT, Int.reduceLE, Int.reduceAdd, Int.reduceSub, Int.reduceNeg, Int.reduceToNat, Int.reducePow, Nat.reducePow, Int.reduceMul, Int.reduceDiv, ↓s_delta_Apply, mp_some, enterK_eq hval, enterK_eq hfit]
    rfl
  · (repeat (first | exact Fr.refl _ | refine Fr.push ?_ _ | refine Fr.set ?_ _ _ (by intro h; first | omega | (simp only [go_sem] at h; omega))))
theorem q_Apply_full (bm : Nat) (m : List Pr) (l : List Cg) (v : Value) (H : AHeap) (ok : Ok H) (hr : Rd ECg H v l) (r : Mdl H bm m) (f : Fine m) (hv : validC l = true) (hf : fitsC m l = true) (hc : 20000 < cntC l (m.length : Int)) : CC F.delta_Apply [.pointer (some ⟨bm, 0, none⟩), v] H = some (.int .i64 7, H) := by
  have hl := (valid_all hv).1
  have hval := q_Valid l v H ok hr (by omega)
  have hfit := q_Fits l m v bm H ok hr (by omega) r f
  rw [hv, hf] at hfit
  rw [hv] at hval
  have hlen := hr.lenS
  have hlm := q_Len bm m H r
  have hm := f.len
  obtain ⟨H1, s1, hloop⟩ := l_cnt l v (.pointer (some ⟨bm, 0, none⟩)) H hr hl l 0 H (m.length : Int) rfl (by omega) (Fr.refl H) (by omega) (by omega)
  refine pure_of (H' := H1) ?_ (d_delta_Apply _ _ H) rfl s1
  simp (disch := first | with_reducible rfl | assumption | omega | rfl | (simp only [go_sem]; first | done | omega)) only [go_sem, ↓reduceIte, reduceCtorEq, Nat.reduceEqDiff, Nat.reduceAdd, Nat.reduceSub, Nat.reduceMul, Nat.reduceDiv, Nat.reduceMod, Nat.reduceLeDiff, Nat.reduceLT, Nat.reduceBEq, Int.reduceEq, Int.reduceBEq, Int.reduceBNe, Int.reduceLT, Int.reduceLE, Int.reduceAdd, Int.reduceSub, Int.reduceNeg, Int.reduceToNat, Int.reducePow, Nat.reducePow, Int.reduceMul, Int.reduceDiv, ↓s_delta_Apply, mp_some, enterK_eq hval, enterK_eq hfit, enterK_eq hlm, hlen]
  refine (hloop _).trans ?_
  simp (disch := first | with_reducible rfl | assumption | omega | rfl | (simp only [go_sem]; first | done | omega)) only [go_sem, ↓reduceIte, reduceCtorEq, Nat.reduceEqDiff, Nat.reduceAdd, Nat.reduceSub, Nat.reduceMul, Nat.reduceDiv, Nat.reduceMod, Nat.reduceLeDiff, Nat.reduceLT, Nat.reduceBEq, Int.reduceEq, Int.reduceBEq, Int.reduceBNe, Int.reduceLT, Int.reduceLE, Int.reduceAdd, Int.reduceSub, Int.reduceNeg, Int.reduceToNat, Int.reducePow, Nat.reducePow, Int.reduceMul, Int.reduceDiv, decide_eq_true hc]
/-- What is made of a map by a delta. -/
def applyF (m : List Pr) (l : List Cg) : List Pr := putAll (delAll m l) l
theorem q_Apply (bm : Nat) (m : List Pr) (l : List Cg) (v : Value) (H : AHeap) (ok : Ok H) (hr : Rd ECg H v l) (hoff : ∀ c, blockOf v = some c → c < H.n ∧ ¬ MB H bm c) (r : Mdl H bm m) (f : Fine m) (hv : validC l = true) (hf : fitsC m l = true) (hc : ¬ 20000 < cntC l (m.length : Int)) :
    ∃ H', CC F.delta_Apply [.pointer (some ⟨bm, 0, none⟩), v] H = some (.int .i64 0, H') ∧ Mdl H' bm (applyF m l) ∧ Fine (applyF m l) ∧ Up H bm H' := by
  have hl := (valid_all hv).1
  have hval := q_Valid l v H ok hr (by omega)
  have hfit := q_Fits l m v bm H ok hr (by omega) r f
  rw [hv, hf] at hfit
  rw [hv] at hval
  have hlen := hr.lenS
  have hlm := q_Len bm m H r
  have hm := f.len
  obtain ⟨H1, s1, hloop⟩ := l_cnt l v (.pointer (some ⟨bm, 0, none⟩)) H hr hl l 0 H (m.length : Int) rfl (by omega) (Fr.refl H) (by omega) (by omega)
  have t0 : Ap H H bm m v l := ⟨ok, r, f, hr, hoff, UpT.refl H bm⟩
  obtain ⟨H2, t2, hl1⟩ := l_dels l v bm H hl l 0 H1 m rfl (t0.still s1)
  obtain ⟨H3, t3, hl2⟩ := l_puts l v bm H hl l 0 H2 _ rfl t2
  have t3 : Ap H H3 bm (applyF m l) v l := t3
  obtain ⟨H4, hx, m4, u4⟩ := Mdl.tidied (v := .int .i64 0) ok r t3.md t3.up
  refine ⟨H4, (d_delta_Apply _ _ H (r := (.int .i64 0, H3)) ?_).trans (congrArg some hx), m4, t3.fine, u4⟩
  simp (disch := first | with_reducible rfl | assumption | omega | rfl | (simp only [go_sem]; first | done | omega)) only [go_sem, ↓reduceIte, reduceCtorEq, Nat.reduceEqDiff, Nat.reduceAdd, Nat.reduceSub, Nat.reduceMul, Nat.reduceDiv, Nat.reduceMod, Nat.reduceLeDiff, Nat.reduceLT, Nat.reduceBEq, Int.reduceEq, Int.reduceBEq, Int.reduceBNe, Int.reduceLT, Int.reduceLE, Int.reduceAdd, Int.reduceSub, Int.reduceNeg, Int.reduceToNat, Int.reducePow, Nat.reducePow, Int.reduceMul, Int.reduceDiv, ↓s_delta_Apply, mp_some, enterK_eq hval, enterK_eq hfit, enterK_eq hlm, hlen]
  refine (hloop _).trans ?_
  simp (disch := first | with_reducible rfl | assumption | omega | rfl | (simp only [go_sem]; first | done | omega)) only [go_sem, ↓reduceIte, reduceCtorEq, Nat.reduceEqDiff, Nat.reduceAdd, Nat.reduceSub, Nat.reduceMul, Nat.reduceDiv, Nat.reduceMod, Nat.reduceLeDiff, Nat.reduceLT, Nat.reduceBEq, Int.reduceEq, Int.reduceBEq, Int.reduceBNe, Int.reduceLT, Int.reduceLE, Int.reduceAdd, Int.reduceSub, Int.reduceNeg, Int.reduceToNat, Int.reducePow, Nat.reducePow, Int.reduceMul, Int.reduceDiv, decide_eq_false hc, hlen]
  refine (hl1 _).trans ?_
  simp (disch := first | with_reducible rfl | assumption | omega | rfl | (simp only [go_sem]; first | done | omega)) only [go_sem, ↓reduceIte, reduceCtorEq, Nat.reduceEqDiff, Nat.reduceAdd, Nat.reduceSub, Nat.reduceMul, Nat.reduceDiv, Nat.reduceMod, Nat.reduceLeDiff, Nat.reduceLT, Nat.reduceBEq, Int.reduceEq, Int.reduceBEq, Int.reduceBNe, Int.reduceLT, Int.reduceLE, Int.reduceAdd, Int.reduceSub, Int.reduceNeg, Int.reduceToNat, Int.reducePow, Nat.reducePow, Int.reduceMul, Int.reduceDiv, hlen]
  refine (hl2 _).trans ?_
  simp (disch := first | with_reducible rfl | assumption | omega | rfl | (simp only [go_sem]; first | done | omega)) only [go_sem, ↓reduceIte, reduceCtorEq, Nat.reduceEqDiff, Nat.reduceAdd, Nat.reduceSub, Nat.reduceMul, Nat.reduceDiv, Nat.reduceMod, Nat.reduceLeDiff, Nat.reduceLT, Nat.reduceBEq, Int.reduceEq, Int.reduceBEq, Int.reduceBNe, Int.reduceLT, Int.reduceLE, Int.reduceAdd, Int.reduceSub, Int.reduceNeg, Int.reduceToNat, Int.reducePow, Nat.reducePow, Int.reduceMul, Int.reduceDiv]

end Go.Proofs.Ytlbieadnfgfhlaa

/-
  Chapter 49: Conflicts, Merge, Together (printed by gen_cn.py).
  Conditions: none. By an AI agent.
-/
set_option maxRecDepth 10000
set_option linter.unusedSimpArgs false
set_option linter.unusedVariables false
namespace Go.Proofs.Ytlbieadnfgfhlaa
open Go Eng

theorem litS (c : ByteArray) (H : AHeap) : Rd EStr (H.push (.cells [.string c] T.string true)) (.slice (some ⟨H.n, 0, none⟩) 1 2) [c] := by
  refine .inr (.inr ⟨H.n, 0, 2, rfl, by simp, by simp, ?_⟩)
  rw [push_f_eq rfl]
  rfl
structure OutS (S : Nat → Prop) (Hz : AHeap) (bo : Nat) (acc : List ByteArray) (H : AHeap) : Prop where
  ok : Ok H
  fr : Fr S Hz H
  shi : ∀ c, S c → c < Hz.n
  sbo : S bo
  w : ∃ a n k, H.f bo = .cells [.slice a n k] T.sl_string true ∧ Own EStr H T.string (.slice a n k) acc ∧ ∀ c, blockOf (.slice a n k) = some c → Hz.n ≤ c
theorem OutS.lt {S : Nat → Prop} {Hz H : AHeap} {bo : Nat} {acc : List ByteArray} (t : OutS S Hz bo acc H) : bo < Hz.n := t.shi bo t.sbo
theorem OutS.still {S : Nat → Prop} {Hz H H' : AHeap} {bo : Nat} {acc : List ByteArray} (t : OutS S Hz bo acc H) (s : Still H H') : OutS S Hz bo acc H' := by
  obtain ⟨a, n, k, h1, h2, h3⟩ := t.w
  exact ⟨t.ok.fr s, t.fr.then s fun _ _ h => h.elim, t.shi, t.sbo, a, n, k, by rw [s.f (Nat.lt_of_lt_of_le t.lt t.fr.n) (fun h => h), h1], h2.still s, h3⟩
/-- Another cell is turned. -/
theorem OutS.other {S : Nat → Prop} {Hz H H' : AHeap} {bo bf : Nat} {acc : List ByteArray} (t : OutS S Hz bo acc H) (hf : S bf) (hne : bo ≠ bf) (s : Fr (fun c => c = bf) H H') : OutS S Hz bo acc H' := by
  obtain ⟨a, n, k, h1, h2, h3⟩ := t.w
  have hb := t.shi bf hf
  exact ⟨t.ok.fr s, t.fr.then s fun c _ h => by subst h; exact hf, t.shi, t.sbo, a, n, k, by rw [s.f (Nat.lt_of_lt_of_le t.lt t.fr.n) hne, h1], h2.keep s fun c hc h => by have := h3 c hc; omega, h3⟩
theorem OutS.app {S : Nat → Prop} {Hz H : AHeap} {bo : Nat} {acc : List ByteArray} (t : OutS S Hz bo acc H) (hl : acc.length ≤ 1000000) (c : ByteArray) :
    ∃ a n k a' n' k' H2 H3, H.f bo = .cells [.slice a n k] T.sl_string true ∧ Eng.app T.string 1 16 (.slice a n k) (srcS 1 (.slice (some ⟨H.n, 0, none⟩) 1 2) (H.push (.cells [.string c] T.string true))) (H.push (.cells [.string c] T.string true)) = some (.slice a' n' k', H2) ∧
      H2.f bo = .cells [.slice a n k] T.sl_string true ∧ H2.set bo (.cells [.slice a' n' k'] T.sl_string true) = H3 ∧ OutS S Hz bo (acc ++ [c]) H3 ∧ H.clk ≤ H3.ver bo ∧ ∀ d, d < Hz.n → d ≠ bo → H3.f d = H.f d := by
  obtain ⟨a, n, k, h1, h2, h3⟩ := t.w
  have hbo := t.lt
  have hz := t.fr.n
  generalize hH1 : H.push (.cells [.string c] T.string true) = H1
  have s1 : Still H H1 := by rw [← hH1]; exact (Fr.refl H).push _
  have n1 : H1.n = H.n + 1 := by rw [← hH1]; rfl
  have hlit := litS c H
  rw [hH1] at hlit
  obtain ⟨w, H2, happ, o2, fr2, hb2⟩ := (h2.still s1).appE (m := [c]) (sz := 1) (bytes := 16) rfl (by simp; omega) (by simp; omega) (hlit.src (sz := 1) rfl)
  obtain ⟨a', n', k', rfl⟩ := Own.shapeG o2
  have off : ∀ d, d < Hz.n → ¬ OnlyOf (.slice a n k) d := fun d hd hc => by have := h3 d hc; omega
  have n2 : H1.n ≤ H2.n := fr2.n
  have f2 : H2.f bo = .cells [.slice a n k] T.sl_string true := by rw [fr2.f (by omega) (off bo hbo), s1.f (by omega) (fun h => h), h1]
  have hb2' : ∀ d, blockOf (.slice a' n' k') = some d → Hz.n ≤ d := fun d hd => by
    rcases hb2 with e | e
    · rw [e] at hd; exact h3 d hd
    · rw [e] at hd; cases hd; omega
  generalize hH3 : H2.set bo (.cells [.slice a' n' k'] T.sl_string true) = H3
  have fr3 : Fr (fun c => c = bo) H2 H3 := by rw [← hH3]; exact Fr.set (Fr.refl H2) _ _ fun _ => rfl
  have f3 : H3.f bo = .cells [.slice a' n' k'] T.sl_string true := by rw [← hH3]; exact set_f_eq
  have o3 : Own EStr H3 T.string (.slice a' n' k') (acc ++ [c]) := o2.keep fr3 fun d hd h => by have := hb2' d hd; omega
  refine ⟨a, n, k, a', n', k', H2, H3, h1, happ, f2, hH3, ⟨((t.ok.fr s1).fr fr2).fr fr3, ?_, t.shi, t.sbo, a', n', k', f3, o3, hb2'⟩, ?_, fun d hd hne => ?_⟩
  · exact ((t.fr.then s1 fun _ _ h => h.elim).then fr2 fun d hd h => by have := h3 d h; omega).then fr3 fun d _ h => by subst h; exact t.sbo
  · rw [← hH3, set_v_eq]
    exact Nat.le_trans s1.clk fr2.clk
  · rw [fr3.f (by omega) hne, fr2.f (by omega) (off d hd), s1.f (by omega) (fun h => h)]
/-- Behind a call that may have been forgotten: then nothing was turned. -/
theorem OutS.tidied {S : Nat → Prop} {H H' : AHeap} {bo : Nat} {acc : List ByteArray} {X : Value} (ok : Ok H) (t0 : OutS S H bo [] H) (t : OutS S H bo acc H') : ∃ H'', tidy H (X, H') = (X, H'') ∧ OutS S H bo acc H'' ∧ ∀ c, c < H.n → H''.f c = H'.f c := by
  unfold tidy
  split
  · rename_i hg
    simp only [Bool.and_eq_true] at hg
    have hsame : ∀ c, c < H.n → H'.f c = H.f c := by
      intro c hc
      rcases t.fr.old c hc with h | ⟨h, _⟩
      · exact h.2
      · have := List.all_eq_true.1 hg.2 c (by simpa using hc)
        have := ok c
        simp at *
        omega
    refine ⟨H, rfl, ?_, fun c hc => (hsame c hc).symm⟩
    obtain ⟨a, n, k, h1, h2, h3⟩ := t0.w
    obtain ⟨a', n', k', h1', h2', h3'⟩ := t.w
    rw [hsame bo t0.lt, h1] at h1'
    cases h1'
    have hacc : acc = [] := by
      rcases h2' with ⟨h, _⟩ | ⟨h, _⟩ | ⟨b, o, c, xs, hv, _⟩
      · exact h
      · exact h
      · have hbl : blockOf (.slice a n k) = some b := by rw [hv]; rfl
        have e1 := h3 b hbl
        have e2 := h2.blk hbl
        omega
    rw [hacc]
    exact t0
  · exact ⟨H', rfl, t, fun c hc => rfl⟩


/-! ### Conflicts -/
def confL (e : Both) : List ByteArray := if e.2.2.1 = true ∧ e.2.2.2 = true ∧ ¬ e.1 = e.2.1 then [e.1.key] else []
theorem confL_len (e : Both) : (confL e).length ≤ 1 := by unfold confL; split <;> simp
theorem q_Conf_1 {S : Nat → Prop} (Hz H : AHeap) (bo : Nat) (acc : List ByteArray) (t : OutS S Hz bo acc H) (hl : acc.length ≤ 1000000) (e : Both) :
    ∃ r H', CC F.delta_Conflicts_1 [cgV e.1, cgV e.2.1, .bool e.2.2.1, .bool e.2.2.2, .pointer (some ⟨bo, 0, none⟩)] H = some (r, H') ∧ OutS S Hz bo (acc ++ confL e) H' := by
  obtain ⟨x, y, ia, ib⟩ := e
  generalize hH1 : H.push (.cells [.string x.key, .bool x.was, .bool x.is, .string x.before, .string x.after] T.api_Change true) = H1
  have s1 : Still H H1 := by rw [← hH1]; exact (Fr.refl H).push _
  have n1 : H1.n = H.n + 1 := by rw [← hH1]; rfl
  have f1 : H1.f H.n = .cells [.string x.key, .bool x.was, .bool x.is, .string x.before, .string x.after] T.api_Change true := by rw [← hH1]; exact push_f_eq rfl
  generalize hH2 : H1.push (.cells [.string y.key, .bool y.was, .bool y.is, .string y.before, .string y.after] T.api_Change true) = H2
  have s2 : Still H1 H2 := by rw [← hH2]; exact (Fr.refl H1).push _
  have n2 : H2.n = H1.n + 1 := by rw [← hH2]; rfl
  have f2 : H2.f H1.n = .cells [.string y.key, .bool y.was, .bool y.is, .string y.before, .string y.after] T.api_Change true := by rw [← hH2]; exact push_f_eq rfl
  have f21 : H2.f H.n = .cells [.string x.key, .bool x.was, .bool x.is, .string x.before, .string x.after] T.api_Change true := by rw [s2.f (by omega) (fun h => h), f1]
  have s02 : Still H H2 := s1.still.then s2 fun _ _ h => h
  have t2 := t.still s02
  have hbo : bo < H.n := Nat.lt_of_lt_of_le t.lt t.fr.n
  have skip : confL (x, y, ia, ib) = [] → ∀ G, Still H G → OutS S Hz bo (acc ++ confL (x, y, ia, ib)) H := fun h G _ => by rw [h, List.append_nil]; exact t
  cases ia with
  | false =>
    have hc : confL (x, y, false, ib) = [] := by simp [confL]
    refine ⟨.tuple #[], H, ?_, skip hc H2 s02⟩
    refine pure_of (H' := H2) ?_ (d_delta_Conflicts_1 _ _ _ _ _ H) rfl s02
    simp (disch := first | with_reducible rfl | assumption | omega | rfl | (simp only [go_sem]; first | done | omega)) only [go_sem, ↓reduceIte, reduceCtorEq, Nat.reduceEqDiff, Nat.reduceAdd, Nat.reduceSub, Nat.reduceMul, Nat.reduceDiv, Nat.reduceMod, Nat.reduceLeDiff, Nat.reduceLT, Nat.reduceBEq, Int.reduceEq, Int.reduceBEq, Int.reduceBNe, Int.reduceLT, Int.reduceLE, Int.reduceAdd, Int.reduceSub, Int.reduceNeg, Int.reduceToNat, Int.reducePow, Nat.reducePow, Int.reduceMul, Int.reduceDiv, ↓s_delta_Conflicts_1, hH1, hH2]
  | true =>
    cases ib with
    | false =>
      have hc : confL (x, y, true, false) = [] := by simp [confL]
      refine ⟨.tuple #[], H, ?_, skip hc H2 s02⟩
      refine pure_of (H' := H2) ?_ (d_delta_Conflicts_1 _ _ _ _ _ H) rfl s02
      simp (disch := first | with_reducible rfl | assumption | omega | rfl | (simp only [go_sem]; first | done | omega)) only [go_sem, ↓reduceIte, reduceCtorEq, Nat.reduceEqDiff, Nat.reduceAdd, Nat.reduceSub, Nat.reduceMul, Nat.reduceDiv, Nat.reduceMod, Nat.reduceLeDiff, Nat.reduceLT, Nat.reduceBEq, Int.reduceEq, Int.reduceBEq, Int.reduceBNe, Int.reduceLT, Int.reduceLE, Int.reduceAdd, Int.reduceSub, Int.reduceNeg, Int.reduceToNat, Int.reducePow, Nat.reducePow, Int.reduceMul, Int.reduceDiv, ↓s_delta_Conflicts_1, hH1, hH2]
    | true =>
      have hne : ∀ ox oy, xbin Try.prog .neq T.api_Change ox oy (.agg #[.string x.key, .bool x.was, .bool x.is, .string x.before, .string x.after]) (.agg #[.string y.key, .bool y.was, .bool y.is, .string y.before, .string y.after]) = some (.bool (!decide (x = y))) := fun ox oy => cg_ne
      by_cases hxy : x = y
      · have hc : confL (x, y, true, true) = [] := by simp [confL, hxy]
        refine ⟨.tuple #[], H, ?_, skip hc H2 s02⟩
        refine pure_of (H' := H2) ?_ (d_delta_Conflicts_1 _ _ _ _ _ H) rfl s02
        simp (disch := first | with_reducible rfl | assumption | omega | rfl | (simp only [go_sem]; first | done | omega)) only [go_sem, ↓reduceIte, reduceCtorEq, Nat.reduceEqDiff, Nat.reduceAdd, Nat.reduceSub, Nat.reduceMul, Nat.reduceDiv, Nat.reduceMod, Nat.reduceLeDiff, Nat.reduceLT, Nat.reduceBEq, Int.reduceEq, Int.reduceBEq, Int.reduceBNe, Int.reduceLT, Int.reduceLE, Int.reduceAdd, Int.reduceSub, Int.reduceNeg, Int.reduceToNat, Int.reducePow, Nat.reducePow, Int.reduceMul, Int.reduceDiv, ↓s_delta_Conflicts_1, hH1, hH2, f21, f2, hne, decide_eq_true hxy]
      · have hc : confL (x, y, true, true) = [x.key] := by simp [confL, hxy]
        rw [hc]
        obtain ⟨a, n, k, a', n', k', H4, H5, g1, g2, g3, g4, g5, g6, _⟩ := t2.app hl x.key
        generalize hL : H2.push (.cells [.string x.key] T.string true) = HL at g2
        refine ⟨.tuple #[], H5, (d_delta_Conflicts_1 _ _ _ _ _ H (r := (.tuple #[], H5)) ?_).trans (congrArg some (tidy_turned hbo (t.ok bo) (Nat.le_trans s02.clk g6))), g5⟩
        simp (disch := first | with_reducible rfl | assumption | omega | rfl | (simp only [go_sem]; first | done | omega)) only [go_sem, ↓reduceIte, reduceCtorEq, Nat.reduceEqDiff, Nat.reduceAdd, Nat.reduceSub, Nat.reduceMul, Nat.reduceDiv, Nat.reduceMod, Nat.reduceLeDiff, Nat.reduceLT, Nat.reduceBEq, Int.reduceEq, Int.reduceBEq, Int.reduceBNe, Int.reduceLT, Int.reduceLE, Int.reduceAdd, Int.reduceSub, Int.reduceNeg, Int.reduceToNat, Int.reducePow, Nat.reducePow, Int.reduceMul, Int.reduceDiv, ↓s_delta_Conflicts_1, hH1, hH2, f21, f2, hne, decide_eq_false hxy, g1, hL, g2, g3, g4]

/-! ### Merge -/
def mergL (e : Both) : List Cg := if e.2.2.1 = true then [e.1] else [e.2.1]
theorem mergL_len (e : Both) : (mergL e).length ≤ 1 := by unfold mergL; split <;> simp
theorem q_Merge_1 {S : Nat → Prop} (Hz H : AHeap) (bo : Nat) (acc : List Cg) (t : OutI S Hz bo acc H) (hl : acc.length ≤ 1000000) (e : Both) :
    ∃ r H', CC F.delta_Merge_1 [cgV e.1, cgV e.2.1, .bool e.2.2.1, .bool e.2.2.2, .pointer (some ⟨bo, 0, none⟩)] H = some (r, H') ∧ OutI S Hz bo (acc ++ mergL e) H' := by
  obtain ⟨x, y, ia, ib⟩ := e
  generalize hH1 : H.push (.cells [.string x.key, .bool x.was, .bool x.is, .string x.before, .string x.after] T.api_Change true) = H1
  have s1 : Still H H1 := by rw [← hH1]; exact (Fr.refl H).push _
  have n1 : H1.n = H.n + 1 := by rw [← hH1]; rfl
  have f1 : H1.f H.n = .cells [.string x.key, .bool x.was, .bool x.is, .string x.before, .string x.after] T.api_Change true := by rw [← hH1]; exact push_f_eq rfl
  generalize hH2 : H1.push (.cells [.string y.key, .bool y.was, .bool y.is, .string y.before, .string y.after] T.api_Change true) = H2
  have s2 : Still H1 H2 := by rw [← hH2]; exact (Fr.refl H1).push _
  have n2 : H2.n = H1.n + 1 := by rw [← hH2]; rfl
  have f2 : H2.f H1.n = .cells [.string y.key, .bool y.was, .bool y.is, .string y.before, .string y.after] T.api_Change true := by rw [← hH2]; exact push_f_eq rfl
  have f21 : H2.f H.n = .cells [.string x.key, .bool x.was, .bool x.is, .string x.before, .string x.after] T.api_Change true := by rw [s2.f (by omega) (fun h => h), f1]
  have s02 : Still H H2 := s1.still.then s2 fun _ _ h => h
  have t2 := t.still s02
  have hbo : bo < H.n := Nat.lt_of_lt_of_le t.lt t.fr.n
  cases ia with
  | true =>
    obtain ⟨a, n, k, a', n', k', H4, H5, g1, g2, g3, g4, g5, g6, _⟩ := t2.app hl x
    generalize hL : H2.push (.cells [.string x.key, .bool x.was, .bool x.is, .string x.before, .string x.after] T.api_Change true) = HL at g2
    refine ⟨.tuple #[], H5, (d_delta_Merge_1 _ _ _ _ _ H (r := (.tuple #[], H5)) ?_).trans (congrArg some (tidy_turned hbo (t.ok bo) (Nat.le_trans s02.clk g6))), g5⟩
    simp (disch := first | with_reducible rfl | assumption | omega | rfl | (simp only [go_sem]; first | done | omega)) only [go_sem, ↓reduceIte, reduceCtorEq, Nat.reduceEqDiff, Nat.reduceAdd, Nat.reduceSub, Nat.reduceMul, Nat.reduceDiv, Nat.reduceMod, Nat.reduceLeDiff, Nat.reduceLT, Nat.reduceBEq, Int.reduceEq, Int.reduceBEq, Int.reduceBNe, Int.reduceLT, Int.reduceLE, Int.reduceAdd, Int.reduceSub, Int.reduceNeg, Int.reduceToNat, Int.reducePow, Nat.reducePow, Int.reduceMul, Int.reduceDiv, ↓s_delta_Merge_1, hH1, hH2, f21, f2, g1, hL, g2, g3, g4]
  | false =>
    obtain ⟨a, n, k, a', n', k', H4, H5, g1, g2, g3, g4, g5, g6, _⟩ := t2.app hl y
    generalize hL : H2.push (.cells [.string y.key, .bool y.was, .bool y.is, .string y.before, .string y.after] T.api_Change true) = HL at g2
    refine ⟨.tuple #[], H5, (d_delta_Merge_1 _ _ _ _ _ H (r := (.tuple #[], H5)) ?_).trans (congrArg some (tidy_turned hbo (t.ok bo) (Nat.le_trans s02.clk g6))), g5⟩
    simp (disch := first | with_reducible rfl | assumption | omega | rfl | (simp only [go_sem]; first | done | omega)) only [go_sem, ↓reduceIte, reduceCtorEq, Nat.reduceEqDiff, Nat.reduceAdd, Nat.reduceSub, Nat.reduceMul, Nat.reduceDiv, Nat.reduceMod, Nat.reduceLeDiff, Nat.reduceLT, Nat.reduceBEq, Int.reduceEq, Int.reduceBEq, Int.reduceBNe, Int.reduceLT, Int.reduceLE, Int.reduceAdd, Int.reduceSub, Int.reduceNeg, Int.reduceToNat, Int.reducePow, Nat.reducePow, Int.reduceMul, Int.reduceDiv, ↓s_delta_Merge_1, hH1, hH2, f21, f2, g1, hL, g2, g3, g4]

/-! ### Together -/
def badB (e : Both) : Bool := (e.1.is != e.2.1.was) || !decide (bl e.1.after = bl e.2.1.before)
def togC (e : Both) : Cg := ⟨e.1.key, e.1.was, e.2.1.is, e.1.before, e.2.1.after⟩
def togL (e : Both) : List Cg := if e.2.2.2 = false then [e.1] else if e.2.2.1 = false then [e.2.1] else if badB e = true then [] else if noneC (togC e) = true then [] else [togC e]
def togF (e : Both) : Bool := !(e.2.2.1 && (e.2.2.2 && badB e))
theorem togL_len (e : Both) : (togL e).length ≤ 1 := by
  unfold togL
  split
  · simp
  · split
    · simp
    · split
      · simp
      · split <;> simp
structure TogI (S : Nat → Prop) (Hz : AHeap) (bo bf : Nat) (acc : List Cg) (fol : Bool) (H : AHeap) : Prop where
  out : OutI S Hz bo acc H
  sf : S bf
  ne : bo ≠ bf
  fl : H.f bf = .cells [.bool fol] T.bool true
theorem TogI.still {S : Nat → Prop} {Hz H H' : AHeap} {bo bf : Nat} {acc : List Cg} {fol : Bool} (t : TogI S Hz bo bf acc fol H) (s : Still H H') : TogI S Hz bo bf acc fol H' :=
  ⟨t.out.still s, t.sf, t.ne, by rw [s.f (Nat.lt_of_lt_of_le (t.out.shi bf t.sf) t.out.fr.n) (fun h => h), t.fl]⟩
theorem q_Tog_1 {S : Nat → Prop} (Hz H : AHeap) (bo bf : Nat) (acc : List Cg) (fol : Bool) (tt : TogI S Hz bo bf acc fol H) (hl : acc.length ≤ 1000000) (e : Both) :
    ∃ r H', CC F.delta_Together_1 [cgV e.1, cgV e.2.1, .bool e.2.2.1, .bool e.2.2.2, .pointer (some ⟨bo, 0, none⟩), .pointer (some ⟨bf, 0, none⟩)] H = some (r, H') ∧ TogI S Hz bo bf (acc ++ togL e) (fol && togF e) H' := by
  have t := tt.out
  obtain ⟨x, y, ia, ib⟩ := e
  generalize hH1 : H.push (.cells [.string x.key, .bool x.was, .bool x.is, .string x.before, .string x.after] T.api_Change true) = H1
  have s1 : Still H H1 := by rw [← hH1]; exact (Fr.refl H).push _
  have n1 : H1.n = H.n + 1 := by rw [← hH1]; rfl
  have f1 : H1.f H.n = .cells [.string x.key, .bool x.was, .bool x.is, .string x.before, .string x.after] T.api_Change true := by rw [← hH1]; exact push_f_eq rfl
  generalize hH2 : H1.push (.cells [.string y.key, .bool y.was, .bool y.is, .string y.before, .string y.after] T.api_Change true) = H2
  have s2 : Still H1 H2 := by rw [← hH2]; exact (Fr.refl H1).push _
  have n2 : H2.n = H1.n + 1 := by rw [← hH2]; rfl
  have f2 : H2.f H1.n = .cells [.string y.key, .bool y.was, .bool y.is, .string y.before, .string y.after] T.api_Change true := by rw [← hH2]; exact push_f_eq rfl
  have f21 : H2.f H.n = .cells [.string x.key, .bool x.was, .bool x.is, .string x.before, .string x.after] T.api_Change true := by rw [s2.f (by omega) (fun h => h), f1]
  have s02 : Still H H2 := s1.still.then s2 fun _ _ h => h
  have t2 := t.still s02
  have hbo : bo < H.n := Nat.lt_of_lt_of_le t.lt t.fr.n
  have hbf := t.shi bf tt.sf
  have hbfn : bf < H.n := Nat.lt_of_lt_of_le hbf t.fr.n
  have tt2 := tt.still s02
  have fin : ∀ (L : List Cg) (G : AHeap), OutI S Hz bo L G → (∀ d, d < Hz.n → d ≠ bo → G.f d = H2.f d) → TogI S Hz bo bf L (fol && true) G := fun L G h1 h2 =>
    ⟨h1, tt.sf, tt.ne, by rw [h2 bf hbf (fun h => tt.ne h.symm), tt2.fl, Bool.and_true]⟩
  cases ib with
  | false =>
    obtain ⟨a, n, k, a', n', k', H4, H5, g1, g2, g3, g4, g5, g6, g7⟩ := t2.app hl x
    generalize hL : H2.push (.cells [.string x.key, .bool x.was, .bool x.is, .string x.before, .string x.after] T.api_Change true) = HL at g2
    refine ⟨.tuple #[], H5, (d_delta_Together_1 _ _ _ _ _ _ H (r := (.tuple #[], H5)) ?_).trans (congrArg some (tidy_turned hbo (t.ok bo) (Nat.le_trans s02.clk g6))), ?_⟩
    · simp (disch := first | with_reducible rfl | assumption | omega | rfl | (simp only [go_sem]; first | done | omega)) only [go_sem, ↓reduceIte, reduceCtorEq, Nat.reduceEqDiff, Nat.reduceAdd, Nat.reduceSub, Nat.reduceMul, Nat.reduceDiv, Nat.reduceMod, Nat.reduceLeDiff, Nat.reduceLT, Nat.reduceBEq, Int.reduceEq, Int.reduceBEq, Int.reduceBNe, Int.reduceLT, Int.reduceLE, Int.reduceAdd, Int.reduceSub, Int.reduceNeg, Int.reduceToNat, Int.reducePow, Nat.reducePow, Int.reduceMul, Int.reduceDiv, ↓s_delta_Together_1, hH1, hH2, f21, f2, g1, hL, g2, g3, g4]
    · rw [show togL (x, y, ia, false) = [x] from rfl, show togF (x, y, ia, false) = true by simp [togF]]
      exact fin _ _ g5 g7
  | true =>
    cases ia with
    | false =>
      obtain ⟨a, n, k, a', n', k', H4, H5, g1, g2, g3, g4, g5, g6, g7⟩ := t2.app hl y
      generalize hL : H2.push (.cells [.string y.key, .bool y.was, .bool y.is, .string y.before, .string y.after] T.api_Change true) = HL at g2
      refine ⟨.tuple #[], H5, (d_delta_Together_1 _ _ _ _ _ _ H (r := (.tuple #[], H5)) ?_).trans (congrArg some (tidy_turned hbo (t.ok bo) (Nat.le_trans s02.clk g6))), ?_⟩
      · simp (disch := first | with_reducible rfl | assumption | omega | rfl | (simp only [go_sem]; first | done | omega)) only [go_sem, ↓reduceIte, reduceCtorEq, Nat.reduceEqDiff, Nat.reduceAdd, Nat.reduceSub, Nat.reduceMul, Nat.reduceDiv, Nat.reduceMod, Nat.reduceLeDiff, Nat.reduceLT, Nat.reduceBEq, Int.reduceEq, Int.reduceBEq, Int.reduceBNe, Int.reduceLT, Int.reduceLE, Int.reduceAdd, Int.reduceSub, Int.reduceNeg, Int.reduceToNat, Int.reducePow, Nat.reducePow, Int.reduceMul, Int.reduceDiv, ↓s_delta_Together_1, hH1, hH2, f21, f2, g1, hL, g2, g3, g4]
      · rw [show togL (x, y, false, true) = [y] from rfl, show togF (x, y, false, true) = true by simp [togF]]
        exact fin _ _ g5 g7
    | true =>
      have bad : badB (x, y, true, true) = true → (∀ K : K, True) → CC F.delta_Together_1 [cgV x, cgV y, .bool true, .bool true, .pointer (some ⟨bo, 0, none⟩), .pointer (some ⟨bf, 0, none⟩)] H = some (.tuple #[], H2.set bf (.cells [.bool false] T.bool true)) → ∃ r H', CC F.delta_Together_1 [cgV x, cgV y, .bool true, .bool true, .pointer (some ⟨bo, 0, none⟩), .pointer (some ⟨bf, 0, none⟩)] H = some (r, H') ∧ TogI S Hz bo bf (acc ++ togL (x, y, true, true)) (fol && togF (x, y, true, true)) H' := by
        intro hb _ hcall
        refine ⟨_, _, hcall, ?_⟩
        rw [show togL (x, y, true, true) = [] by unfold togL; simp [hb], show togF (x, y, true, true) = false by simp [togF, hb], List.append_nil, Bool.and_false]
        exact ⟨t2.other tt.sf tt.ne (Fr.set (Fr.refl H2) _ _ fun _ => rfl), tt.sf, tt.ne, set_f_eq⟩
      have tturn : ∀ X : Value, tidy H (X, H2.set bf (.cells [.bool false] T.bool true)) = (X, H2.set bf (.cells [.bool false] T.bool true)) := fun X => tidy_turned hbfn (t.ok bf) (by rw [set_v_eq]; exact s02.clk)
      generalize hHF : H2.set bf (.cells [.bool false] T.bool true) = HF at bad tturn
      have ffl := tt2.fl
      cases h1 : (x.is != y.was) with
      | true =>
        refine bad (by simp [badB, h1]) (fun _ => trivial) ((d_delta_Together_1 _ _ _ _ _ _ H (r := (.tuple #[], HF)) ?_).trans (congrArg some (tturn _)))
        simp (disch := first | with_reducible rfl | assumption | omega | rfl | (simp only [go_sem]; first | done | omega)) only [go_sem, ↓reduceIte, reduceCtorEq, Nat.reduceEqDiff, Nat.reduceAdd, Nat.reduceSub, Nat.reduceMul, Nat.reduceDiv, Nat.reduceMod, Nat.reduceLeDiff, Nat.reduceLT, Nat.reduceBEq, Int.reduceEq, Int.reduceBEq, Int.reduceBNe, Int.reduceLT, Int.reduceLE, Int.reduceAdd, Int.reduceSub, Int.reduceNeg, Int.reduceToNat, Int.reducePow, Nat.reducePow, Int.reduceMul, Int.reduceDiv, ↓s_delta_Together_1, hH1, hH2, f21, f2, h1, ffl, hHF]
      | false =>
        by_cases h2 : bl x.after = bl y.before
        · have hb : badB (x, y, true, true) = false := by simp [badB, h1, h2]
          generalize hc : togC (x, y, true, true) = c
          have hck : c.key = x.key := by rw [← hc]; rfl
          have hcw : c.was = x.was := by rw [← hc]; rfl
          have hci : c.is = y.is := by rw [← hc]; rfl
          have hcb : c.before = x.before := by rw [← hc]; rfl
          have hca : c.after = y.after := by rw [← hc]; rfl
          generalize hH3 : (H2.push (.cells [.string (mk []), .bool false, .bool false, .string (mk []), .string (mk [])] T.api_Change true)).set H2.n (.cells [.string x.key, .bool x.was, .bool y.is, .string x.before, .string y.after] T.api_Change true) = H3
          have s3 : Still H2 H3 := by rw [← hH3]; exact Fr.set ((Fr.refl H2).push _) _ _ (fun h => by omega)
          have n3 : H3.n = H2.n + 1 := by rw [← hH3]; rfl
          have f3 : H3.f H2.n = .cells [.string x.key, .bool x.was, .bool y.is, .string x.before, .string y.after] T.api_Change true := by rw [← hH3]; exact set_f_eq
          have s03 : Still H H3 := s02.still.then s3 fun _ _ h => h
          have hsame := q_dsame c H3
          rw [show cgV c = .agg #[.string x.key, .bool x.was, .bool y.is, .string x.before, .string y.after] by unfold cgV; rw [hck, hcw, hci, hcb, hca]] at hsame
          have t3 := t.still s03
          have hF : togF (x, y, true, true) = true := by simp [togF, hb]
          cases hn : noneC c with
          | true =>
            rw [hn] at hsame
            refine ⟨.tuple #[], H, ?_, ?_⟩
            · refine pure_of (H' := H3) ?_ (d_delta_Together_1 _ _ _ _ _ _ H) rfl s03
              simp (disch := first | with_reducible rfl | assumption | omega | rfl | (simp only [go_sem]; first | done | omega)) only [go_sem, ↓reduceIte, reduceCtorEq, Nat.reduceEqDiff, Nat.reduceAdd, Nat.reduceSub, Nat.reduceMul, Nat.reduceDiv, Nat.reduceMod, Nat.reduceLeDiff, Nat.reduceLT, Nat.reduceBEq, Int.reduceEq, Int.reduceBEq, Int.reduceBNe, Int.reduceLT, Int.reduceLE, Int.reduceAdd, Int.reduceSub, Int.reduceNeg, Int.reduceToNat, Int.reducePow, Nat.reducePow, Int.reduceMul, Int.reduceDiv, ↓s_delta_Together_1, hH1, hH2, f21, f2, h1, decide_eq_true h2, hH3, f3, enterK_eq hsame]
            · rw [show togL (x, y, true, true) = [] by unfold togL; simp [hb, hc, hn], hF, List.append_nil, Bool.and_true]
              exact tt
          | false =>
            rw [hn] at hsame
            obtain ⟨a, n, k, a', n', k', H4, H5, g1, g2, g3, g4, g5, g6, g7⟩ := t3.app hl c
            rw [hck, hcw, hci, hcb, hca] at g2
            generalize hL : H3.push (.cells [.string x.key, .bool x.was, .bool y.is, .string x.before, .string y.after] T.api_Change true) = HL at g2
            refine ⟨.tuple #[], H5, (d_delta_Together_1 _ _ _ _ _ _ H (r := (.tuple #[], H5)) ?_).trans (congrArg some (tidy_turned hbo (t.ok bo) (Nat.le_trans s03.clk g6))), ?_⟩
            · simp (disch := first | with_reducible rfl | assumption | omega | rfl | (simp only [go_sem]; first | done | omega)) only [go_sem, ↓reduceIte, reduceCtorEq, Nat.reduceEqDiff, Nat.reduceAdd, Nat.reduceSub, Nat.reduceMul, Nat.reduceDiv, Nat.reduceMod, Nat.reduceLeDiff, Nat.reduceLT, Nat.reduceBEq, Int.reduceEq, Int.reduceBEq, Int.reduceBNe, Int.reduceLT, Int.reduceLE, Int.reduceAdd, Int.reduceSub, Int.reduceNeg, Int.reduceToNat, Int.reducePow, Nat.reducePow, Int.reduceMul, Int.reduceDiv, ↓s_delta_Together_1, hH1, hH2, f21, f2, h1, decide_eq_true h2, hH3, f3, enterK_eq hsame, g1, hL, g2, g3, g4]
            · rw [show togL (x, y, true, true) = [c] by unfold togL; simp [hb, hc, hn], hF]
              exact fin _ _ g5 fun d hd hne => by rw [g7 d hd hne, s3.f (by have := t2.fr.n; omega) (fun h => h)]
        · refine bad (by simp [badB, h1, h2]) (fun _ => trivial) ((d_delta_Together_1 _ _ _ _ _ _ H (r := (.tuple #[], HF)) ?_).trans (congrArg some (tturn _)))
          simp (disch := first | with_reducible rfl | assumption | omega | rfl | (simp only [go_sem]; first | done | omega)) only [go_sem, ↓reduceIte, reduceCtorEq, Nat.reduceEqDiff, Nat.reduceAdd, Nat.reduceSub, Nat.reduceMul, Nat.reduceDiv, Nat.reduceMod, Nat.reduceLeDiff, Nat.reduceLT, Nat.reduceBEq, Int.reduceEq, Int.reduceBEq, Int.reduceBNe, Int.reduceLT, Int.reduceLE, Int.reduceAdd, Int.reduceSub, Int.reduceNeg, Int.reduceToNat, Int.reducePow, Nat.reducePow, Int.reduceMul, Int.reduceDiv, ↓s_delta_Together_1, hH1, hH2, f21, f2, h1, decide_eq_false h2, ffl, hHF]

end Go.Proofs.Ytlbieadnfgfhlaa

/-
  Chapter 49: Conflicts, Merge and Together, and the law's words about them.
  Conditions: none. By an AI agent.
-/
set_option maxRecDepth 10000
set_option linter.unusedSimpArgs false
set_option linter.unusedVariables false
namespace Go.Proofs.Ytlbieadnfgfhlaa
open Go Eng

/-- A list of changes that is handed in. -/
structure Arg (H : AHeap) (v : Value) (l : List Cg) : Prop where
  sb : Sb H v l
  lt : ∀ c, blockOf v = some c → c < H.n
theorem Arg.still {H H' : AHeap} {v : Value} {l : List Cg} (t : Arg H v l) (s : Still H H') : Arg H' v l := ⟨t.sb.still s, fun c hc => Nat.lt_of_lt_of_le (t.lt c hc) s.n⟩
theorem Arg.of {H : AHeap} {v : Value} {l : List Cg} (r : Own ECg H T.api_Change v l) : Arg H v l := ⟨Sb.of r, fun c hc => r.blk hc⟩
theorem Arg.nil (H : AHeap) : Arg H (.slice none 0 0) [] := ⟨⟨.inl ⟨rfl, rfl⟩, .inl rfl⟩, fun c hc => by cases hc⟩

def confs (a b : List Cg) : List ByteArray := (mrg a b).flatMap confL
theorem len_flatS {g : Both → List ByteArray} (hg : ∀ e, (g e).length ≤ 1) : ∀ d : List Both, (d.flatMap g).length ≤ d.length
  | [] => by simp
  | e :: d => by
    have h1 := len_flatS hg d
    have h2 := hg e
    rw [List.flatMap_cons, List.length_append, List.length_cons]
    omega

theorem q_Conflicts_bad (a b : List Cg) (va vb : Value) (H : AHeap) (ok : Ok H) (ra : Rd ECg H va a) (rb : Rd ECg H vb b) (hla : a.length ≤ 1000000) (hlb : b.length ≤ 1000000) (hv : ¬ (validC a = true ∧ validC b = true)) :
    CC F.delta_Conflicts [va, vb] H = some (.tuple #[.slice none 0 0, .int .i64 2], H) := by
  have h1 := q_Valid a va H ok ra hla
  have h2 := q_Valid b vb H ok rb hlb
  cases ha : validC a with
  | false =>
    rw [ha] at h1
    apply pure_of _ (d_delta_Conflicts _ _ H) rfl
    rotate_left 2
    · simp (disch := first | with_reducible rfl | assumption | omega | rfl | (simp only [go_sem]; first | done | omega)) only [go_sem, ↓reduceIte, reduceCtorEq, Nat.reduceEqDiff, Nat.reduceAdd, Nat.reduceSub, Nat.reduceMul, Nat.reduceDiv, Nat.reduceMod, Nat.reduceLeDiff, Nat.reduceLT, Nat.reduceBEq, Int.reduceEq, Int.reduceBEq, Int.reduceBNe, Int.reduceLT, Int.reduceLE, Int.reduceAdd, Int.reduceSub, Int.reduceNeg, Int.reduceToNat, Int.reducePow, Nat.reducePow, Int.reduceMul, Int.reduceDiv, ↓s_delta_Conflicts, enterK_eq h1]
      rfl
    · (repeat (first | exact Fr.refl _ | refine Fr.push ?_ _ | refine Fr.set ?_ _ _ (by intro h; first | omega | (simp only [go_sem] at h; omega))))
  | true =>
    cases hb : validC b with
    | true => exact absurd ⟨ha, hb⟩ hv
    | false =>
      rw [ha] at h1
      rw [hb] at h2
      apply pure_of _ (d_delta_Conflicts _ _ H) rfl
      rotate_left 2
      · simp (disch := first | with_reducible rfl | assumption | omega | rfl | (simp only [go_sem]; first | done | omega)) only [go_sem, ↓reduceIte, reduceCtorEq, Nat.reduceEqDiff, Nat.reduceAdd, Nat.reduceSub, Nat.reduceMul, Nat.reduceDiv, Nat.reduceMod, Nat.reduceLeDiff, Nat.reduceLT, Nat.reduceBEq, Int.reduceEq, Int.reduceBEq, Int.reduceBNe, Int.reduceLT, Int.reduceLE, Int.reduceAdd, Int.reduceSub, Int.reduceNeg, Int.reduceToNat, Int.reducePow, Nat.reducePow, Int.reduceMul, Int.reduceDiv, ↓s_delta_Conflicts, enterK_eq h1, enterK_eq h2]
        rfl
      · (repeat (first | exact Fr.refl _ | refine Fr.push ?_ _ | refine Fr.set ?_ _ _ (by intro h; first | omega | (simp only [go_sem] at h; omega))))

theorem q_Conflicts (a b : List Cg) (va vb : Value) (H : AHeap) (ok : Ok H) (ra : Arg H va a) (rb : Arg H vb b) (ha : validC a = true) (hb : validC b = true) :
    ∃ v H', CC F.delta_Conflicts [va, vb] H = some (.tuple #[v, .int .i64 0], H') ∧ Own EStr H' T.string v (confs a b) ∧ Still H H' ∧ New H v := by
  have hla := (valid_all ha).1
  have hlb := (valid_all hb).1
  have h1 := q_Valid a va H ok ra.sb.1 (by omega)
  have h2 := q_Valid b vb H ok rb.sb.1 (by omega)
  rw [ha] at h1
  rw [hb] at h2
  generalize hH1 : H.push (.cells [.slice none 0 0] T.sl_string true) = H1
  have s1 : Still H H1 := by rw [← hH1]; exact (Fr.refl H).push _
  have n1 : H1.n = H.n + 1 := by rw [← hH1]; rfl
  have f1 : H1.f H.n = .cells [.slice none 0 0] T.sl_string true := by rw [← hH1]; exact push_f_eq rfl
  have ok1 := ok.fr s1
  have ra1 := ra.sb.still s1
  have rb1 := rb.sb.still s1
  have t1 : OutS (fun c => c = H.n) H1 H.n [] H1 := ⟨ok1, Fr.refl H1, fun c hc => by omega, rfl, none, 0, 0, f1, .inl ⟨rfl, rfl⟩, fun c hc => by cases hc⟩
  have hml := mrg_len _ a b rfl
  have V : Vis 40000 H1 (fun c => c = H.n) (.func (.func F.delta_Conflicts_1) #[] #[.pointer (some ⟨H.n, 0, none⟩)]) (fun d G => d.length ≤ 40000 ∧ OutS (fun c => c = H.n) H1 H.n (d.flatMap confL) G) := by
    refine ⟨fun d G h => h.2.fr, fun d G G' h s => ⟨h.1, h.2.still s⟩, fun d e G hd h => ?_⟩
    obtain ⟨r, G', hc, t'⟩ := q_Conf_1 H1 G H.n _ h.2 (by have := len_flatS confL_len d; omega) e
    refine ⟨r, G', ⟨by simp; omega, by rw [List.flatMap_append]; simpa using t'⟩, fun k => ?_⟩
    rw [c_delta_Conflicts_1]
    exact enterK_eq hc
  obtain ⟨H2, hboth, _, t2⟩ := q_bothR 40000 H1 _ _ _ V a b va vb ra1 rb1 ⟨by simp, t1⟩ (fun c hc => by have := ra.lt c hc; omega) (fun c hc => by have := rb.lt c hc; omega) (by omega)
  obtain ⟨H3, hx, t3, _⟩ := t1.tidied (X := .tuple #[]) ok1 t2
  rw [hx] at hboth
  obtain ⟨aw, nw, kw, g1, g2, g3⟩ := t3.w
  have s3 : Still H H3 := s1.still.then t3.fr fun c hc h => by omega
  have g2 : Own EStr H3 T.string (.slice aw nw kw) (confs a b) := g2
  obtain ⟨H4, hx4, o4, s4⟩ := any_tidied (P := fun G => Own EStr G T.string (.slice aw nw kw) (confs a b)) (X := .tuple #[.slice aw nw kw, .int .i64 0]) s3 g2 fun hg => row_two g2 hg
  refine ⟨.slice aw nw kw, H4, (d_delta_Conflicts _ _ H (r := (.tuple #[.slice aw nw kw, .int .i64 0], H3)) ?_).trans (congrArg some hx4), o4, s4, fun c hc => by have := g3 c hc; omega⟩
  simp (disch := first | with_reducible rfl | assumption | omega | rfl | (simp only [go_sem]; first | done | omega)) only [go_sem, ↓reduceIte, reduceCtorEq, Nat.reduceEqDiff, Nat.reduceAdd, Nat.reduceSub, Nat.reduceMul, Nat.reduceDiv, Nat.reduceMod, Nat.reduceLeDiff, Nat.reduceLT, Nat.reduceBEq, Int.reduceEq, Int.reduceBEq, Int.reduceBNe, Int.reduceLT, Int.reduceLE, Int.reduceAdd, Int.reduceSub, Int.reduceNeg, Int.reduceToNat, Int.reducePow, Nat.reducePow, Int.reduceMul, Int.reduceDiv, ↓s_delta_Conflicts, enterK_eq h1, enterK_eq h2, hH1, enterK_eq hboth, g1]

/-! ### Merge -/
def merg (a b : List Cg) : List Cg := (mrg a b).flatMap mergL
theorem row_twoR {x : Int} {H H' : AHeap} {v : Value} {l : List Cg} (r : Rd ECg H' v l) (h : gr 9 (.tuple #[v, .int .i64 x]) = true) : Rd ECg H v l := by
  rcases r with h' | ⟨_, a, k, rfl, _⟩ | ⟨b, o, c, rfl, _⟩
  · exact .inl h'
  · exact absurd h (by simp [gr])
  · exact absurd h (by simp [gr])
theorem q_Clip (l : List Cg) (v : Value) (H : AHeap) (o : Own ECg H T.api_Change v l) :
    ∃ v', CC F.slices_Clip_Change [v] H = some (v', H) ∧ Rd ECg H v' l ∧ blockOf v' = blockOf v := by
  have hlen := o.rd.lenS
  have hs : ∃ v', slS T.api_Change 5 v none (some (.int .i64 (l.length : Int))) (some (.int .i64 (l.length : Int))) H = some v' ∧ Rd ECg H v' l ∧ blockOf v' = blockOf v := by
    rcases o with ⟨rfl, rfl⟩ | ⟨rfl, ⟨b, o, s⟩, rfl, hs, hb⟩ | ⟨b, o, c, xs, rfl, hlc, hb, hf, ho, hx⟩
    · exact ⟨.slice none 0 0, rfl, .inl ⟨rfl, rfl⟩, rfl⟩
    · simp only at hs
      subst hs
      exact ⟨.slice (some ⟨b, o, none⟩) 0 0, by simp [slS, lowOf, Eng.bnd], .inr (.inl ⟨rfl, _, _, rfl, rfl⟩), rfl⟩
    · have hmul := Nat.mul_le_mul_right ECg.w hlc
      refine ⟨.slice (some ⟨b, o, none⟩) l.length (2 * l.length), ?_, ?_, rfl⟩
      · have e1 : Eng.bnd ((2 * c + 1) / 2) (.int .i64 (l.length : Int)) = some l.length := by unfold Eng.bnd; simp; omega
        have e2 : Eng.bnd l.length (.int .i64 (l.length : Int)) = some l.length := by unfold Eng.bnd; simp
        have e3 : lowOf l.length none = some 0 := by simp [lowOf]
        unfold slS
        simp only [e1, e2, e3, Option.bind_some, Option.map_some]
        simp
      · by_cases h0 : l = []
        · subst h0; exact .inr (.inl ⟨rfl, _, _, rfl, rfl⟩)
        · exact .inr (.inr ⟨b, o, _, rfl, h0, hb, by rw [hf, cutB_c (by omega), hx]⟩)
  obtain ⟨v', h1, h2, h3⟩ := hs
  have tself : tidy H (v', H) = (v', H) := by unfold tidy; split <;> rfl
  refine ⟨v', (d_slices_Clip_Change _ H (r := (v', H)) ?_).trans (congrArg some tself), h2, h3⟩
  simp (disch := first | with_reducible rfl | assumption | omega | rfl | (simp only [go_sem]; first | done | omega)) only [go_sem, ↓reduceIte, reduceCtorEq, Nat.reduceEqDiff, Nat.reduceAdd, Nat.reduceSub, Nat.reduceMul, Nat.reduceDiv, Nat.reduceMod, Nat.reduceLeDiff, Nat.reduceLT, Nat.reduceBEq, Int.reduceEq, Int.reduceBEq, Int.reduceBNe, Int.reduceLT, Int.reduceLE, Int.reduceAdd, Int.reduceSub, Int.reduceNeg, Int.reduceToNat, Int.reducePow, Nat.reducePow, Int.reduceMul, Int.reduceDiv, ↓s_slices_Clip_Change, hlen, h1]

theorem q_Merge_bad (a b : List Cg) (va vb : Value) (H : AHeap) (ok : Ok H) (ra : Rd ECg H va a) (rb : Rd ECg H vb b) (hla : a.length ≤ 1000000) (hlb : b.length ≤ 1000000) (hv : ¬ (validC a = true ∧ validC b = true)) :
    CC F.delta_Merge [va, vb] H = some (.tuple #[.slice none 0 0, .int .i64 2], H) := by
  have hc := q_Conflicts_bad a b va vb H ok ra rb hla hlb hv
  apply pure_of _ (d_delta_Merge _ _ H) rfl
  rotate_left 2
  · simp (disch := first | with_reducible rfl | assumption | omega | rfl | (simp only [go_sem]; first | done | omega)) only [go_sem, ↓reduceIte, reduceCtorEq, Nat.reduceEqDiff, Nat.reduceAdd, Nat.reduceSub, Nat.reduceMul, Nat.reduceDiv, Nat.reduceMod, Nat.reduceLeDiff, Nat.reduceLT, Nat.reduceBEq, Int.reduceEq, Int.reduceBEq, Int.reduceBNe, Int.reduceLT, Int.reduceLE, Int.reduceAdd, Int.reduceSub, Int.reduceNeg, Int.reduceToNat, Int.reducePow, Nat.reducePow, Int.reduceMul, Int.reduceDiv, ↓s_delta_Merge, enterK_eq hc]
    rfl
  · (repeat (first | exact Fr.refl _ | refine Fr.push ?_ _ | refine Fr.set ?_ _ _ (by intro h; first | omega | (simp only [go_sem] at h; omega))))
theorem q_Merge (a b : List Cg) (va vb : Value) (H : AHeap) (ok : Ok H) (ra : Arg H va a) (rb : Arg H vb b) (ha : validC a = true) (hb : validC b = true) :
    (20000 < (merg a b).length → CC F.delta_Merge [va, vb] H = some (.tuple #[.slice none 0 0, .int .i64 5], H)) ∧
    ((merg a b).length ≤ 20000 → confs a b ≠ [] → CC F.delta_Merge [va, vb] H = some (.tuple #[.slice none 0 0, .int .i64 11], H)) ∧
    ((merg a b).length ≤ 20000 → confs a b = [] → ∃ v H', CC F.delta_Merge [va, vb] H = some (.tuple #[v, .int .i64 0], H') ∧ Rd ECg H' v (merg a b) ∧ Still H H' ∧ New H v ∧ ∀ c, blockOf v = some c → c < H'.n) := by
  have hla := (valid_all ha).1
  have hlb := (valid_all hb).1
  obtain ⟨vc, H0, hcf, oc, s0, _⟩ := q_Conflicts a b va vb H ok ra rb ha hb
  have hlc := oc.rd.lenS
  have n0 : H.n ≤ H0.n := s0.n
  generalize hH1 : H0.push (.cells [.slice none 0 0] T.sl_api_Change true) = H1
  have s1 : Still H0 H1 := by rw [← hH1]; exact (Fr.refl H0).push _
  have n1 : H1.n = H0.n + 1 := by rw [← hH1]; rfl
  have f1 : H1.f H0.n = .cells [.slice none 0 0] T.sl_api_Change true := by rw [← hH1]; exact push_f_eq rfl
  have s01 : Still H H1 := s0.still.then s1 fun _ _ h => h
  have ok1 := ok.fr s01
  have t1 : OutI (fun c => c = H0.n) H1 H0.n [] H1 := ⟨ok1, Fr.refl H1, fun c hc => by omega, rfl, none, 0, 0, f1, .inl ⟨rfl, rfl⟩, fun c hc => by cases hc⟩
  have hml := mrg_len _ a b rfl
  have V : Vis 40000 H1 (fun c => c = H0.n) (.func (.func F.delta_Merge_1) #[] #[.pointer (some ⟨H0.n, 0, none⟩)]) (fun d G => d.length ≤ 40000 ∧ OutI (fun c => c = H0.n) H1 H0.n (d.flatMap mergL) G) := by
    refine ⟨fun d G h => h.2.fr, fun d G G' h s => ⟨h.1, h.2.still s⟩, fun d e G hd h => ?_⟩
    obtain ⟨r, G', hc, t'⟩ := q_Merge_1 H1 G H0.n _ h.2 (by have := len_flat mergL_len d; omega) e
    refine ⟨r, G', ⟨by simp; omega, by rw [List.flatMap_append]; simpa using t'⟩, fun k => ?_⟩
    rw [c_delta_Merge_1]
    exact enterK_eq hc
  obtain ⟨H2, hboth, _, t2⟩ := q_bothR 40000 H1 _ _ _ V a b va vb (ra.sb.still s01) (rb.sb.still s01) ⟨by simp, t1⟩ (fun c hc => by have := ra.lt c hc; omega) (fun c hc => by have := rb.lt c hc; omega) (by omega)
  obtain ⟨H3, hx, t3, _⟩ := t1.tidied (X := .tuple #[]) ok1 t2
  rw [hx] at hboth
  obtain ⟨aw, nw, kw, g1, g2, g3⟩ := t3.w
  have g2 : Own ECg H3 T.api_Change (.slice aw nw kw) (merg a b) := g2
  have s3 : Still H H3 := s01.still.then t3.fr fun c hc h => by omega
  have hls := g2.rd.lenS
  refine ⟨fun hgt => ?_, fun hle hne => ?_, fun hle he => ?_⟩
  · have hgt' : 20000 < ((merg a b).length : Int) := by omega
    refine pure_of (H' := H3) ?_ (d_delta_Merge _ _ H) rfl s3
    simp (disch := first | with_reducible rfl | assumption | omega | rfl | (simp only [go_sem]; first | done | omega)) only [go_sem, ↓reduceIte, reduceCtorEq, Nat.reduceEqDiff, Nat.reduceAdd, Nat.reduceSub, Nat.reduceMul, Nat.reduceDiv, Nat.reduceMod, Nat.reduceLeDiff, Nat.reduceLT, Nat.reduceBEq, Int.reduceEq, Int.reduceBEq, Int.reduceBNe, Int.reduceLT, Int.reduceLE, Int.reduceAdd, Int.reduceSub, Int.reduceNeg, Int.reduceToNat, Int.reducePow, Nat.reducePow, Int.reduceMul, Int.reduceDiv, ↓s_delta_Merge, enterK_eq hcf, hH1, enterK_eq hboth, g1, hls, decide_eq_true hgt']
  · have hgt' : ¬ 20000 < ((merg a b).length : Int) := by omega
    have hpos : 0 < ((confs a b).length : Int) := by have := List.length_pos_iff.2 hne; omega
    refine pure_of (H' := H3) ?_ (d_delta_Merge _ _ H) rfl s3
    simp (disch := first | with_reducible rfl | assumption | omega | rfl | (simp only [go_sem]; first | done | omega)) only [go_sem, ↓reduceIte, reduceCtorEq, Nat.reduceEqDiff, Nat.reduceAdd, Nat.reduceSub, Nat.reduceMul, Nat.reduceDiv, Nat.reduceMod, Nat.reduceLeDiff, Nat.reduceLT, Nat.reduceBEq, Int.reduceEq, Int.reduceBEq, Int.reduceBNe, Int.reduceLT, Int.reduceLE, Int.reduceAdd, Int.reduceSub, Int.reduceNeg, Int.reduceToNat, Int.reducePow, Nat.reducePow, Int.reduceMul, Int.reduceDiv, ↓s_delta_Merge, enterK_eq hcf, hH1, enterK_eq hboth, g1, hls, decide_eq_false hgt', hlc, decide_eq_true hpos]
  · have hgt' : ¬ 20000 < ((merg a b).length : Int) := by omega
    have hpos : ¬ 0 < ((confs a b).length : Int) := by rw [he]; simp
    obtain ⟨v', hclip, r', hb'⟩ := q_Clip (merg a b) _ H3 g2
    obtain ⟨H4, hx4, ⟨r4, b4⟩, s4⟩ := any_tidied (P := fun G => Rd ECg G v' (merg a b) ∧ ∀ c, blockOf v' = some c → c < G.n) (X := .tuple #[v', .int .i64 0]) s3 ⟨r', fun c hc => by rw [hb'] at hc; exact g2.blk hc⟩ fun hg => ⟨row_twoR r' hg, fun c hc => by
      rcases r' with ⟨_, h'⟩ | ⟨_, a, k, h', _⟩ | ⟨b, o, c, h', _⟩
      · rw [h'] at hc; cases hc
      · rw [h'] at hg; exact absurd hg (by simp [gr])
      · rw [h'] at hg; exact absurd hg (by simp [gr])⟩
    refine ⟨v', H4, (d_delta_Merge _ _ H (r := (.tuple #[v', .int .i64 0], H3)) ?_).trans (congrArg some hx4), r4, s4, (fun c hc => by rw [hb'] at hc; have := g3 c hc; omega), b4⟩
    simp (disch := first | with_reducible rfl | assumption | omega | rfl | (simp only [go_sem]; first | done | omega)) only [go_sem, ↓reduceIte, reduceCtorEq, Nat.reduceEqDiff, Nat.reduceAdd, Nat.reduceSub, Nat.reduceMul, Nat.reduceDiv, Nat.reduceMod, Nat.reduceLeDiff, Nat.reduceLT, Nat.reduceBEq, Int.reduceEq, Int.reduceBEq, Int.reduceBNe, Int.reduceLT, Int.reduceLE, Int.reduceAdd, Int.reduceSub, Int.reduceNeg, Int.reduceToNat, Int.reducePow, Nat.reducePow, Int.reduceMul, Int.reduceDiv, ↓s_delta_Merge, enterK_eq hcf, hH1, enterK_eq hboth, g1, hls, decide_eq_false hgt', hlc, decide_eq_false hpos, enterK_eq hclip]

/-! ### Together -/
def togs (a b : List Cg) : List Cg := (mrg a b).flatMap togL
def folS (a b : List Cg) : Bool := (mrg a b).all togF
theorem q_Together_bad (a b : List Cg) (va vb : Value) (H : AHeap) (ok : Ok H) (ra : Rd ECg H va a) (rb : Rd ECg H vb b) (hla : a.length ≤ 1000000) (hlb : b.length ≤ 1000000) (hv : ¬ (validC a = true ∧ validC b = true)) :
    CC F.delta_Together [va, vb] H = some (.tuple #[.slice none 0 0, .int .i64 2], H) := by
  have h1 := q_Valid a va H ok ra hla
  have h2 := q_Valid b vb H ok rb hlb
  cases ha : validC a with
  | false =>
    rw [ha] at h1
    apply pure_of _ (d_delta_Together _ _ H) rfl
    rotate_left 2
    · simp (disch := first | with_reducible rfl | assumption | omega | rfl | (simp only [go_sem]; first | done | omega)) only [go_sem, ↓reduceIte, reduceCtorEq, Nat.reduceEqDiff, Nat.reduceAdd, Nat.reduceSub, Nat.reduceMul, Nat.reduceDiv, Nat.reduceMod, Nat.reduceLeDiff, Nat.reduceLT, Nat.reduceBEq, Int.reduceEq, Int.reduceBEq, Int.reduceBNe, Int.reduceLT, Int.reduceLE, Int.reduceAdd, Int.reduceSub, Int.reduceNeg, Int.reduceToNat, Int.reducePow, Nat.reducePow, Int.reduceMul, Int.reduceDiv, ↓s_delta_Together, enterK_eq h1]
      rfl
    · (repeat (first | exact Fr.refl _ | refine Fr.push ?_ _ | refine Fr.set ?_ _ _ (by intro h; first | omega | (simp only [go_sem] at h; omega))))
  | true =>
    cases hb : validC b with
    | true => exact absurd ⟨ha, hb⟩ hv
    | false =>
      rw [ha] at h1
      rw [hb] at h2
      apply pure_of _ (d_delta_Together _ _ H) rfl
      rotate_left 2
      · simp (disch := first | with_reducible rfl | assumption | omega | rfl | (simp only [go_sem]; first | done | omega)) only [go_sem, ↓reduceIte, reduceCtorEq, Nat.reduceEqDiff, Nat.reduceAdd, Nat.reduceSub, Nat.reduceMul, Nat.reduceDiv, Nat.reduceMod, Nat.reduceLeDiff, Nat.reduceLT, Nat.reduceBEq, Int.reduceEq, Int.reduceBEq, Int.reduceBNe, Int.reduceLT, Int.reduceLE, Int.reduceAdd, Int.reduceSub, Int.reduceNeg, Int.reduceToNat, Int.reducePow, Nat.reducePow, Int.reduceMul, Int.reduceDiv, ↓s_delta_Together, enterK_eq h1, enterK_eq h2]
        rfl
      · (repeat (first | exact Fr.refl _ | refine Fr.push ?_ _ | refine Fr.set ?_ _ _ (by intro h; first | omega | (simp only [go_sem] at h; omega))))
theorem q_Together (a b : List Cg) (va vb : Value) (H : AHeap) (ok : Ok H) (ra : Arg H va a) (rb : Arg H vb b) (ha : validC a = true) (hb : validC b = true) :
    (folS a b = false → CC F.delta_Together [va, vb] H = some (.tuple #[.slice none 0 0, .int .i64 10], H)) ∧
    (folS a b = true → 20000 < (togs a b).length → CC F.delta_Together [va, vb] H = some (.tuple #[.slice none 0 0, .int .i64 5], H)) ∧
    (folS a b = true → (togs a b).length ≤ 20000 → ∃ v H', CC F.delta_Together [va, vb] H = some (.tuple #[v, .int .i64 0], H') ∧ Own ECg H' T.api_Change v (togs a b) ∧ Still H H' ∧ New H v) := by
  have hla := (valid_all ha).1
  have hlb := (valid_all hb).1
  have h1 := q_Valid a va H ok ra.sb.1 (by omega)
  have h2 := q_Valid b vb H ok rb.sb.1 (by omega)
  rw [ha] at h1
  rw [hb] at h2
  generalize hH0 : H.push (.cells [.slice none 0 0] T.sl_api_Change true) = H0
  have s0 : Still H H0 := by rw [← hH0]; exact (Fr.refl H).push _
  have n0 : H0.n = H.n + 1 := by rw [← hH0]; rfl
  have f0 : H0.f H.n = .cells [.slice none 0 0] T.sl_api_Change true := by rw [← hH0]; exact push_f_eq rfl
  generalize hH1 : (H0.push (.cells [.bool false] T.bool true)).set H0.n (.cells [.bool true] T.bool true) = H1
  have s1 : Still H0 H1 := by rw [← hH1]; exact Fr.set ((Fr.refl H0).push _) _ _ (fun h => by omega)
  have n1 : H1.n = H0.n + 1 := by rw [← hH1]; rfl
  have f1 : H1.f H0.n = .cells [.bool true] T.bool true := by rw [← hH1]; exact set_f_eq
  have f10 : H1.f H.n = .cells [.slice none 0 0] T.sl_api_Change true := by rw [s1.f (by omega) (fun h => h), f0]
  have s01 : Still H H1 := s0.still.then s1 fun _ _ h => h
  have ok1 := ok.fr s01
  have t1 : OutI (fun c => c = H.n ∨ c = H0.n) H1 H.n [] H1 := ⟨ok1, Fr.refl H1, fun c hc => by omega, .inl rfl, none, 0, 0, f10, .inl ⟨rfl, rfl⟩, fun c hc => by cases hc⟩
  have gt : TogI (fun c => c = H.n ∨ c = H0.n) H1 H.n H0.n [] true H1 := ⟨t1, .inr rfl, by omega, f1⟩
  have hml := mrg_len _ a b rfl
  have V : Vis 40000 H1 (fun c => c = H.n ∨ c = H0.n) (.func (.func F.delta_Together_1) #[] #[.pointer (some ⟨H.n, 0, none⟩), .pointer (some ⟨H0.n, 0, none⟩)]) (fun d G => d.length ≤ 40000 ∧ TogI (fun c => c = H.n ∨ c = H0.n) H1 H.n H0.n (d.flatMap togL) (d.all togF) G) := by
    refine ⟨fun d G h => h.2.out.fr, fun d G G' h s => ⟨h.1, h.2.still s⟩, fun d e G hd h => ?_⟩
    obtain ⟨r, G', hc, t'⟩ := q_Tog_1 H1 G H.n H0.n _ _ h.2 (by have := len_flat togL_len d; omega) e
    refine ⟨r, G', ⟨by simp; omega, by rw [List.flatMap_append, List.all_append]; simpa using t'⟩, fun k => ?_⟩
    rw [c_delta_Together_1]
    exact enterK_eq hc
  obtain ⟨H2, hboth, _, t2⟩ := q_bothR 40000 H1 _ _ _ V a b va vb (ra.sb.still s01) (rb.sb.still s01) ⟨by simp, gt⟩ (fun c hc => by have := ra.lt c hc; omega) (fun c hc => by have := rb.lt c hc; omega) (by omega)
  obtain ⟨H3, hx, t3, hsame⟩ := t1.tidied (X := .tuple #[]) ok1 t2.out
  rw [hx] at hboth
  have ffl : H3.f H0.n = .cells [.bool (folS a b)] T.bool true := by rw [hsame H0.n (by omega)]; exact t2.fl
  obtain ⟨aw, nw, kw, g1, g2, g3⟩ := t3.w
  have g2 : Own ECg H3 T.api_Change (.slice aw nw kw) (togs a b) := g2
  have s3 : Still H H3 := s01.still.then t3.fr fun c hc h => by omega
  have hls := g2.rd.lenS
  clear V t1 gt
  rw [n0] at hH1 hboth ffl
  refine ⟨fun hf => ?_, fun hf hgt => ?_, fun hf hle => ?_⟩
  · rw [hf] at ffl
    refine pure_of (H' := H3) ?_ (d_delta_Together _ _ H) rfl s3
    simp (disch := first | with_reducible rfl | assumption | omega | rfl | (simp only [go_sem]; first | done | omega)) only [go_sem, ↓reduceIte, reduceCtorEq, Nat.reduceEqDiff, Nat.reduceAdd, Nat.reduceSub, Nat.reduceMul, Nat.reduceDiv, Nat.reduceMod, Nat.reduceLeDiff, Nat.reduceLT, Nat.reduceBEq, Int.reduceEq, Int.reduceBEq, Int.reduceBNe, Int.reduceLT, Int.reduceLE, Int.reduceAdd, Int.reduceSub, Int.reduceNeg, Int.reduceToNat, Int.reducePow, Nat.reducePow, Int.reduceMul, Int.reduceDiv, ↓s_delta_Together, enterK_eq h1, enterK_eq h2, hH0, hH1, enterK_eq hboth, ffl]
  · have hgt' : 20000 < ((togs a b).length : Int) := by omega
    rw [hf] at ffl
    refine pure_of (H' := H3) ?_ (d_delta_Together _ _ H) rfl s3
    simp (disch := first | with_reducible rfl | assumption | omega | rfl | (simp only [go_sem]; first | done | omega)) only [go_sem, ↓reduceIte, reduceCtorEq, Nat.reduceEqDiff, Nat.reduceAdd, Nat.reduceSub, Nat.reduceMul, Nat.reduceDiv, Nat.reduceMod, Nat.reduceLeDiff, Nat.reduceLT, Nat.reduceBEq, Int.reduceEq, Int.reduceBEq, Int.reduceBNe, Int.reduceLT, Int.reduceLE, Int.reduceAdd, Int.reduceSub, Int.reduceNeg, Int.reduceToNat, Int.reducePow, Nat.reducePow, Int.reduceMul, Int.reduceDiv, ↓s_delta_Together, enterK_eq h1, enterK_eq h2, hH0, hH1, enterK_eq hboth, ffl, g1, hls, decide_eq_true hgt']
  · have hgt' : ¬ 20000 < ((togs a b).length : Int) := by omega
    rw [hf] at ffl
    obtain ⟨H4, hx4, o4, s4⟩ := any_tidied (P := fun G => Own ECg G T.api_Change (.slice aw nw kw) (togs a b)) (X := .tuple #[.slice aw nw kw, .int .i64 0]) s3 g2 fun hg => row_two g2 hg
    refine ⟨.slice aw nw kw, H4, (d_delta_Together _ _ H (r := (.tuple #[.slice aw nw kw, .int .i64 0], H3)) ?_).trans (congrArg some hx4), o4, s4, fun c hc => by have := g3 c hc; omega⟩
    simp (disch := first | with_reducible rfl | assumption | omega | rfl | (simp only [go_sem]; first | done | omega)) only [go_sem, ↓reduceIte, reduceCtorEq, Nat.reduceEqDiff, Nat.reduceAdd, Nat.reduceSub, Nat.reduceMul, Nat.reduceDiv, Nat.reduceMod, Nat.reduceLeDiff, Nat.reduceLT, Nat.reduceBEq, Int.reduceEq, Int.reduceBEq, Int.reduceBNe, Int.reduceLT, Int.reduceLE, Int.reduceAdd, Int.reduceSub, Int.reduceNeg, Int.reduceToNat, Int.reducePow, Nat.reducePow, Int.reduceMul, Int.reduceDiv, ↓s_delta_Together, enterK_eq h1, enterK_eq h2, hH0, hH1, enterK_eq hboth, ffl, g1, hls, decide_eq_false hgt']

/-! ### The law's words -/
theorem gives_nil (e : Int) (H : AHeap) : CC F.law_gives [.slice none 0 0, .int .i64 e, .slice none 0 0, .int .i64 e] H = some (.bool true, H) := q_gives [] _ _ e H (.inl ⟨rfl, rfl⟩) (.inl ⟨rfl, rfl⟩) (by simp)
theorem q_togethers_no (va vb : Value) (e : Int) (H : AHeap) (h : CC F.delta_Together [va, vb] H = some (.tuple #[.slice none 0 0, .int .i64 e], H)) : CC F.law_togethers [va, vb, .slice none 0 0, .int .i64 e] H = some (.bool true, H) := by
  have hg := gives_nil e H
  apply pure_of _ (d_law_togethers _ _ _ _ H) rfl
  rotate_left 2
  · simp (disch := first | with_reducible rfl | assumption | omega | rfl | (simp only [go_sem]; first | done | omega)) only [go_sem, ↓reduceIte, reduceCtorEq, Nat.reduceEqDiff, Nat.reduceAdd, Nat.reduceSub, Nat.reduceMul, Nat.reduceDiv, Nat.reduceMod, Nat.reduceLeDiff, Nat.reduceLT, Nat.reduceBEq, Int.reduceEq, Int.reduceBEq, Int.reduceBNe, Int.reduceLT, Int.reduceLE, Int.reduceAdd, Int.reduceSub, Int.reduceNeg, Int.reduceToNat, Int.reducePow, Nat.reducePow, Int.reduceMul, Int.reduceDiv, ↓s_law_togethers, enterK_eq h, enterK_eq hg]
    rfl
  · (repeat (first | exact Fr.refl _ | refine Fr.push ?_ _ | refine Fr.set ?_ _ _ (by intro h; first | omega | (simp only [go_sem] at h; omega))))
theorem q_merges_no (va vb : Value) (e : Int) (H : AHeap) (h : CC F.delta_Merge [va, vb] H = some (.tuple #[.slice none 0 0, .int .i64 e], H)) : CC F.law_merges [va, vb, .slice none 0 0, .int .i64 e] H = some (.bool true, H) := by
  have hg := gives_nil e H
  apply pure_of _ (d_law_merges _ _ _ _ H) rfl
  rotate_left 2
  · simp (disch := first | with_reducible rfl | assumption | omega | rfl | (simp only [go_sem]; first | done | omega)) only [go_sem, ↓reduceIte, reduceCtorEq, Nat.reduceEqDiff, Nat.reduceAdd, Nat.reduceSub, Nat.reduceMul, Nat.reduceDiv, Nat.reduceMod, Nat.reduceLeDiff, Nat.reduceLT, Nat.reduceBEq, Int.reduceEq, Int.reduceBEq, Int.reduceBNe, Int.reduceLT, Int.reduceLE, Int.reduceAdd, Int.reduceSub, Int.reduceNeg, Int.reduceToNat, Int.reducePow, Nat.reducePow, Int.reduceMul, Int.reduceDiv, ↓s_law_merges, enterK_eq h, enterK_eq hg]
    rfl
  · (repeat (first | exact Fr.refl _ | refine Fr.push ?_ _ | refine Fr.set ?_ _ _ (by intro h; first | omega | (simp only [go_sem] at h; omega))))
theorem q_reverses_no (va : Value) (e : Int) (H : AHeap) (h : CC F.delta_Reverse [va] H = some (.tuple #[.slice none 0 0, .int .i64 e], H)) : CC F.law_reverses [va, .slice none 0 0, .int .i64 e] H = some (.bool true, H) := by
  have hg := gives_nil e H
  apply pure_of _ (d_law_reverses _ _ _ H) rfl
  rotate_left 2
  · simp (disch := first | with_reducible rfl | assumption | omega | rfl | (simp only [go_sem]; first | done | omega)) only [go_sem, ↓reduceIte, reduceCtorEq, Nat.reduceEqDiff, Nat.reduceAdd, Nat.reduceSub, Nat.reduceMul, Nat.reduceDiv, Nat.reduceMod, Nat.reduceLeDiff, Nat.reduceLT, Nat.reduceBEq, Int.reduceEq, Int.reduceBEq, Int.reduceBNe, Int.reduceLT, Int.reduceLE, Int.reduceAdd, Int.reduceSub, Int.reduceNeg, Int.reduceToNat, Int.reducePow, Nat.reducePow, Int.reduceMul, Int.reduceDiv, ↓s_law_reverses, enterK_eq h, enterK_eq hg]
    rfl
  · (repeat (first | exact Fr.refl _ | refine Fr.push ?_ _ | refine Fr.set ?_ _ _ (by intro h; first | omega | (simp only [go_sem] at h; omega))))
theorem q_togethers (va vb w v : Value) (l : List Cg) (H H' : AHeap) (h : CC F.delta_Together [va, vb] H = some (.tuple #[v, .int .i64 0], H')) (o : Rd ECg H' v l) (s : Still H H') (hw : Rd ECg H w l) (hl : l.length ≤ 1000000) : CC F.law_togethers [va, vb, w, .int .i64 0] H = some (.bool true, H) := by
  have hg := q_gives l v w 0 H' o (hw.still s) hl
  apply pure_of _ (d_law_togethers _ _ _ _ H) rfl
  rotate_left 2
  · simp (disch := first | with_reducible rfl | assumption | omega | rfl | (simp only [go_sem]; first | done | omega)) only [go_sem, ↓reduceIte, reduceCtorEq, Nat.reduceEqDiff, Nat.reduceAdd, Nat.reduceSub, Nat.reduceMul, Nat.reduceDiv, Nat.reduceMod, Nat.reduceLeDiff, Nat.reduceLT, Nat.reduceBEq, Int.reduceEq, Int.reduceBEq, Int.reduceBNe, Int.reduceLT, Int.reduceLE, Int.reduceAdd, Int.reduceSub, Int.reduceNeg, Int.reduceToNat, Int.reducePow, Nat.reducePow, Int.reduceMul, Int.reduceDiv, ↓s_law_togethers, enterK_eq h, enterK_eq hg]
    rfl
  · exact s
theorem q_merges (va vb w v : Value) (l : List Cg) (H H' : AHeap) (h : CC F.delta_Merge [va, vb] H = some (.tuple #[v, .int .i64 0], H')) (o : Rd ECg H' v l) (s : Still H H') (hw : Rd ECg H w l) (hl : l.length ≤ 1000000) : CC F.law_merges [va, vb, w, .int .i64 0] H = some (.bool true, H) := by
  have hg := q_gives l v w 0 H' o (hw.still s) hl
  apply pure_of _ (d_law_merges _ _ _ _ H) rfl
  rotate_left 2
  · simp (disch := first | with_reducible rfl | assumption | omega | rfl | (simp only [go_sem]; first | done | omega)) only [go_sem, ↓reduceIte, reduceCtorEq, Nat.reduceEqDiff, Nat.reduceAdd, Nat.reduceSub, Nat.reduceMul, Nat.reduceDiv, Nat.reduceMod, Nat.reduceLeDiff, Nat.reduceLT, Nat.reduceBEq, Int.reduceEq, Int.reduceBEq, Int.reduceBNe, Int.reduceLT, Int.reduceLE, Int.reduceAdd, Int.reduceSub, Int.reduceNeg, Int.reduceToNat, Int.reducePow, Nat.reducePow, Int.reduceMul, Int.reduceDiv, ↓s_law_merges, enterK_eq h, enterK_eq hg]
    rfl
  · exact s
theorem q_reverses (va w v : Value) (l : List Cg) (H H' : AHeap) (h : CC F.delta_Reverse [va] H = some (.tuple #[v, .int .i64 0], H')) (o : Rd ECg H' v l) (s : Still H H') (hw : Rd ECg H w l) (hl : l.length ≤ 1000000) : CC F.law_reverses [va, w, .int .i64 0] H = some (.bool true, H) := by
  have hg := q_gives l v w 0 H' o (hw.still s) hl
  apply pure_of _ (d_law_reverses _ _ _ H) rfl
  rotate_left 2
  · simp (disch := first | with_reducible rfl | assumption | omega | rfl | (simp only [go_sem]; first | done | omega)) only [go_sem, ↓reduceIte, reduceCtorEq, Nat.reduceEqDiff, Nat.reduceAdd, Nat.reduceSub, Nat.reduceMul, Nat.reduceDiv, Nat.reduceMod, Nat.reduceLeDiff, Nat.reduceLT, Nat.reduceBEq, Int.reduceEq, Int.reduceBEq, Int.reduceBNe, Int.reduceLT, Int.reduceLE, Int.reduceAdd, Int.reduceSub, Int.reduceNeg, Int.reduceToNat, Int.reducePow, Nat.reducePow, Int.reduceMul, Int.reduceDiv, ↓s_law_reverses, enterK_eq h, enterK_eq hg]
    rfl
  · exact s

end Go.Proofs.Ytlbieadnfgfhlaa

/-
  Chapter 49: deltas in plain words.
  Conditions: none. By an AI agent.
-/
set_option maxRecDepth 10000
set_option linter.unusedSimpArgs false
set_option linter.unusedVariables false
namespace Go.Proofs.Ytlbieadnfgfhlaa
open Go Eng

/-! ### Lists of changes as functions of the key -/
theorem srtC_ext : ∀ {a b : List Cg} (_ : SrtC a) (_ : SrtC b), (∀ k, findC a k = findC b k) → a = b
  | [], [], _, _, _ => rfl
  | [], y :: b, _, _, h => by have := h y.key; rw [findC_cons, if_pos rfl] at this; cases this
  | x :: a, [], _, _, h => by have := h x.key; rw [findC_cons, if_pos rfl] at this; cases this
  | x :: a, y :: b, ha, hb, h => by
    obtain ⟨hx, ha'⟩ := List.pairwise_cons.1 ha
    obtain ⟨hy, hb'⟩ := List.pairwise_cons.1 hb
    have h1 : findC (y :: b) x.key = some x := by rw [← h, findC_cons, if_pos rfl]
    have h2 : findC (x :: a) y.key = some y := by rw [h, findC_cons, if_pos rfl]
    have e : x = y := by
      rcases List.mem_cons.1 (findC_some h1).1 with h3 | h3
      · exact h3
      · rcases List.mem_cons.1 (findC_some h2).1 with h4 | h4
        · exact h4.symm
        · have := cmpS_trans (hx y h4) (hy x h3)
          rw [cmpS_self] at this
          omega
    subst e
    rw [srtC_ext ha' hb' fun k => ?_]
    have h5 := h k
    rw [findC_cons, findC_cons] at h5
    by_cases hk : x.key = k
    · have n1 : findC a k = none := findC_none fun c hc e => by have := hx c hc; rw [e, ← hk, cmpS_self] at this; omega
      have n2 : findC b k = none := findC_none fun c hc e => by have := hy c hc; rw [e, ← hk, cmpS_self] at this; omega
      rw [n1, n2]
    · rw [if_neg hk, if_neg hk] at h5
      exact h5
/-- What is given for each of some keys. -/
theorem flat_srt {ks : List ByteArray} (hs : SrtK ks) {G : ByteArray → List Cg} (hg : ∀ k ∈ ks, ∀ c ∈ G k, c.key = k) (hl : ∀ k ∈ ks, (G k).length ≤ 1) : SrtC (ks.flatMap G) := by
  induction ks with
  | nil => exact List.Pairwise.nil
  | cons k ks ih =>
    obtain ⟨h1, h2⟩ := List.pairwise_cons.1 hs
    rw [List.flatMap_cons]
    refine List.pairwise_append.2 ⟨?_, ih h2 (fun j hj => hg j (List.mem_cons_of_mem _ hj)) fun j hj => hl j (List.mem_cons_of_mem _ hj), fun x hx y hy => ?_⟩
    · have := hl k (by simp)
      match h : G k with
      | [] => exact List.Pairwise.nil
      | [c] => exact List.pairwise_singleton _ _
      | _ :: _ :: _ => rw [h] at this; simp at this
    · obtain ⟨j, hj, hy⟩ := List.mem_flatMap.1 hy
      rw [hg k (by simp) x hx, hg j (List.mem_cons_of_mem _ hj) y hy]
      exact h1 j hj
theorem flat_find {ks : List ByteArray} (hs : SrtK ks) {G : ByteArray → List Cg} (hg : ∀ k ∈ ks, ∀ c ∈ G k, c.key = k) (k : ByteArray) : (k ∈ ks → findC (ks.flatMap G) k = (G k).head?) ∧ (¬ k ∈ ks → findC (ks.flatMap G) k = none) := by
  induction ks with
  | nil => exact ⟨fun h => (by cases h), fun _ => rfl⟩
  | cons j ks ih =>
    obtain ⟨h1, h2⟩ := List.pairwise_cons.1 hs
    obtain ⟨i1, i2⟩ := ih h2 fun i hi => hg i (List.mem_cons_of_mem _ hi)
    rw [List.flatMap_cons]
    unfold findC at i1 i2 ⊢
    rw [List.find?_append]
    by_cases hk : k = j
    · subst hk
      have hn : ¬ k ∈ ks := fun h => by have := h1 k h; rw [cmpS_self] at this; omega
      refine ⟨fun _ => ?_, fun h => absurd List.mem_cons_self h⟩
      rw [i2 hn]
      match h : G k with
      | [] => rfl
      | c :: l =>
        have := hg k (by simp) c (by rw [h]; simp)
        rw [List.find?_cons_of_pos (by simpa using this)]
        rfl
    · have e : (G j).find? (fun c => decide (c.key = k)) = none := by
        rw [List.find?_eq_none]
        intro c hc
        have := hg j (by simp) c hc
        simp [this]
        exact fun h => hk h.symm
      rw [e]
      refine ⟨fun h => ?_, fun h => ?_⟩
      · rcases List.mem_cons.1 h with h | h
        · exact absurd h hk
        · rw [i1 h]; rfl
      · rw [i2 fun h' => h (List.mem_cons_of_mem _ h')]; rfl

/-! ### The delta from one map to another one, key by key -/
def mk5 (k : ByteArray) (X Y : Option ByteArray) : Cg := ⟨k, X.isSome, Y.isSome, X.getD (mk []), Y.getD (mk [])⟩
def dl (k : ByteArray) (X Y : Option ByteArray) : Option Cg := if X = Y then none else some (mk5 k X Y)
theorem none_mk5 (k : ByteArray) (X Y : Option ByteArray) : noneC (mk5 k X Y) = true ↔ X = Y := by
  unfold noneC mk5
  simp only [Bool.and_eq_true, beq_iff_eq, decide_eq_true_iff]
  constructor
  · rintro ⟨h1, h2⟩
    have h2 := bl_inj h2
    cases X <;> cases Y <;> simp_all
  · rintro rfl
    exact ⟨rfl, rfl⟩
theorem mkc_mk5 (a b : List Pr) (k : ByteArray) : mkc a b k = mk5 k (val a k) (val b k) := rfl
theorem mkcL_dl (a b : List Pr) (k : ByteArray) : mkcL a b k = (dl k (val a k) (val b k)).toList := by
  unfold mkcL dl
  rw [mkc_mk5]
  by_cases h : val a k = val b k
  · rw [if_pos ((none_mk5 _ _ _).2 h), if_pos h]; rfl
  · rw [if_neg fun h' => h ((none_mk5 _ _ _).1 h'), if_neg h]; rfl
theorem dl_key {k : ByteArray} {X Y : Option ByteArray} {c : Cg} (h : dl k X Y = some c) : c = mk5 k X Y ∧ X ≠ Y := by
  unfold dl at h
  split at h
  · cases h
  · rename_i hn; cases h; exact ⟨rfl, hn⟩
theorem mem_mkcL_key {a b : List Pr} {k : ByteArray} {c : Cg} (h : c ∈ mkcL a b k) : c.key = k := by rw [(mem_mkcL h).1]; rfl
theorem delta_srt {a b : List Pr} (ha : Srt a) (hb : Srt b) : SrtC (deltaOf a b) := by
  obtain ⟨h1, h2, h3⟩ := deltaOf_keys ha hb
  rw [h1]
  exact srt_keys h2
theorem delta_find {a b : List Pr} (ha : Srt a) (hb : Srt b) (k : ByteArray) : findC (deltaOf a b) k = dl k (val a k) (val b k) := by
  obtain ⟨h1, h2, h3⟩ := deltaOf_keys ha hb
  obtain ⟨f1, f2⟩ := flat_find h2 (G := mkcL a b) (fun j _ c hc => mem_mkcL_key hc) k
  rw [h1]
  by_cases h : k ∈ mkeys (a.map ofC) (b.map ofC)
  · rw [f1 h, mkcL_dl]
    cases dl k (val a k) (val b k) <;> rfl
  · rw [f2 h]
    rw [h3] at h
    have e1 : val a k = none := by cases hv : val a k with | none => rfl | some v => rw [hv] at h; simp at h
    have e2 : val b k = none := by cases hv : val b k with | none => rfl | some v => rw [hv] at h; simp at h
    rw [e1, e2]
    rfl

/-! ### Merged lists, key by key -/
theorem mkeys_mem {a b : List Cg} (ha : SrtC a) (hb : SrtC b) (k : ByteArray) : k ∈ mkeys a b ↔ findC a k ≠ none ∨ findC b k ≠ none := by
  rw [(mrg_spec _ a b rfl ha hb).1 k]
  have e : ∀ {l : List Cg}, SrtC l → ((∃ x ∈ l, x.key = k) ↔ findC l k ≠ none) := fun {l} hl => by
    constructor
    · rintro ⟨x, hx, rfl⟩; rw [findC_mem hl hx]; simp
    · intro h
      cases hf : findC l k with
      | none => exact absurd hf h
      | some c => exact ⟨c, (findC_some hf).1, (findC_some hf).2⟩
  rw [e ha, e hb]
theorem mrg_flat {β : Type} {a b : List Cg} (ha : SrtC a) (hb : SrtC b) (g : Both → List β) : (mrg a b).flatMap g = (mkeys a b).flatMap fun k => g (mkB (findC a k) (findC b k)) := by
  obtain ⟨_, _, h3⟩ := mrg_spec _ a b rfl ha hb
  conv => lhs; rw [h3]
  rw [List.flatMap_map]
theorem mrg_srt {a b : List Cg} (ha : SrtC a) (hb : SrtC b) : SrtK (mkeys a b) := (mrg_spec _ a b rfl ha hb).2.1
theorem mrg_all {a b : List Cg} (ha : SrtC a) (hb : SrtC b) (p : Both → Bool) (h : ∀ k, k ∈ mkeys a b → p (mkB (findC a k) (findC b k)) = true) : (mrg a b).all p = true := by
  obtain ⟨_, _, h3⟩ := mrg_spec _ a b rfl ha hb
  rw [h3, List.all_map, List.all_eq_true]
  exact h

/-- Two that follow each other are together the one from the first to the third. -/
theorem tog_dl (k : ByteArray) (X Y Z : Option ByteArray) (h : dl k X Y ≠ none ∨ dl k Y Z ≠ none) : togL (mkB (dl k X Y) (dl k Y Z)) = (dl k X Z).toList ∧ togF (mkB (dl k X Y) (dl k Y Z)) = true := by
  by_cases h1 : X = Y
  · subst h1
    have e1 : dl k X X = none := by unfold dl; rw [if_pos rfl]
    rw [e1] at h ⊢
    by_cases h2 : X = Z
    · subst h2; rw [e1] at h; simp at h
    · have e2 : dl k X Z = some (mk5 k X Z) := by unfold dl; rw [if_neg h2]
      rw [e2]
      exact ⟨rfl, rfl⟩
  · have e1 : dl k X Y = some (mk5 k X Y) := by unfold dl; rw [if_neg h1]
    rw [e1]
    by_cases h2 : Y = Z
    · subst h2
      have e2 : dl k Y Y = none := by unfold dl; rw [if_pos rfl]
      rw [e2, e1]
      exact ⟨rfl, rfl⟩
    · have e2 : dl k Y Z = some (mk5 k Y Z) := by unfold dl; rw [if_neg h2]
      rw [e2]
      have hb : badB (mk5 k X Y, mk5 k Y Z, true, true) = false := by simp [badB, mk5]
      have hc : togC (mk5 k X Y, mk5 k Y Z, true, true) = mk5 k X Z := rfl
      refine ⟨?_, by simp [mkB, togF, hb]⟩
      show togL (mk5 k X Y, mk5 k Y Z, true, true) = _
      unfold togL dl
      simp only [hb, hc, Bool.true_eq_false, Bool.false_eq_true, if_false]
      by_cases h3 : X = Z
      · rw [if_pos ((none_mk5 _ _ _).2 h3), if_pos h3]; rfl
      · rw [if_neg fun h' => h3 ((none_mk5 _ _ _).1 h'), if_neg h3]; rfl
theorem togs_delta {x y z : List Pr} (hx : Srt x) (hy : Srt y) (hz : Srt z) : togs (deltaOf x y) (deltaOf y z) = deltaOf x z ∧ folS (deltaOf x y) (deltaOf y z) = true := by
  have s1 := delta_srt hx hy
  have s2 := delta_srt hy hz
  have hm := mkeys_mem s1 s2
  have key : ∀ k, k ∈ mkeys (deltaOf x y) (deltaOf y z) → togL (mkB (findC (deltaOf x y) k) (findC (deltaOf y z) k)) = (dl k (val x k) (val z k)).toList ∧ togF (mkB (findC (deltaOf x y) k) (findC (deltaOf y z) k)) = true := fun k hk => by
    have h := (hm k).1 hk
    rw [delta_find hx hy, delta_find hy hz] at h ⊢
    exact tog_dl k _ _ _ h
  have hg : ∀ k ∈ mkeys (deltaOf x y) (deltaOf y z), ∀ c ∈ togL (mkB (findC (deltaOf x y) k) (findC (deltaOf y z) k)), c.key = k := fun k hk c hc => by
    rw [(key k hk).1] at hc
    cases hd : dl k (val x k) (val z k) with
    | none => rw [hd] at hc; cases hc
    | some d => rw [hd] at hc; rw [List.mem_singleton.1 hc, (dl_key hd).1]; rfl
  refine ⟨?_, mrg_all s1 s2 togF fun k hk => (key k hk).2⟩
  unfold togs
  rw [mrg_flat s1 s2]
  refine srtC_ext (flat_srt (mrg_srt s1 s2) hg fun k hk => ?_) (delta_srt hx hz) fun k => ?_
  · rw [(key k hk).1]; cases dl k (val x k) (val z k) <;> simp
  · obtain ⟨f1, f2⟩ := flat_find (mrg_srt s1 s2) hg k
    rw [delta_find hx hz]
    by_cases hk : k ∈ mkeys (deltaOf x y) (deltaOf y z)
    · rw [f1 hk, (key k hk).1]
      cases dl k (val x k) (val z k) <;> rfl
    · rw [f2 hk]
      rw [hm, delta_find hx hy, delta_find hy hz] at hk
      have e1 : val x k = val y k := by
        refine Classical.byContradiction fun h => hk (.inl ?_)
        unfold dl; rw [if_neg h]; simp
      have e2 : val y k = val z k := by
        refine Classical.byContradiction fun h => hk (.inr ?_)
        unfold dl; rw [if_neg h]; simp
      unfold dl
      rw [if_pos (e1.trans e2)]
theorem delta_self {x : List Pr} (hx : Srt x) : deltaOf x x = [] := by
  refine srtC_ext (delta_srt hx hx) List.Pairwise.nil fun k => ?_
  rw [delta_find hx hx]
  unfold dl
  rw [if_pos rfl]
  rfl

/-! ### The reverse -/
theorem find_rev (l : List Cg) (k : ByteArray) : findC (l.map revC) k = (findC l k).map revC := by
  induction l with
  | nil => rfl
  | cons c l ih =>
    rw [List.map_cons, findC_cons, findC_cons, ih]
    show (if c.key = k then _ else _) = _
    split <;> rfl
theorem srt_rev {l : List Cg} (h : SrtC l) : SrtC (l.map revC) := List.pairwise_map.2 h
theorem rev_delta {x y : List Pr} (hx : Srt x) (hy : Srt y) : (deltaOf x y).map revC = deltaOf y x := by
  refine srtC_ext (srt_rev (delta_srt hx hy)) (delta_srt hy hx) fun k => ?_
  rw [find_rev, delta_find hx hy, delta_find hy hx]
  unfold dl
  by_cases h : val x k = val y k
  · rw [if_pos h, if_pos h.symm]; rfl
  · rw [if_neg h, if_neg fun e => h e.symm]; rfl

/-! ### Fits -/
theorem mem_delta {x y : List Pr} (hx : Srt x) (hy : Srt y) {c : Cg} (h : c ∈ deltaOf x y) : c = mk5 c.key (val x c.key) (val y c.key) ∧ val x c.key ≠ val y c.key := by
  have h1 := findC_mem (delta_srt hx hy) h
  rw [delta_find hx hy] at h1
  exact dl_key h1
theorem fit_mk5 {x : List Pr} {c : Cg} {Y : Option ByteArray} (h : c = mk5 c.key (val x c.key) Y) : fit1 x c = true := by
  unfold fit1
  have h1 : c.was = (val x c.key).isSome := by rw [h]; rfl
  have h2 : c.before = (val x c.key).getD (mk []) := by rw [h]; rfl
  rw [h1, h2]
  simp
theorem fits_delta {x y : List Pr} (hx : Srt x) (hy : Srt y) : fitsC x (deltaOf x y) = true := List.all_eq_true.2 fun c hc => fit_mk5 (mem_delta hx hy hc).1

/-! ### Apply -/
theorem val_delE {m : List Pr} (hs : Srt m) {k : ByteArray} (hk : chk k [] = 0) (j : ByteArray) : val (delE m k) j = if k = j then none else val m j := by
  have he := eff_delete hs k
  unfold delE
  rw [if_pos hk]
  by_cases hkj : k = j
  · subst hkj
    rw [if_pos rfl]
    cases h : isP m k (posP m k) with
    | true => rw [h] at he; rw [if_pos rfl] at he ⊢; exact he.self rfl
    | false =>
      rw [if_neg (by simp), val_isP hs, h]
      rfl
  · rw [if_neg hkj]
    exact he.other j hkj
theorem val_putE {m : List Pr} (f : Fine m) {p : Pr} (hk : chk p.key [p.value] = 0) (hl : m.length < 20000) (j : ByteArray) : val (putE m p).2 j = if p.key = j then some p.value else val m j := by
  have he := eff_put f.srt p
  have e0 : putE m p = putP m p (posP m p.key) := by unfold putE; rw [if_pos hk]
  have e1 : (putP m p (posP m p.key)).1 = 0 := by
    unfold putP
    split
    · rfl
    · rw [if_neg (by omega)]
  rw [e0]
  by_cases hkj : p.key = j
  · subst hkj; rw [if_pos rfl]; exact he.self e1
  · rw [if_neg hkj]; exact he.other j hkj
theorem base_two {c : Cg} (h : baseC c = true) : chk c.key [c.before] = 0 ∧ chk c.key [c.after] = 0 := by
  unfold baseC at h
  simp only [Bool.and_eq_true, decide_eq_true_iff] at h
  exact ⟨h.1, h.2.1⟩
theorem delE_len (m : List Pr) (k : ByteArray) : (delE m k).length ≤ m.length := by
  unfold delE
  split
  · split
    · simp; omega
    · omega
  · omega
theorem Fine.delAll : ∀ {l : List Cg} {m : List Pr}, Fine m → Fine (delAll m l)
  | [], _, f => f
  | c :: l, m, f => by
    show Fine (Go.Proofs.Ytlbieadnfgfhlaa.delAll (if c.is = true then m else delE m c.key) l)
    refine Fine.delAll ?_
    split
    · exact f
    · exact f.del _
theorem delAll_len : ∀ (l : List Cg) (m : List Pr), (delAll m l).length ≤ m.length
  | [], m => Nat.le_refl _
  | c :: l, m => by
    show (delAll (if c.is = true then m else delE m c.key) l).length ≤ _
    refine Nat.le_trans (delAll_len l _) ?_
    split
    · omega
    · exact delE_len m c.key
theorem val_delAll : ∀ {l : List Cg} {m : List Pr}, Fine m → SrtC l → (∀ c ∈ l, baseC c = true) → ∀ k, val (delAll m l) k = match findC l k with | some c => if c.is = true then val m k else none | none => val m k
  | [], m, f, hs, hb, k => rfl
  | c :: l, m, f, hs, hb, k => by
    obtain ⟨h1, h2⟩ := List.pairwise_cons.1 hs
    have hb' : ∀ d ∈ l, baseC d = true := fun d hd => hb d (List.mem_cons_of_mem _ hd)
    have hkc : chk c.key [] = 0 := base_key (hb c (by simp))
    show val (delAll (if c.is = true then m else delE m c.key) l) k = _
    rw [findC_cons]
    have hn : c.key = k → findC l k = none := fun e => findC_none fun d hd e' => by have := h1 d hd; rw [e', e, cmpS_self] at this; omega
    cases hci : c.is with
    | true =>
      simp only [if_true]
      rw [val_delAll f h2 hb' k]
      by_cases hk : c.key = k
      · rw [if_pos hk, hn hk]; simp [hci]
      · rw [if_neg hk]
    | false =>
      simp only [Bool.false_eq_true, if_false]
      rw [val_delAll (f.del _) h2 hb' k, val_delE f.srt hkc]
      by_cases hk : c.key = k
      · rw [if_pos hk, hn hk]; simp [hci, hk]
      · rw [if_neg hk]; simp [hk]
theorem val_putAll : ∀ {l : List Cg} {m : List Pr}, Fine m → SrtC l → (∀ c ∈ l, baseC c = true) → m.length + l.length ≤ 20000 → ∀ k, val (putAll m l) k = match findC l k with | some c => if c.is = true then some c.after else val m k | none => val m k
  | [], m, f, hs, hb, hl, k => rfl
  | c :: l, m, f, hs, hb, hl, k => by
    obtain ⟨h1, h2⟩ := List.pairwise_cons.1 hs
    simp only [List.length_cons] at hl
    have hb' : ∀ d ∈ l, baseC d = true := fun d hd => hb d (List.mem_cons_of_mem _ hd)
    have hkc : chk c.key [c.after] = 0 := (base_two (hb c (by simp))).2
    show val (putAll (if c.is = true then (putE m ⟨c.key, c.after⟩).2 else m) l) k = _
    rw [findC_cons]
    have hn : c.key = k → findC l k = none := fun e => findC_none fun d hd e' => by have := h1 d hd; rw [e', e, cmpS_self] at this; omega
    cases hci : c.is with
    | true =>
      simp only [if_true]
      have := put_len m ⟨c.key, c.after⟩
      rw [val_putAll (f.put _) h2 hb' (by omega) k, val_putE f hkc (by omega)]
      by_cases hk : c.key = k
      · rw [if_pos hk, hn hk]; simp [hci, hk]
      · rw [if_neg hk]; simp [hk]
    | false =>
      simp only [Bool.false_eq_true, if_false]
      rw [val_putAll f h2 hb' (by omega) k]
      by_cases hk : c.key = k
      · rw [if_pos hk, hn hk]; simp [hci]
      · rw [if_neg hk]
theorem val_apply {l : List Cg} {m : List Pr} (f : Fine m) (hs : SrtC l) (hb : ∀ c ∈ l, baseC c = true) (hl : m.length + l.length ≤ 20000) (k : ByteArray) : val (applyF m l) k = match findC l k with | some c => if c.is = true then some c.after else none | none => val m k := by
  have h1 := delAll_len l m
  unfold applyF
  rw [val_putAll f.delAll hs hb (by omega) k, val_delAll f hs hb k]
  cases findC l k with
  | none => rfl
  | some c => cases hci : c.is <;> simp [hci]
theorem fine_ext {a b : List Pr} (ha : Fine a) (hb : Fine b) (h : ∀ k, val a k = val b k) : a = b := by
  refine srt_ext ha.srt hb.srt fun p => ?_
  have e : ∀ {l : List Pr}, Srt l → (p ∈ l ↔ val l p.key = some p.value) := fun {l} hl => by
    constructor
    · exact val_mem hl
    · intro h
      unfold val at h
      cases hf : l.find? fun a => decide (a.key = p.key) with
      | none => rw [hf] at h; cases h
      | some q =>
        rw [hf] at h
        have hk : q.key = p.key := by simpa using List.find?_some hf
        have hv : q.value = p.value := by simpa using h
        have : q = p := pr_ext.2 ⟨by rw [hk], by rw [hv]⟩
        rw [← this]
        exact List.mem_of_find?_eq_some hf
  rw [e ha.srt, e hb.srt, h]
theorem Fine.putAll : ∀ {l : List Cg} {m : List Pr}, Fine m → Fine (putAll m l)
  | [], _, f => f
  | c :: l, m, f => by
    show Fine (Go.Proofs.Ytlbieadnfgfhlaa.putAll (if c.is = true then (putE m ⟨c.key, c.after⟩).2 else m) l)
    refine Fine.putAll ?_
    split
    · exact f.put _
    · exact f
theorem Fine.apply {l : List Cg} {m : List Pr} (f : Fine m) : Fine (applyF m l) := f.delAll.putAll
theorem base_delta {x y : List Pr} (hx : Fine x) (hy : Fine y) : ∀ c ∈ deltaOf x y, baseC c = true := (okL_all (delta_ok hx hy)).1
theorem apply_delta {x y : List Pr} (hx : Fine x) (hy : Fine y) (hl : x.length + (deltaOf x y).length ≤ 20000) : applyF x (deltaOf x y) = y := by
  refine fine_ext hx.apply hy fun k => ?_
  rw [val_apply hx (delta_srt hx.srt hy.srt) (base_delta hx hy) hl, delta_find hx.srt hy.srt]
  unfold dl
  by_cases h : val x k = val y k
  · rw [if_pos h]; exact h
  · rw [if_neg h]
    cases hv : val y k with
    | none => simp [mk5]
    | some v => simp [mk5]
theorem cnt_le : ∀ (l : List Cg) (n : Int), cntC l n ≤ n + l.length
  | [], n => by simp [cntC]
  | c :: l, n => by
    have ih : ∀ n', cntC l n' ≤ n' + l.length := cnt_le l
    show cntC l (if c.is = true then (if c.was = true then n else n + 1) else n - 1) ≤ _
    rw [List.length_cons]
    split
    · split
      · have := ih n; omega
      · have := ih (n + 1); omega
    · have := ih (n - 1); omega

/-! ### Conflicts and merging -/
theorem conf_swap {a b : List Cg} (ha : SrtC a) (hb : SrtC b) : confs a b = confs b a := by
  unfold confs
  rw [mrg_flat ha hb, mrg_flat hb ha]
  have e : mkeys a b = mkeys b a := srtK_ext (mrg_srt ha hb) (mrg_srt hb ha) fun k => by rw [mkeys_mem ha hb, mkeys_mem hb ha, or_comm]
  rw [e]
  refine flat_congr fun k _ => ?_
  cases h1 : findC a k with
  | none => cases h2 : findC b k <;> rfl
  | some x =>
    cases h2 : findC b k with
    | none => rfl
    | some y =>
      have k1 := (findC_some h1).2
      have k2 := (findC_some h2).2
      unfold confL mkB
      simp only [true_and, k1, k2]
      by_cases hxy : x = y
      · rw [if_neg (by simp [hxy]), if_neg (by simp [hxy])]
      · rw [if_pos hxy, if_pos fun h => hxy h.symm]
theorem conf_nil {a b : List Cg} (ha : SrtC a) (hb : SrtC b) : confs a b = [] ↔ ∀ k x y, findC a k = some x → findC b k = some y → x = y := by
  unfold confs
  rw [mrg_flat ha hb, List.flatMap_eq_nil_iff]
  constructor
  · intro h k x y h1 h2
    have := h k ((mkeys_mem ha hb k).2 (.inl (by rw [h1]; simp)))
    rw [h1, h2] at this
    unfold confL mkB at this
    refine Classical.byContradiction fun hxy => ?_
    simp [hxy] at this
  · intro h k _
    cases h1 : findC a k with
    | none => cases h2 : findC b k <;> rfl
    | some x =>
      cases h2 : findC b k with
      | none => rfl
      | some y => unfold confL mkB; simp [h k x y h1 h2]
theorem merg_key {a b : List Cg} (ha : SrtC a) (hb : SrtC b) : ∀ k ∈ mkeys a b, ∀ c ∈ mergL (mkB (findC a k) (findC b k)), c.key = k := by
  intro k hk c hc
  have hm := (mkeys_mem ha hb k).1 hk
  cases h1 : findC a k with
  | some x =>
    rw [h1] at hc
    have : c = x := by cases h2 : findC b k <;> (rw [h2] at hc; exact List.mem_singleton.1 hc)
    rw [this]; exact (findC_some h1).2
  | none =>
    cases h2 : findC b k with
    | some y => rw [h1, h2] at hc; rw [List.mem_singleton.1 hc]; exact (findC_some h2).2
    | none => rw [h1, h2] at hm; simp at hm
theorem merg_srt {a b : List Cg} (ha : SrtC a) (hb : SrtC b) : SrtC (merg a b) := by
  unfold merg
  rw [mrg_flat ha hb]
  exact flat_srt (mrg_srt ha hb) (merg_key ha hb) fun k _ => mergL_len _
theorem merg_find {a b : List Cg} (ha : SrtC a) (hb : SrtC b) (k : ByteArray) : findC (merg a b) k = (findC a k).or (findC b k) := by
  unfold merg
  rw [mrg_flat ha hb]
  obtain ⟨f1, f2⟩ := flat_find (mrg_srt ha hb) (merg_key ha hb) k
  by_cases hk : k ∈ mkeys a b
  · rw [f1 hk]
    have hm := (mkeys_mem ha hb k).1 hk
    cases h1 : findC a k with
    | some x => cases h2 : findC b k <;> rfl
    | none =>
      cases h2 : findC b k with
      | some y => rfl
      | none => rw [h1, h2] at hm; simp at hm
  · rw [f2 hk]
    rw [mkeys_mem ha hb] at hk
    have e1 : findC a k = none := Classical.byContradiction fun h => hk (.inl h)
    have e2 : findC b k = none := Classical.byContradiction fun h => hk (.inr h)
    rw [e1, e2]
    rfl
theorem merg_comm {a b : List Cg} (ha : SrtC a) (hb : SrtC b) (h : confs a b = []) : merg a b = merg b a := by
  refine srtC_ext (merg_srt ha hb) (merg_srt hb ha) fun k => ?_
  rw [merg_find ha hb, merg_find hb ha]
  cases h1 : findC a k with
  | none => cases h2 : findC b k <;> rfl
  | some x =>
    cases h2 : findC b k with
    | none => rfl
    | some y => rw [(conf_nil ha hb).1 h k x y h1 h2]
theorem merg_self {a : List Cg} (ha : SrtC a) : confs a a = [] ∧ merg a a = a := by
  refine ⟨(conf_nil ha ha).2 fun k x y h1 h2 => by rw [h1] at h2; exact Option.some.inj h2, ?_⟩
  refine srtC_ext (merg_srt ha ha) ha fun k => ?_
  rw [merg_find ha ha]
  cases findC a k <;> rfl
theorem merg_mem {a b : List Cg} (ha : SrtC a) (hb : SrtC b) {c : Cg} (h : c ∈ merg a b) : c ∈ a ∨ c ∈ b := by
  have h1 := findC_mem (merg_srt ha hb) h
  rw [merg_find ha hb] at h1
  cases h2 : findC a c.key with
  | some x => rw [h2] at h1; cases h1; exact .inl (findC_some h2).1
  | none => rw [h2] at h1; exact .inr (findC_some h1).1

end Go.Proofs.Ytlbieadnfgfhlaa
