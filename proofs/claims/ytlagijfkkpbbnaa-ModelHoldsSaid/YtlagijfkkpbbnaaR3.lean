/-
  Chapter 24: the reference, Insert, Delete, Swap, Part, Range, Of, Same.
  Conditions: none. By an AI agent.
-/
import Derived.Test.YtlagijfkkpbbnaaR2
set_option maxRecDepth 10000
set_option linter.unusedSimpArgs false
set_option linter.unusedVariables false
namespace Go.Proofs.Ytlagijfkkpbbnaa
open Go Eng

theorem q_RInsert_bad (b : Nat) (a : Pr) (H : AHeap) (hc : chk a.key [a.value] ≠ 0) :
    CC F.ref24_Model_Insert [.pointer (some ⟨b, 0, none⟩), .string a.key, .string a.value] H = some (.int .i64 (chk a.key [a.value]), H) := by
  have hb := q_bad a.key [a.value] _ _ (rdOne a.value H) (by simp)
  generalize chk a.key [a.value] = e at hb hc
  apply pure_of _ (d_ref24_Model_Insert _ _ _ H) rfl
  rotate_left 2
  · simp (disch := first | with_reducible rfl | assumption | omega | rfl | (simp only [go_sem]; first | done | omega)) only [go_sem, ↓reduceIte, reduceCtorEq, Nat.reduceEqDiff, Nat.reduceAdd, Nat.reduceSub, Nat.reduceMul, Nat.reduceDiv, Nat.reduceMod, Nat.reduceLeDiff, Nat.reduceLT, Nat.reduceBEq, Int.reduceEq, Int.reduceBEq, Int.reduceBNe, Int.reduceLT, Int.reduceLE, Int.reduceAdd, Int.reduceSub, Int.reduceNeg, Int.reduceToNat, Int.reducePow, Nat.reducePow, Int.reduceMul, Int.reduceDiv, ↓s_ref24_Model_Insert, enterK_eq hb, hc]
    rfl
  · (repeat (first | exact Fr.refl _ | refine Fr.push ?_ _ | refine Fr.set ?_ _ _ (by intro h; first | omega | (simp only [go_sem] at h; omega))))

theorem q_RInsert (b : Nat) (l : List Pr) (a : Pr) (H : AHeap) (ok : Ok H) (r : MdlR H b l) (hs : Srt l) (hl : l.length ≤ 20000) (hc : chk a.key [a.value] = 0) :
    ∃ H', CC F.ref24_Model_Insert [.pointer (some ⟨b, 0, none⟩), .string a.key, .string a.value] H = some (.int .i64 (insertP l a (posP l a.key)).1, H') ∧ MdlR H' b (insertP l a (posP l a.key)).2 ∧ UpT T.ref24_Model H b H' := by
  generalize hH1 : H.push (.cells [.string a.value] T.string true) = H1
  have s1 : Still H H1 := by rw [← hH1]; exact (Fr.refl H).push _
  have hb := q_bad a.key [a.value] _ _ (rdOne a.value H) (by simp)
  rw [hH1, hc] at hb
  have r1 := r.still s1
  have hf := q_find b l a.key H1 r1 (by omega)
  rw [findP_eq hs] at hf
  unfold insertP
  cases his : isP l a.key (posP l a.key) with
  | true =>
    rw [his] at hf
    simp only [if_true] at hf ⊢
    generalize posP l a.key = p at hf
    have hge : (0 : Int) ≤ (p : Int) := by omega
    refine ⟨H, ?_, r, UpT.refl H b⟩
    refine pure_of (H' := H1) ?_ (d_ref24_Model_Insert _ _ _ H) rfl s1
    simp (disch := first | with_reducible rfl | assumption | omega | rfl | (simp only [go_sem]; first | done | omega)) only [go_sem, ↓reduceIte, reduceCtorEq, Nat.reduceEqDiff, Nat.reduceAdd, Nat.reduceSub, Nat.reduceMul, Nat.reduceDiv, Nat.reduceMod, Nat.reduceLeDiff, Nat.reduceLT, Nat.reduceBEq, Int.reduceEq, Int.reduceBEq, Int.reduceBNe, Int.reduceLT, Int.reduceLE, Int.reduceAdd, Int.reduceSub, Int.reduceNeg, Int.reduceToNat, Int.reducePow, Nat.reducePow, Int.reduceMul, Int.reduceDiv, ↓s_ref24_Model_Insert, hH1, enterK_eq hb, enterK_eq hf, decide_eq_true hge]
  | false =>
    rw [his] at hf
    obtain ⟨H', hput, hm, hu⟩ := q_RPut b l a H1 (ok.fr s1) r1 hs hl hc
    have e : putP l a (posP l a.key) = if l.length = 20000 then (7, l) else (0, l.take (posP l a.key) ++ a :: l.drop (posP l a.key)) := by unfold putP; rw [his]; rfl
    rw [e] at hput hm
    simp only [Bool.false_eq_true, if_false] at hf ⊢
    generalize (if l.length = 20000 then ((7 : Int), l) else (0, l.take (posP l a.key) ++ a :: l.drop (posP l a.key))) = w at hput hm ⊢
    obtain ⟨H'', ht, hm', hf'⟩ := Mdl.tidied (v := .int .i64 w.1) ok r hm (after_push r s1 hu)
    refine ⟨H'', (d_ref24_Model_Insert _ _ _ H (r := (.int .i64 w.1, H')) ?_).trans (congrArg some ht), hm', hf'⟩
    simp (disch := first | with_reducible rfl | assumption | omega | rfl | (simp only [go_sem]; first | done | omega)) only [go_sem, ↓reduceIte, reduceCtorEq, Nat.reduceEqDiff, Nat.reduceAdd, Nat.reduceSub, Nat.reduceMul, Nat.reduceDiv, Nat.reduceMod, Nat.reduceLeDiff, Nat.reduceLT, Nat.reduceBEq, Int.reduceEq, Int.reduceBEq, Int.reduceBNe, Int.reduceLT, Int.reduceLE, Int.reduceAdd, Int.reduceSub, Int.reduceNeg, Int.reduceToNat, Int.reducePow, Nat.reducePow, Int.reduceMul, Int.reduceDiv, ↓s_ref24_Model_Insert, hH1, enterK_eq hb, enterK_eq hf, enterK_eq hput]

theorem q_RDelete_bad (b : Nat) (key : ByteArray) (H : AHeap) (hc : chk key [] ≠ 0) : CC F.ref24_Model_Delete [.pointer (some ⟨b, 0, none⟩), .string key] H = some (.tuple #[.string (mk []), .int .i64 (chk key [])], H) := by
  have hg := q_RGet_bad b key H hc
  generalize chk key [] = e at hg hc
  apply pure_of _ (d_ref24_Model_Delete _ _ H) rfl
  rotate_left 2
  · simp (disch := first | with_reducible rfl | assumption | omega | rfl | (simp only [go_sem]; first | done | omega)) only [go_sem, ↓reduceIte, reduceCtorEq, Nat.reduceEqDiff, Nat.reduceAdd, Nat.reduceSub, Nat.reduceMul, Nat.reduceDiv, Nat.reduceMod, Nat.reduceLeDiff, Nat.reduceLT, Nat.reduceBEq, Int.reduceEq, Int.reduceBEq, Int.reduceBNe, Int.reduceLT, Int.reduceLE, Int.reduceAdd, Int.reduceSub, Int.reduceNeg, Int.reduceToNat, Int.reducePow, Nat.reducePow, Int.reduceMul, Int.reduceDiv, ↓s_ref24_Model_Delete, enterK_eq hg, hc]
    rfl
  · (repeat (first | exact Fr.refl _ | refine Fr.push ?_ _ | refine Fr.set ?_ _ _ (by intro h; first | omega | (simp only [go_sem] at h; omega))))

theorem q_RDelete (b : Nat) (l : List Pr) (key : ByteArray) (H : AHeap) (ok : Ok H) (r : MdlR H b l) (hs : Srt l) (hl : l.length ≤ 20000) (hc : chk key [] = 0) :
    ∃ H', CC F.ref24_Model_Delete [.pointer (some ⟨b, 0, none⟩), .string key] H = some (getP l key (posP l key), H') ∧ MdlR H' b (if isP l key (posP l key) = true then l.take (posP l key) ++ l.drop (posP l key + 1) else l) ∧ UpT T.ref24_Model H b H' := by
  have hg := q_RGet b l key H r hs (by omega) hc
  have hf := q_find b l key H r (by omega)
  rw [findP_eq hs] at hf
  unfold getP at hg ⊢
  generalize posP l key = p at hf hg ⊢
  cases his : isP l key p with
  | false =>
    rw [his] at hg
    simp only [Bool.false_eq_true, if_false] at hg ⊢
    refine ⟨H, ?_, r, UpT.refl H b⟩
    apply pure_of _ (d_ref24_Model_Delete _ _ H) rfl
    rotate_left 2
    · simp (disch := first | with_reducible rfl | assumption | omega | rfl | (simp only [go_sem]; first | done | omega)) only [go_sem, ↓reduceIte, reduceCtorEq, Nat.reduceEqDiff, Nat.reduceAdd, Nat.reduceSub, Nat.reduceMul, Nat.reduceDiv, Nat.reduceMod, Nat.reduceLeDiff, Nat.reduceLT, Nat.reduceBEq, Int.reduceEq, Int.reduceBEq, Int.reduceBNe, Int.reduceLT, Int.reduceLE, Int.reduceAdd, Int.reduceSub, Int.reduceNeg, Int.reduceToNat, Int.reducePow, Nat.reducePow, Int.reduceMul, Int.reduceDiv, ↓s_ref24_Model_Delete, enterK_eq hg]
      rfl
    · (repeat (first | exact Fr.refl _ | refine Fr.push ?_ _ | refine Fr.set ?_ _ _ (by intro h; first | omega | (simp only [go_sem] at h; omega))))
  | true =>
    have hlt := isP_lt his
    rw [his] at hg hf
    simp only [if_true] at hg hf ⊢
    generalize (l[p]?).elim (mk []) Pr.value = old at hg ⊢
    obtain ⟨v, h1, h2, h3, h4⟩ := id r
    obtain ⟨v27, hs27, hr27⟩ := h3.hi (sz := 2) rfl (Nat.le_of_lt hlt) (q := .i64)
    obtain ⟨v28, H1, happ28, ho28, fr1, hb28⟩ := (Eng.Own.nil (E := EPr) (H := H) (e := T.api_Pair)).appE (m := l.take p) (sz := 2) (bytes := 32) rfl (by simp; omega) (by simp; omega) (hr27.src (sz := 2) rfl)
    have s1 : Still H H1 := fr1.mono fun c _ h => by unfold OnlyOf at h; cases h
    have n1 : H.n ≤ H1.n := s1.n
    have fb1 : H1.f b = .cells [v] T.ref24_Model true := by rw [s1.f h2 (fun h => h), h1]
    obtain ⟨v35, hs35, ho35, _⟩ := (h3.still s1).drop (sz := 2) rfl (i := p + 1) hlt (q := .i64)
    obtain ⟨v36, H2, happ36, ho36, fr2, hb36⟩ := ho28.appE (m := l.drop (p + 1)) (sz := 2) (bytes := 32) rfl (by simp; omega) (by simp; omega) (ho35.rd.src (sz := 2) rfl)
    have hb28' : ∀ c, blockOf v28 = some c → H.n ≤ c := fun c h => by
      rcases hb28 with hb | hb
      · rw [hb] at h; cases h
      · rw [hb] at h; cases h; exact Nat.le_refl _
    have hs35 : slS T.api_Pair 2 v (some (.int .i64 ((p : Int) + 1))) none none H1 = some v35 := hs35
    have hver : H1.ver b = H.ver b := s1.ver h2 (fun h => h)
    have hnn : H.n ≤ H1.n := n1
    obtain ⟨bb, oo, cc, hv, hbb, _⟩ := h3.rd.elem hlt
    have hver2 : H1.ver bb = H.ver bb := s1.ver hbb (fun h => h)
    subst hv
    have hb36' : ∀ c, blockOf v36 = some c → H.n ≤ c := fun c h => by
      rcases hb36 with hb | hb
      · rw [hb] at h; exact hb28' c h
      · rw [hb] at h; cases h; exact n1
    have n2 : H1.n ≤ H2.n := fr2.n
    have s2 : Still H H2 := s1.still.then fr2 fun c hc h => by have := hb28' c h; omega
    have fb2 : H2.f b = .cells [.slice (some ⟨bb, oo, none⟩) l.length cc] T.ref24_Model true := by rw [s2.f h2 (fun h => h), h1]
    have hone : one v36 = true := ho36.cell
    generalize hH3 : H2.set b (.cells [v36] T.ref24_Model true) = H3
    have f3 : H3.f b = .cells [v36] T.ref24_Model true := by rw [← hH3]; exact set_f_eq
    have fr3 : Fr (fun c => c = b) H2 H3 := by rw [← hH3]; exact Fr.set (Fr.refl H2) b _ fun _ => rfl
    have n3 : H3.n = H2.n := by rw [← hH3]; rfl
    have hm : MdlR H3 b (l.take p ++ l.drop (p + 1)) := ⟨v36, f3, by omega, ho36.keep fr3 fun c hc h => by have := hb36' c hc; omega, fun h => by have := hb36' b h; omega⟩
    have hup : UpT T.ref24_Model H b H3 := UpT.of h1 (s2.still.then fr3 fun c _ h => .inl h) f3 fun c hc => .inr (hb36' c hc)
    obtain ⟨H'', ht, hm', hf'⟩ := Mdl.tidied (v := .tuple #[.string old, .int .i64 0]) ok r hm hup
    refine ⟨H'', (d_ref24_Model_Delete _ _ H (r := (.tuple #[.string old, .int .i64 0], H3)) ?_).trans (congrArg some ht), hm', hf'⟩
    simp (disch := first | with_reducible rfl | assumption | omega | rfl | (simp only [go_sem]; first | done | omega)) only [go_sem, ↓reduceIte, reduceCtorEq, Nat.reduceEqDiff, Nat.reduceAdd, Nat.reduceSub, Nat.reduceMul, Nat.reduceDiv, Nat.reduceMod, Nat.reduceLeDiff, Nat.reduceLT, Nat.reduceBEq, Int.reduceEq, Int.reduceBEq, Int.reduceBNe, Int.reduceLT, Int.reduceLE, Int.reduceAdd, Int.reduceSub, Int.reduceNeg, Int.reduceToNat, Int.reducePow, Nat.reducePow, Int.reduceMul, Int.reduceDiv, ↓s_ref24_Model_Delete, enterK_eq hg, enterK_eq hf, h1, hs27, happ28, fb1, hs35, happ36, fb2, hH3]

theorem q_RSwap_bad (b : Nat) (key old new : ByteArray) (H : AHeap) (hc : chk key [old, new] ≠ 0) :
    CC F.ref24_Model_Swap [.pointer (some ⟨b, 0, none⟩), .string key, .string old, .string new] H = some (.int .i64 (chk key [old, new]), H) := by
  have hb := q_bad key [old, new] _ _ (rdTwo old new H) (by simp)
  generalize chk key [old, new] = e at hb hc
  apply pure_of _ (d_ref24_Model_Swap _ _ _ _ H) rfl
  rotate_left 2
  · simp (disch := first | with_reducible rfl | assumption | omega | rfl | (simp only [go_sem]; first | done | omega)) only [go_sem, ↓reduceIte, reduceCtorEq, Nat.reduceEqDiff, Nat.reduceAdd, Nat.reduceSub, Nat.reduceMul, Nat.reduceDiv, Nat.reduceMod, Nat.reduceLeDiff, Nat.reduceLT, Nat.reduceBEq, Int.reduceEq, Int.reduceBEq, Int.reduceBNe, Int.reduceLT, Int.reduceLE, Int.reduceAdd, Int.reduceSub, Int.reduceNeg, Int.reduceToNat, Int.reducePow, Nat.reducePow, Int.reduceMul, Int.reduceDiv, ↓s_ref24_Model_Swap, enterK_eq hb, hc]
    rfl
  · (repeat (first | exact Fr.refl _ | refine Fr.push ?_ _ | refine Fr.set ?_ _ _ (by intro h; first | omega | (simp only [go_sem] at h; omega))))

theorem chk_two {key old new : ByteArray} (h : chk key [old, new] = 0) : chk key [] = 0 ∧ chk key [new] = 0 := by
  unfold chk at h ⊢
  by_cases h1 : bl key = []
  · simp [h1] at h
  · by_cases h2 : 24 < (bl key).length
    · simp [h1, h2] at h
    · by_cases h3 : 40 < (bl new).length
      · simp [h1, h2, h3] at h
      · simp [h1, h2, h3]

theorem q_RSwap (b : Nat) (l : List Pr) (key old new : ByteArray) (H : AHeap) (ok : Ok H) (r : MdlR H b l) (hs : Srt l) (hl : l.length ≤ 20000) (hc : chk key [old, new] = 0) :
    ∃ H', CC F.ref24_Model_Swap [.pointer (some ⟨b, 0, none⟩), .string key, .string old, .string new] H = some (.int .i64 (swapP l key old new (posP l key)).1, H') ∧ MdlR H' b (swapP l key old new (posP l key)).2 ∧ UpT T.ref24_Model H b H' := by
  obtain ⟨hc1, hc2⟩ := chk_two hc
  generalize hH1 : H.push (.cells [.string old, .string new] T.string true) = H1
  have s1 : Still H H1 := by rw [← hH1]; exact (Fr.refl H).push _
  have hb := q_bad key [old, new] _ _ (rdTwo old new H) (by simp)
  rw [hH1, hc] at hb
  have r1 := r.still s1
  have hg := q_RGet b l key H1 r1 hs (by omega) hc1
  unfold swapP
  unfold getP at hg
  cases his : isP l key (posP l key) with
  | false =>
    rw [his] at hg
    simp only [Bool.false_eq_true, if_false] at hg ⊢
    refine ⟨H, ?_, r, UpT.refl H b⟩
    refine pure_of (H' := H1) ?_ (d_ref24_Model_Swap _ _ _ _ H) rfl s1
    simp (disch := first | with_reducible rfl | assumption | omega | rfl | (simp only [go_sem]; first | done | omega)) only [go_sem, ↓reduceIte, reduceCtorEq, Nat.reduceEqDiff, Nat.reduceAdd, Nat.reduceSub, Nat.reduceMul, Nat.reduceDiv, Nat.reduceMod, Nat.reduceLeDiff, Nat.reduceLT, Nat.reduceBEq, Int.reduceEq, Int.reduceBEq, Int.reduceBNe, Int.reduceLT, Int.reduceLE, Int.reduceAdd, Int.reduceSub, Int.reduceNeg, Int.reduceToNat, Int.reducePow, Nat.reducePow, Int.reduceMul, Int.reduceDiv, ↓s_ref24_Model_Swap, hH1, enterK_eq hb, enterK_eq hg]
  | true =>
    rw [his] at hg
    simp only [if_true] at hg ⊢
    generalize (l[posP l key]?).elim (mk []) Pr.value = now at hg ⊢
    by_cases heq : bl now = bl old
    · rw [if_pos heq]
      obtain ⟨H', hput, hm, hu⟩ := q_RPut b l ⟨key, new⟩ H1 (ok.fr s1) r1 hs hl hc2
      have e : putP l ⟨key, new⟩ (posP l key) = (0, l.set (posP l key) ⟨key, new⟩) := by unfold putP; rw [if_pos his]
      simp only [e] at hput hm
      obtain ⟨H'', ht, hm', hf'⟩ := Mdl.tidied (v := .int .i64 0) ok r hm (after_push r s1 hu)
      refine ⟨H'', (d_ref24_Model_Swap _ _ _ _ H (r := (.int .i64 0, H')) ?_).trans (congrArg some ht), hm', hf'⟩
      simp (disch := first | with_reducible rfl | assumption | omega | rfl | (simp only [go_sem]; first | done | omega)) only [go_sem, ↓reduceIte, reduceCtorEq, Nat.reduceEqDiff, Nat.reduceAdd, Nat.reduceSub, Nat.reduceMul, Nat.reduceDiv, Nat.reduceMod, Nat.reduceLeDiff, Nat.reduceLT, Nat.reduceBEq, Int.reduceEq, Int.reduceBEq, Int.reduceBNe, Int.reduceLT, Int.reduceLE, Int.reduceAdd, Int.reduceSub, Int.reduceNeg, Int.reduceToNat, Int.reducePow, Nat.reducePow, Int.reduceMul, Int.reduceDiv, ↓s_ref24_Model_Swap, hH1, enterK_eq hb, enterK_eq hg, decide_eq_true heq, enterK_eq hput]
    · rw [if_neg heq]
      refine ⟨H, ?_, r, UpT.refl H b⟩
      refine pure_of (H' := H1) ?_ (d_ref24_Model_Swap _ _ _ _ H) rfl s1
      simp (disch := first | with_reducible rfl | assumption | omega | rfl | (simp only [go_sem]; first | done | omega)) only [go_sem, ↓reduceIte, reduceCtorEq, Nat.reduceEqDiff, Nat.reduceAdd, Nat.reduceSub, Nat.reduceMul, Nat.reduceDiv, Nat.reduceMod, Nat.reduceLeDiff, Nat.reduceLT, Nat.reduceBEq, Int.reduceEq, Int.reduceBEq, Int.reduceBNe, Int.reduceLT, Int.reduceLE, Int.reduceAdd, Int.reduceSub, Int.reduceNeg, Int.reduceToNat, Int.reducePow, Nat.reducePow, Int.reduceMul, Int.reduceDiv, ↓s_ref24_Model_Swap, hH1, enterK_eq hb, enterK_eq hg, decide_eq_false heq]

/-! ### Same -/
theorem l_sameP (l m : List Pr) (v w : Value) (H : AHeap) (hv : Rd EPr H v l) (hw : Rd EPr H w m) (hlm : l.length = m.length) (hl : l.length < 1152921504606846976) (K : K) : ∀ (x y : List Pr) (i : Nat), l.drop i = x → m.drop i = y →
    l_ref24_Same_0 v w (.int .i64 i) H (blkK [] 0 (seqK (fun _ h2 => K .ret [(4, .bool true)] h2) K)) = K .ret [(4, .bool (decide (x = y)))] H
  | [], y, i, hx, hy => by
    have h : l.length ≤ i := List.drop_eq_nil_iff.1 hx
    have hlt : ¬ (i : Int) < (l.length : Int) := by omega
    have hlen := hv.lenS
    have hy0 : y = [] := by rw [← hy]; exact List.drop_eq_nil_of_le (by omega)
    subst hy0
    rw [r_ref24_Same_0]
    simp (disch := first | with_reducible rfl | assumption | omega | rfl | (simp only [go_sem]; first | done | omega)) only [go_sem, ↓reduceIte, reduceCtorEq, Nat.reduceEqDiff, Nat.reduceAdd, Nat.reduceSub, Nat.reduceMul, Nat.reduceDiv, Nat.reduceMod, Nat.reduceLeDiff, Nat.reduceLT, Nat.reduceBEq, Int.reduceEq, Int.reduceBEq, Int.reduceBNe, Int.reduceLT, Int.reduceLE, Int.reduceAdd, Int.reduceSub, Int.reduceNeg, Int.reduceToNat, Int.reducePow, Nat.reducePow, Int.reduceMul, Int.reduceDiv, ↓s_ref24_Same_b0, hlen, hlt]
  | a :: x, [], i, hx, hy => by
    obtain ⟨h, _⟩ := drop_cons hx
    have h2 : m.length ≤ i := List.drop_eq_nil_iff.1 hy
    omega
  | a :: x, b :: y, i, hx, hy => by
    obtain ⟨h, hxa, hx'⟩ := drop_cons hx
    obtain ⟨h2, hyb, hy'⟩ := drop_cons hy
    have hlt : (i : Int) < (l.length : Int) := by omega
    have hlen := hv.lenS
    have ih := l_sameP l m v w H hv hw hlm hl K x y (i + 1) hx' hy'
    obtain ⟨b1, o1, hix1, _, hc1, _⟩ := hv.ix (q := .i64) h
    obtain ⟨b2, o2, hix2, _, hc2, _⟩ := hw.ix (q := .i64) h2
    rw [hxa] at hc1
    rw [hyb] at hc2
    have hix1 : ixS 2 v (.int .i64 i) = some (.pointer (some ⟨b1, o1, none⟩)) := hix1
    have hix2 : ixS 2 w (.int .i64 i) = some (.pointer (some ⟨b2, o2, none⟩)) := hix2
    have hc1 : cutB (H.f b1) o1 2 = some [.string a.key, .string a.value] := hc1
    have hc2 : cutB (H.f b2) o2 2 = some [.string b.key, .string b.value] := hc2
    rw [Int.natCast_add] at ih
    rw [r_ref24_Same_0]
    by_cases he : a = b
    · have hd : decide (a = b) = true := decide_eq_true he
      have hd2 : decide (a :: x = b :: y) = decide (x = y) := decide_eq_decide.2 (by simp [he])
      rw [hd2]
      simp (disch := first | with_reducible rfl | assumption | omega | rfl | (simp only [go_sem]; first | done | omega)) only [go_sem, ↓reduceIte, reduceCtorEq, Nat.reduceEqDiff, Nat.reduceAdd, Nat.reduceSub, Nat.reduceMul, Nat.reduceDiv, Nat.reduceMod, Nat.reduceLeDiff, Nat.reduceLT, Nat.reduceBEq, Int.reduceEq, Int.reduceBEq, Int.reduceBNe, Int.reduceLT, Int.reduceLE, Int.reduceAdd, Int.reduceSub, Int.reduceNeg, Int.reduceToNat, Int.reducePow, Nat.reducePow, Int.reduceMul, Int.reduceDiv, ↓s_ref24_Same_b0, hlen, hlt, hix1, hc1, hix2, hc2, pair_ne', hd]
      exact ih
    · have hd : decide (a = b) = false := decide_eq_false he
      have hd2 : decide (a :: x = b :: y) = false := decide_eq_false (by simp [he])
      rw [hd2]
      simp (disch := first | with_reducible rfl | assumption | omega | rfl | (simp only [go_sem]; first | done | omega)) only [go_sem, ↓reduceIte, reduceCtorEq, Nat.reduceEqDiff, Nat.reduceAdd, Nat.reduceSub, Nat.reduceMul, Nat.reduceDiv, Nat.reduceMod, Nat.reduceLeDiff, Nat.reduceLT, Nat.reduceBEq, Int.reduceEq, Int.reduceBEq, Int.reduceBNe, Int.reduceLT, Int.reduceLE, Int.reduceAdd, Int.reduceSub, Int.reduceNeg, Int.reduceToNat, Int.reducePow, Nat.reducePow, Int.reduceMul, Int.reduceDiv, ↓s_ref24_Same_b0, hlen, hlt, hix1, hc1, hix2, hc2, pair_ne', hd]

theorem q_RSame (l m : List Pr) (v w : Value) (H : AHeap) (hv : Rd EPr H v l) (hw : Rd EPr H w m) (hl : l.length < 1152921504606846976) :
    CC F.ref24_Same [v, w] H = some (.bool (decide (l = m)), H) := by
  have l1 := hv.lenS
  have l2 := hw.lenS
  by_cases hlm : l.length = m.length
  · have hloop := l_sameP l m v w H hv hw hlm hl (endK Try.prog [.tmp 4]) l m 0 rfl rfl
    have he : decide ((l.length : Int) = (m.length : Int)) = true := decide_eq_true (by omega)
    apply pure_of _ (d_ref24_Same _ _ H) rfl
    rotate_left 2
    · simp (disch := first | with_reducible rfl | assumption | omega | rfl | (simp only [go_sem]; first | done | omega)) only [go_sem, ↓reduceIte, reduceCtorEq, Nat.reduceEqDiff, Nat.reduceAdd, Nat.reduceSub, Nat.reduceMul, Nat.reduceDiv, Nat.reduceMod, Nat.reduceLeDiff, Nat.reduceLT, Nat.reduceBEq, Int.reduceEq, Int.reduceBEq, Int.reduceBNe, Int.reduceLT, Int.reduceLE, Int.reduceAdd, Int.reduceSub, Int.reduceNeg, Int.reduceToNat, Int.reducePow, Nat.reducePow, Int.reduceMul, Int.reduceDiv, ↓s_ref24_Same, l1, l2, he]
      exact hloop
    · (repeat (first | exact Fr.refl _ | refine Fr.push ?_ _ | refine Fr.set ?_ _ _ (by intro h; first | omega | (simp only [go_sem] at h; omega))))
  · have he : decide ((l.length : Int) = (m.length : Int)) = false := decide_eq_false (by omega)
    have hd : decide (l = m) = false := decide_eq_false fun h => hlm (by rw [h])
    rw [hd]
    apply pure_of _ (d_ref24_Same _ _ H) rfl
    rotate_left 2
    · simp (disch := first | with_reducible rfl | assumption | omega | rfl | (simp only [go_sem]; first | done | omega)) only [go_sem, ↓reduceIte, reduceCtorEq, Nat.reduceEqDiff, Nat.reduceAdd, Nat.reduceSub, Nat.reduceMul, Nat.reduceDiv, Nat.reduceMod, Nat.reduceLeDiff, Nat.reduceLT, Nat.reduceBEq, Int.reduceEq, Int.reduceBEq, Int.reduceBNe, Int.reduceLT, Int.reduceLE, Int.reduceAdd, Int.reduceSub, Int.reduceNeg, Int.reduceToNat, Int.reducePow, Nat.reducePow, Int.reduceMul, Int.reduceDiv, ↓s_ref24_Same, l1, l2, he]
      rfl
    · (repeat (first | exact Fr.refl _ | refine Fr.push ?_ _ | refine Fr.set ?_ _ _ (by intro h; first | omega | (simp only [go_sem] at h; omega))))

end Go.Proofs.Ytlagijfkkpbbnaa
