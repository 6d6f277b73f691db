/-
  Chapter 24: the reference, Put, Insert, Delete, Swap.
  Conditions: none. By an AI agent.
-/
import Derived.Test.YtlagijfkkpbbnaaR
import Derived.Test.YtlagijfkkpbbnaaA
set_option maxRecDepth 10000
set_option linter.unusedSimpArgs false
set_option linter.unusedVariables false
namespace Go.Proofs.Ytlagijfkkpbbnaa
open Go Eng

theorem q_RPut_bad (b : Nat) (a : Pr) (H : AHeap) (hc : chk a.key [a.value] ≠ 0) :
    CC F.ref24_Model_Put [.pointer (some ⟨b, 0, none⟩), .string a.key, .string a.value] H = some (.int .i64 (chk a.key [a.value]), H) := by
  have hb := q_bad a.key [a.value] _ _ (rdOne a.value H) (by simp)
  generalize chk a.key [a.value] = e at hb hc
  apply pure_of _ (d_ref24_Model_Put _ _ _ H) rfl
  rotate_left 2
  · simp (disch := first | with_reducible rfl | assumption | omega | rfl | (simp only [go_sem]; first | done | omega)) only [go_sem, ↓reduceIte, reduceCtorEq, Nat.reduceEqDiff, Nat.reduceAdd, Nat.reduceSub, Nat.reduceMul, Nat.reduceDiv, Nat.reduceMod, Nat.reduceLeDiff, Nat.reduceLT, Nat.reduceBEq, Int.reduceEq, Int.reduceBEq, Int.reduceBNe, Int.reduceLT, Int.reduceLE, Int.reduceAdd, Int.reduceSub, Int.reduceNeg, Int.reduceToNat, Int.reducePow, Nat.reducePow, Int.reduceMul, Int.reduceDiv, ↓s_ref24_Model_Put, enterK_eq hb, hc]
    rfl
  · (repeat (first | exact Fr.refl _ | refine Fr.push ?_ _ | refine Fr.set ?_ _ _ (by intro h; first | omega | (simp only [go_sem] at h; omega))))

theorem l_RPut (b : Nat) (l : List Pr) (v : Value) (key val : ByteArray) (H : AHeap) (hf : H.f b = .cells [v] T.ref24_Model true) (hr : Rd EPr H v l) (hl : l.length < 4611686018427387904) (K : K) : ∀ (m : List Pr) (i : Nat), l.drop i = m → i ≤ l.length →
    l_ref24_Model_Put_0 (.pointer (some ⟨b, 0, none⟩)) (.string key) (.string val) (.int .i64 i) H (blkK [0, 1, 2, 9] 0 K) = K .normal [(0, .pointer (some ⟨b, 0, none⟩)), (1, .string key), (2, .string val), (9, .int .i64 ((i + posP m key : Nat) : Int))] H
  | [], i, hm, hi => by
    have h : l.length ≤ i := List.drop_eq_nil_iff.1 hm
    have hlt : ¬ (i : Int) < (l.length : Int) := by omega
    have hlen := hr.lenS
    rw [r_ref24_Model_Put_0, posP, Nat.add_zero]
    simp (disch := first | with_reducible rfl | assumption | omega | rfl | (simp only [go_sem]; first | done | omega)) only [go_sem, ↓reduceIte, reduceCtorEq, Nat.reduceEqDiff, Nat.reduceAdd, Nat.reduceSub, Nat.reduceMul, Nat.reduceDiv, Nat.reduceMod, Nat.reduceLeDiff, Nat.reduceLT, Nat.reduceBEq, Int.reduceEq, Int.reduceBEq, Int.reduceBNe, Int.reduceLT, Int.reduceLE, Int.reduceAdd, Int.reduceSub, Int.reduceNeg, Int.reduceToNat, Int.reducePow, Nat.reducePow, Int.reduceMul, Int.reduceDiv, ↓s_ref24_Model_Put_b0, hf, hlen, decide_eq_false hlt]
  | a :: m, i, hm, hi => by
    obtain ⟨h, ha, hm'⟩ := drop_cons hm
    have hlt : (i : Int) < (l.length : Int) := by omega
    have hlen := hr.lenS
    have ih := l_RPut b l v key val H hf hr hl K m (i + 1) hm' h
    obtain ⟨bb, o, hix, hb, hc, _⟩ := hr.ix (q := .i64) h
    rw [ha] at hc
    have hix : ixS 2 v (.int .i64 i) = some (.pointer (some ⟨bb, o, none⟩)) := hix
    have hc : cellB (H.f bb) o = some (.string a.key) := cutB_cell hc (i := 0) (by decide)
    rw [Int.natCast_add i 1, show i + 1 + posP m key = i + (posP m key + 1) by omega] at ih
    rw [r_ref24_Model_Put_0, posP]
    by_cases he : cmpS a.key key < 0
    · rw [if_pos he]
      simp (disch := first | with_reducible rfl | assumption | omega | rfl | (simp only [go_sem]; first | done | omega)) only [go_sem, ↓reduceIte, reduceCtorEq, Nat.reduceEqDiff, Nat.reduceAdd, Nat.reduceSub, Nat.reduceMul, Nat.reduceDiv, Nat.reduceMod, Nat.reduceLeDiff, Nat.reduceLT, Nat.reduceBEq, Int.reduceEq, Int.reduceBEq, Int.reduceBNe, Int.reduceLT, Int.reduceLE, Int.reduceAdd, Int.reduceSub, Int.reduceNeg, Int.reduceToNat, Int.reducePow, Nat.reducePow, Int.reduceMul, Int.reduceDiv, ↓s_ref24_Model_Put_b0, hf, hlen, decide_eq_true hlt, hix, hc, less_cmpS, decide_eq_true he]
      exact ih
    · rw [if_neg he, Nat.add_zero]
      simp (disch := first | with_reducible rfl | assumption | omega | rfl | (simp only [go_sem]; first | done | omega)) only [go_sem, ↓reduceIte, reduceCtorEq, Nat.reduceEqDiff, Nat.reduceAdd, Nat.reduceSub, Nat.reduceMul, Nat.reduceDiv, Nat.reduceMod, Nat.reduceLeDiff, Nat.reduceLT, Nat.reduceBEq, Int.reduceEq, Int.reduceBEq, Int.reduceBNe, Int.reduceLT, Int.reduceLE, Int.reduceAdd, Int.reduceSub, Int.reduceNeg, Int.reduceToNat, Int.reducePow, Nat.reducePow, Int.reduceMul, Int.reduceDiv, ↓s_ref24_Model_Put_b0, hf, hlen, decide_eq_true hlt, hix, hc, less_cmpS, decide_eq_false he]

theorem q_RPut (b : Nat) (l : List Pr) (a : Pr) (H : AHeap) (ok : Ok H) (r : MdlR H b l) (hs : Srt l) (hl : l.length ≤ 20000) (hc : chk a.key [a.value] = 0) :
    ∃ H', CC F.ref24_Model_Put [.pointer (some ⟨b, 0, none⟩), .string a.key, .string a.value] H = some (.int .i64 (putP l a (posP l a.key)).1, H') ∧ MdlR H' b (putP l a (posP l a.key)).2 ∧ UpT T.ref24_Model H b H' := by
  generalize hH1 : H.push (.cells [.string a.value] T.string true) = H1
  have s1 : Still H H1 := by rw [← hH1]; exact (Fr.refl H).push _
  have n1 : H1.n = H.n + 1 := by rw [← hH1]; rfl
  have hb := q_bad a.key [a.value] _ _ (rdOne a.value H) (by simp)
  rw [hH1, hc] at hb
  have r1 := r.still s1
  have hf := q_find b l a.key H1 r1 (by omega)
  rw [findP_eq hs] at hf
  have hpl := posP_le l a.key
  have hlo := fun v h1 h3 => l_RPut b l v a.key a.value H1 h1 h3 (by omega)
  generalize hp : posP l a.key = p at hf hpl ⊢
  obtain ⟨v, h1, h2, h3, h4⟩ := id r1
  have hlen := h3.rd.lenS
  unfold putP
  cases his : isP l a.key p with
  | true =>
    obtain ⟨hlt, hkey⟩ := isP_eq his
    rw [his] at hf
    simp only [if_true] at hf ⊢
    have hge : (0 : Int) ≤ (p : Int) := by omega
    obtain ⟨v2, H2, happ, ho2, fr2, hb2⟩ := (Own.nil (E := EPr) (H := H1) (e := T.api_Pair)).appE (m := l) (sz := 2) (bytes := 32) rfl (by simp; omega) (by simp; omega) (h3.rd.src (sz := 2) rfl)
    have hb2' : ∀ c, blockOf v2 = some c → H1.n ≤ c := fun c h => by
      rcases hb2 with hb2 | hb2
      · rw [hb2] at h; cases h
      · rw [hb2] at h; cases h; exact Nat.le_refl _
    have fr2 : Still H1 H2 := fr2.mono fun c _ h => by unfold OnlyOf at h; cases h
    have hone : one v2 = true := ho2.cell
    have fb2 : H2.f b = .cells [v] T.ref24_Model true := by rw [fr2.f h2 (fun h => h), h1]
    have n2 : H1.n ≤ H2.n := fr2.n
    generalize hH3 : H2.set b (.cells [v2] T.ref24_Model true) = H3
    have f3 : H3.f b = .cells [v2] T.ref24_Model true := by rw [← hH3]; exact set_f_eq
    have fr3 : Fr (fun c => c = b) H2 H3 := by rw [← hH3]; exact Fr.set (Fr.refl H2) b _ fun _ => rfl
    have n3 : H3.n = H2.n := by rw [← hH3]; rfl
    have ho3 : Own EPr H3 T.api_Pair v2 l := ho2.keep fr3 fun c hc h => by have := hb2' c hc; omega
    obtain ⟨bb, o, H4, hix, hw, ho4, hbv, hbn, hn4, fr4⟩ := ho3.writeV hlt a.value
    have hbb : H1.n ≤ bb := hb2' bb hbv
    have fr : Fr (MBT T.ref24_Model H b) H H4 := by
      have t1 : Fr (fun c => c = b) H H2 := (s1.then fr2 fun _ _ h => h).still
      refine ((t1.then fr3 fun c _ h => h).then fr4 fun c hc h => ?_).mono fun c hc h => .inl h
      omega
    have f4 : H4.f b = .cells [v2] T.ref24_Model true := by rw [fr4.f (by omega) (by omega), f3]
    have hm : MdlR H4 b (l.set p a) := by
      have ha : (⟨l[p].key, a.value⟩ : Pr) = a := by rw [hkey]
      rw [ha] at ho4
      exact ⟨v2, f4, by omega, ho4, fun h => by have := hb2' b h; omega⟩
    obtain ⟨v0, g1, g2, g3, g4⟩ := id r
    have hup : UpT T.ref24_Model H b H4 := UpT.of g1 fr f4 fun c hc => .inr (by have := hb2' c hc; omega)
    obtain ⟨H'', ht, hm', hf'⟩ := Mdl.tidied (v := .int .i64 0) ok r hm hup
    refine ⟨H'', (d_ref24_Model_Put _ _ _ H (r := (.int .i64 0, H4)) ?_).trans (congrArg some ht), hm', hf'⟩
    simp (disch := first | with_reducible rfl | assumption | omega | rfl | (simp only [go_sem]; first | done | omega)) only [go_sem, ↓reduceIte, reduceCtorEq, Nat.reduceEqDiff, Nat.reduceAdd, Nat.reduceSub, Nat.reduceMul, Nat.reduceDiv, Nat.reduceMod, Nat.reduceLeDiff, Nat.reduceLT, Nat.reduceBEq, Int.reduceEq, Int.reduceBEq, Int.reduceBNe, Int.reduceLT, Int.reduceLE, Int.reduceAdd, Int.reduceSub, Int.reduceNeg, Int.reduceToNat, Int.reducePow, Nat.reducePow, Int.reduceMul, Int.reduceDiv, ↓s_ref24_Model_Put, hH1, enterK_eq hb, enterK_eq hf, decide_eq_true hge, h1, happ, fb2, hH3, f3, hix, hw]
  | false =>
    rw [his] at hf
    simp only [Bool.false_eq_true, if_false] at hf ⊢
    by_cases hfull : l.length = 20000
    · rw [if_pos hfull]
      have hge : (20000 : Int) ≤ (l.length : Int) := by omega
      refine ⟨H, ?_, r, UpT.refl H b⟩
      refine pure_of (H' := H1) ?_ (d_ref24_Model_Put _ _ _ H) rfl s1
      simp (disch := first | with_reducible rfl | assumption | omega | rfl | (simp only [go_sem]; first | done | omega)) only [go_sem, ↓reduceIte, reduceCtorEq, Nat.reduceEqDiff, Nat.reduceAdd, Nat.reduceSub, Nat.reduceMul, Nat.reduceDiv, Nat.reduceMod, Nat.reduceLeDiff, Nat.reduceLT, Nat.reduceBEq, Int.reduceEq, Int.reduceBEq, Int.reduceBNe, Int.reduceLT, Int.reduceLE, Int.reduceAdd, Int.reduceSub, Int.reduceNeg, Int.reduceToNat, Int.reducePow, Nat.reducePow, Int.reduceMul, Int.reduceDiv, ↓s_ref24_Model_Put, hH1, enterK_eq hb, enterK_eq hf, h1, hlen, decide_eq_true hge]
    · rw [if_neg hfull]
      have hge : ¬ (20000 : Int) ≤ (l.length : Int) := by omega
      -- the rest
      generalize hH2 : H1.push (.cells [.string a.key, .string a.value] T.api_Pair true) = H2
      have s2 : Still H1 H2 := by rw [← hH2]; exact (Fr.refl H1).push _
      have n2 : H2.n = H1.n + 1 := by rw [← hH2]; rfl
      have f2 : H2.f H1.n = .cells [.string a.key, .string a.value] T.api_Pair true := by rw [← hH2]; exact push_f_eq rfl
      have fb2 : H2.f b = .cells [v] T.ref24_Model true := by rw [s2.f h2 (fun h => h), h1]
      have o2 := h3.still s2
      obtain ⟨v75, hs75, ho75, _⟩ := o2.drop (sz := 2) rfl hpl (q := .i64)
      have rl : Rd EPr H2 (.slice (some ⟨H1.n, 0, none⟩) 1 (2 * 1)) [a] := .inr (.inr ⟨H1.n, 0, _, rfl, by simp, by omega, by rw [f2]; rfl⟩)
      obtain ⟨v76, H3, happ76, hr76, s3, _⟩ := rl.appX (e := T.api_Pair) (m := l.drop p) (sz := 2) (bytes := 32) rfl (by simp; omega) (by simp; omega) (ho75.rd.src (sz := 2) rfl) (by simp)
      have happ76 : app T.api_Pair 2 32 (.slice (some ⟨H1.n, 0, none⟩) 1 2) (srcS 2 v75 H2) H2 = some (v76, H3) := happ76
      have fb3 : H3.f b = .cells [v] T.ref24_Model true := by rw [s3.f (by omega) (fun h => h), fb2]
      have n3 : H2.n ≤ H3.n := s3.n
      obtain ⟨v83, hs83, hr83⟩ := (o2.still s3).hi (sz := 2) rfl hpl (q := .i64)
      obtain ⟨v84, H4, happ84, ho84, fr4, hb84⟩ := (Own.nil (E := EPr) (H := H3) (e := T.api_Pair)).appE (m := l.take p) (sz := 2) (bytes := 32) rfl (by simp; omega) (by simp; omega) (hr83.src (sz := 2) rfl)
      have s4 : Still H3 H4 := fr4.mono fun c _ h => by unfold OnlyOf at h; cases h
      have n4 : H3.n ≤ H4.n := s4.n
      obtain ⟨v86, H5, happ86, ho86, fr5, hb86⟩ := ho84.appE (m := a :: l.drop p) (sz := 2) (bytes := 32) rfl (by simp; omega) (by simp; omega) ((hr76.still s4).src (sz := 2) rfl)
      have hb84' : ∀ c, blockOf v84 = some c → H3.n ≤ c := fun c h => by
        rcases hb84 with hb | hb
        · rw [hb] at h; cases h
        · rw [hb] at h; cases h; exact Nat.le_refl _
      have hb86' : ∀ c, blockOf v86 = some c → H3.n ≤ c := fun c h => by
        rcases hb86 with hb | hb
        · rw [hb] at h; exact hb84' c h
        · rw [hb] at h; cases h; exact n4
      have n5 : H4.n ≤ H5.n := fr5.n
      have t3 : Still H H3 := ((s1.then s2 fun _ _ h => h).still.then s3 fun _ _ h => h)
      have t4 : Still H H4 := t3.still.then s4 fun _ _ h => h
      have t5 : Still H H5 := t4.still.then fr5 fun c hc h => by have := hb84' c h; omega
      have fb5 : H5.f b = .cells [v] T.ref24_Model true := by
        obtain ⟨v0, g1, g2, _⟩ := id r
        rw [t5.f g2 (fun h => h), g1]
        rw [s1.f g2 (fun h => h), g1] at h1
        exact h1
      have fb4 : H4.f b = .cells [v] T.ref24_Model true := by rw [s4.f (by omega) (fun h => h), fb3]
      have hone : one v86 = true := ho86.cell
      generalize hH6 : H5.set b (.cells [v86] T.ref24_Model true) = H6
      have f6 : H6.f b = .cells [v86] T.ref24_Model true := by rw [← hH6]; exact set_f_eq
      have fr6 : Fr (fun c => c = b) H5 H6 := by rw [← hH6]; exact Fr.set (Fr.refl H5) b _ fun _ => rfl
      have n6 : H6.n = H5.n := by rw [← hH6]; rfl
      have hm : MdlR H6 b (l.take p ++ a :: l.drop p) := ⟨v86, f6, by omega, ho86.keep fr6 fun c hc h => by have := hb86' c hc; omega, fun h => by have := hb86' b h; omega⟩
      obtain ⟨v0, g1, g2, g3, g4⟩ := id r
      have hup : UpT T.ref24_Model H b H6 := UpT.of g1 (t5.still.then fr6 fun c _ h => .inl h) f6 fun c hc => .inr (by have := hb86' c hc; omega)
      obtain ⟨H'', ht, hm', hf'⟩ := Mdl.tidied (v := .int .i64 0) ok r hm hup
      have hloop := hlo v h1 h3.rd (seqK (fun tT_3 h27 =>
        bareK (bldS #[(.string (mk [])), (.string (mk []))] [(0, 1), (1, 1)] [(0, (get tT_3 1)), (1, (get tT_3 2))]) h27 fun t68 h28 =>
        bothK (bldL T.api_Pair [(.string (mk [])), (.string (mk []))] 1 [(0, t68)] h28) fun t69 h29 =>
        bareK (xnilCheck (get tT_3 0)) h29 fun t71 h30 =>
        bareK (fad 0 t71) h30 fun t72 h31 =>
        bareK (ld1 h31 t72) h31 fun t73 h32 =>
        bareK (slS T.api_Pair 2 t73 (some (get tT_3 9)) none none h32) h32 fun t75 h33 =>
        bothK (app T.api_Pair 2 32 t69 (srcS 2 t75 h33) h33) fun t76 h34 =>
        bareK (xnilCheck (get tT_3 0)) h34 fun t79 h35 =>
        bareK (fad 0 t79) h35 fun t80 h36 =>
        bareK (ld1 h36 t80) h36 fun t81 h37 =>
        bareK (slS T.api_Pair 2 t81 none (some (get tT_3 9)) none h37) h37 fun t83 h38 =>
        bothK (app T.api_Pair 2 32 (.slice none 0 0) (srcS 2 t83 h38) h38) fun t84 h39 =>
        bothK (app T.api_Pair 2 32 t84 (srcS 2 t76 h39) h39) fun t86 h40 =>
        bareK (xnilCheck (get tT_3 0)) h40 fun t87 h41 =>
        bareK (fad 0 t87) h41 fun t88 h42 =>
        quietK (st1 h42 t88 t86) fun _ h43 =>
        endK Try.prog [.tmp 6] .ret [(6, (.int .i64 0))] h43) (endK Try.prog [.tmp 6])) l 0 rfl (by omega)
      rw [hp, Nat.zero_add] at hloop
      refine ⟨H'', (d_ref24_Model_Put _ _ _ H (r := (.int .i64 0, H6)) ?_).trans (congrArg some ht), hm', hf'⟩
      simp (disch := first | with_reducible rfl | assumption | omega | rfl | (simp only [go_sem]; first | done | omega)) only [go_sem, ↓reduceIte, reduceCtorEq, Nat.reduceEqDiff, Nat.reduceAdd, Nat.reduceSub, Nat.reduceMul, Nat.reduceDiv, Nat.reduceMod, Nat.reduceLeDiff, Nat.reduceLT, Nat.reduceBEq, Int.reduceEq, Int.reduceBEq, Int.reduceBNe, Int.reduceLT, Int.reduceLE, Int.reduceAdd, Int.reduceSub, Int.reduceNeg, Int.reduceToNat, Int.reducePow, Nat.reducePow, Int.reduceMul, Int.reduceDiv, ↓s_ref24_Model_Put, hH1, enterK_eq hb, enterK_eq hf, h1, hlen, decide_eq_false hge]
      refine hloop.trans ?_
      simp (disch := first | with_reducible rfl | assumption | omega | rfl | (simp only [go_sem]; first | done | omega)) only [go_sem, ↓reduceIte, reduceCtorEq, Nat.reduceEqDiff, Nat.reduceAdd, Nat.reduceSub, Nat.reduceMul, Nat.reduceDiv, Nat.reduceMod, Nat.reduceLeDiff, Nat.reduceLT, Nat.reduceBEq, Int.reduceEq, Int.reduceBEq, Int.reduceBNe, Int.reduceLT, Int.reduceLE, Int.reduceAdd, Int.reduceSub, Int.reduceNeg, Int.reduceToNat, Int.reducePow, Nat.reducePow, Int.reduceMul, Int.reduceDiv, hH2, fb2, hs75, happ76, fb3, hs83, happ84, happ86, fb5, hH6]

end Go.Proofs.Ytlagijfkkpbbnaa
