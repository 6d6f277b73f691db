/-
  Chapter 24: gets, deletes, ends, alike, does.
  Conditions: none. By an AI agent.
-/
import Derived.Test.YtlagijfkkpbbnaaT
set_option maxRecDepth 10000
set_option linter.unusedSimpArgs false
set_option linter.unusedVariables false
namespace Go.Proofs.Ytlagijfkkpbbnaa
open Go Eng

/-- A call. -/
structure Act where
  what : Int
  key : ByteArray
  value : ByteArray
  old : ByteArray
  limit : Int
def EAct : Enc Act := ⟨5, fun a => [.int .i64 a.what, .string a.key, .string a.value, .string a.old, .int .i64 a.limit], fun _ => rfl, by decide, fun _ => rfl⟩

def shortA (a : Act) : Bool := decide (((bl a.key).length : Int) ≤ 60) && decide (((bl a.value).length : Int) ≤ 60) && decide (((bl a.old).length : Int) ≤ 60)
@[go_sem] theorem xload_Act {a : Value} {H : AHeap} : xload Try.prog T.law_Act a H = ldN 5 H a := by kernel_rfl

theorem q_short (a : Act) (H : AHeap) : CC F.law_short [.agg #[.int .i64 a.what, .string a.key, .string a.value, .string a.old, .int .i64 a.limit]] H = some (.bool (shortA a), H) := by
  unfold shortA
  by_cases h1 : ((bl a.key).length : Int) ≤ 60
  · by_cases h2 : ((bl a.value).length : Int) ≤ 60
    · apply pure_of _ (d_law_short _ H) rfl
      rotate_left 2
      · simp (disch := first | with_reducible rfl | assumption | omega | rfl | (simp only [go_sem]; first | done | omega)) only [go_sem, ↓reduceIte, reduceCtorEq, Nat.reduceEqDiff, Nat.reduceAdd, Nat.reduceSub, Nat.reduceMul, Nat.reduceDiv, Nat.reduceMod, Nat.reduceLeDiff, Nat.reduceLT, Nat.reduceBEq, Int.reduceEq, Int.reduceBEq, Int.reduceBNe, Int.reduceLT, Int.reduceLE, Int.reduceAdd, Int.reduceSub, Int.reduceNeg, Int.reduceToNat, Int.reducePow, Nat.reducePow, Int.reduceMul, Int.reduceDiv, ↓s_law_short, decide_eq_true h1, decide_eq_true h2]
        rfl
      · (repeat (first | exact Fr.refl _ | refine Fr.push ?_ _ | refine Fr.set ?_ _ _ (by intro h; first | omega | (simp only [go_sem] at h; omega))))
    · apply pure_of _ (d_law_short _ H) rfl
      rotate_left 2
      · simp (disch := first | with_reducible rfl | assumption | omega | rfl | (simp only [go_sem]; first | done | omega)) only [go_sem, ↓reduceIte, reduceCtorEq, Nat.reduceEqDiff, Nat.reduceAdd, Nat.reduceSub, Nat.reduceMul, Nat.reduceDiv, Nat.reduceMod, Nat.reduceLeDiff, Nat.reduceLT, Nat.reduceBEq, Int.reduceEq, Int.reduceBEq, Int.reduceBNe, Int.reduceLT, Int.reduceLE, Int.reduceAdd, Int.reduceSub, Int.reduceNeg, Int.reduceToNat, Int.reducePow, Nat.reducePow, Int.reduceMul, Int.reduceDiv, ↓s_law_short, decide_eq_true h1, decide_eq_false h2]
        rfl
      · (repeat (first | exact Fr.refl _ | refine Fr.push ?_ _ | refine Fr.set ?_ _ _ (by intro h; first | omega | (simp only [go_sem] at h; omega))))
  · apply pure_of _ (d_law_short _ H) rfl
    rotate_left 2
    · simp (disch := first | with_reducible rfl | assumption | omega | rfl | (simp only [go_sem]; first | done | omega)) only [go_sem, ↓reduceIte, reduceCtorEq, Nat.reduceEqDiff, Nat.reduceAdd, Nat.reduceSub, Nat.reduceMul, Nat.reduceDiv, Nat.reduceMod, Nat.reduceLeDiff, Nat.reduceLT, Nat.reduceBEq, Int.reduceEq, Int.reduceBEq, Int.reduceBNe, Int.reduceLT, Int.reduceLE, Int.reduceAdd, Int.reduceSub, Int.reduceNeg, Int.reduceToNat, Int.reducePow, Nat.reducePow, Int.reduceMul, Int.reduceDiv, ↓s_law_short, decide_eq_false h1]
      rfl
    · (repeat (first | exact Fr.refl _ | refine Fr.push ?_ _ | refine Fr.set ?_ _ _ (by intro h; first | omega | (simp only [go_sem] at h; omega))))

theorem getE_shape (l : List Pr) (key : ByteArray) : ∃ s e, getE l key = .tuple #[.string s, .int .i64 e] := by
  unfold getE getP
  split
  · split <;> exact ⟨_, _, rfl⟩
  · exact ⟨_, _, rfl⟩

theorem q_gets (b : Nat) (l : List Pr) (key s : ByteArray) (e : Int) (H : AHeap) (r : Mdl H b l) (hs : Srt l) (hl : l.length ≤ 20000) (h : getE l key = .tuple #[.string s, .int .i64 e]) :
    CC F.law_gets [.pointer (some ⟨b, 0, none⟩), .string key, .string s, .int .i64 e] H = some (.bool true, H) := by
  have hg := q_getM b l key H r hs hl
  rw [h] at hg
  apply pure_of _ (d_law_gets _ _ _ _ H) rfl
  rotate_left 2
  · simp (disch := first | with_reducible rfl | assumption | omega | rfl | (simp only [go_sem]; first | done | omega)) only [go_sem, ↓reduceIte, reduceCtorEq, Nat.reduceEqDiff, Nat.reduceAdd, Nat.reduceSub, Nat.reduceMul, Nat.reduceDiv, Nat.reduceMod, Nat.reduceLeDiff, Nat.reduceLT, Nat.reduceBEq, Int.reduceEq, Int.reduceBEq, Int.reduceBNe, Int.reduceLT, Int.reduceLE, Int.reduceAdd, Int.reduceSub, Int.reduceNeg, Int.reduceToNat, Int.reducePow, Nat.reducePow, Int.reduceMul, Int.reduceDiv, ↓s_law_gets, enterK_eq hg]
    rfl
  · (repeat (first | exact Fr.refl _ | refine Fr.push ?_ _ | refine Fr.set ?_ _ _ (by intro h; first | omega | (simp only [go_sem] at h; omega))))

theorem q_deletes (b : Nat) (l : List Pr) (key s : ByteArray) (e : Int) (H : AHeap) (ok : Ok H) (r : Mdl H b l) (hs : Srt l) (hl : l.length ≤ 20000) (h : getE l key = .tuple #[.string s, .int .i64 e]) :
    ∃ H', CC F.law_deletes [.pointer (some ⟨b, 0, none⟩), .string key, .string s, .int .i64 e] H = some (.bool true, H') ∧ Mdl H' b (delE l key) ∧ Up H b H' := by
  obtain ⟨H', hd, hm, hu⟩ := q_delM b l key H ok r hs hl
  rw [h] at hd
  obtain ⟨H'', ht, hm', hu'⟩ := Mdl.tidied (v := .bool true) ok r hm hu
  refine ⟨H'', (d_law_deletes _ _ _ _ H (r := (.bool true, H')) ?_).trans (congrArg some ht), hm', hu'⟩
  simp (disch := first | with_reducible rfl | assumption | omega | rfl | (simp only [go_sem]; first | done | omega)) only [go_sem, ↓reduceIte, reduceCtorEq, Nat.reduceEqDiff, Nat.reduceAdd, Nat.reduceSub, Nat.reduceMul, Nat.reduceDiv, Nat.reduceMod, Nat.reduceLeDiff, Nat.reduceLT, Nat.reduceBEq, Int.reduceEq, Int.reduceBEq, Int.reduceBNe, Int.reduceLT, Int.reduceLE, Int.reduceAdd, Int.reduceSub, Int.reduceNeg, Int.reduceToNat, Int.reducePow, Nat.reducePow, Int.reduceMul, Int.reduceDiv, ↓s_law_deletes, enterK_eq hd]

theorem q_ends (b : Nat) (l : List Pr) (lo hi : Pr) (e : Int) (H : AHeap) (r : Mdl H b l) (hl : l.length ≤ 20000) (h1 : endV l.head? = .tuple #[.agg #[.string lo.key, .string lo.value], .int .i64 e]) (h2 : endV l.getLast? = .tuple #[.agg #[.string hi.key, .string hi.value], .int .i64 e]) :
    CC F.law_ends [.pointer (some ⟨b, 0, none⟩), .agg #[.string lo.key, .string lo.value], .agg #[.string hi.key, .string hi.value], .int .i64 e] H = some (.bool true, H) := by
  generalize hH1 : H.push (.cells [.string lo.key, .string lo.value] T.api_Pair true) = H1
  have s1 : Still H H1 := by rw [← hH1]; exact (Fr.refl H).push _
  have n1 : H1.n = H.n + 1 := by rw [← hH1]; rfl
  have f1 : H1.f H.n = .cells [.string lo.key, .string lo.value] T.api_Pair true := by rw [← hH1]; exact push_f_eq rfl
  generalize hH2 : H1.push (.cells [.string hi.key, .string hi.value] T.api_Pair true) = H2
  have s2 : Still H1 H2 := by rw [← hH2]; exact (Fr.refl H1).push _
  have n2 : H2.n = H1.n + 1 := by rw [← hH2]; rfl
  have f2 : H2.f H1.n = .cells [.string hi.key, .string hi.value] T.api_Pair true := by rw [← hH2]; exact push_f_eq rfl
  have f21 : H2.f H.n = .cells [.string lo.key, .string lo.value] T.api_Pair true := by rw [s2.f (by omega) (fun h => h), f1]
  have hmin := q_Min b l H2 ((r.still s1).still s2)
  rw [h1] at hmin
  generalize hH3 : (H2.push (.cells [.string (mk []), .string (mk [])] T.api_Pair true)).set H2.n (.cells [.string lo.key, .string lo.value] T.api_Pair true) = H3
  have s3 : Still H2 H3 := by rw [← hH3]; exact Fr.set ((Fr.refl H2).push _) _ _ (fun h => by omega)
  have n3 : H3.n = H2.n + 1 := by rw [← hH3]; rfl
  have f3 : H3.f H2.n = .cells [.string lo.key, .string lo.value] T.api_Pair true := by rw [← hH3]; exact set_f_eq
  have f31 : H3.f H1.n = .cells [.string hi.key, .string hi.value] T.api_Pair true := by rw [s3.f (by omega) (fun h => h), f2]
  have f30 : H3.f H.n = .cells [.string lo.key, .string lo.value] T.api_Pair true := by rw [s3.f (by omega) (fun h => h), f21]
  have hmax := q_Max b l (by omega) H3 (((r.still s1).still s2).still s3)
  rw [h2] at hmax
  have st : Still H H3 := ((s1.then s2 fun _ _ h => h).still.then s3 fun _ _ h => h)
  apply pure_of _ (d_law_ends _ _ _ _ H) rfl
  rotate_left 2
  · simp (disch := first | with_reducible rfl | assumption | omega | rfl | (simp only [go_sem]; first | done | omega)) only [go_sem, ↓reduceIte, reduceCtorEq, Nat.reduceEqDiff, Nat.reduceAdd, Nat.reduceSub, Nat.reduceMul, Nat.reduceDiv, Nat.reduceMod, Nat.reduceLeDiff, Nat.reduceLT, Nat.reduceBEq, Int.reduceEq, Int.reduceBEq, Int.reduceBNe, Int.reduceLT, Int.reduceLE, Int.reduceAdd, Int.reduceSub, Int.reduceNeg, Int.reduceToNat, Int.reducePow, Nat.reducePow, Int.reduceMul, Int.reduceDiv, ↓s_law_ends, hH1, hH2, enterK_eq hmin, hH3, enterK_eq hmax, f3, f30, f31, pair_eq']
    rfl
  · exact Fr.set (st.push _) _ _ (fun h => by have := st.n; omega)

/-! ### alike -/
theorem l_alike (bm bx : Nat) (Hz : AHeap) : ∀ (d i : Nat) (m : List Pr) (v : Value) (H : AHeap), m.length - i = d → i ≤ m.length → m.length ≤ 20000 → Still Hz H → Own EPr H T.api_Pair v m → (∀ c, blockOf v = some c → Hz.n ≤ c) → ∃ H', Still Hz H' ∧ ∀ K : K,
    l_law_alike_0 (.pointer (some ⟨bm, 0, none⟩)) (.pointer (some ⟨bx, 0, none⟩)) v (.int .i64 i) H (blkK [0, 1] 0 K) = K .normal [(0, .pointer (some ⟨bm, 0, none⟩)), (1, .pointer (some ⟨bx, 0, none⟩))] H'
  | 0, i, m, v, H, hd, hi, hl, hs, ho, hb => by
    have hlt : ¬ (i : Int) < (m.length : Int) := by omega
    have hlen := ho.rd.lenS
    refine ⟨H, hs, fun K => ?_⟩
    rw [r_law_alike_0]
    simp (disch := first | with_reducible rfl | assumption | omega | rfl | (simp only [go_sem]; first | done | omega)) only [go_sem, ↓reduceIte, reduceCtorEq, Nat.reduceEqDiff, Nat.reduceAdd, Nat.reduceSub, Nat.reduceMul, Nat.reduceDiv, Nat.reduceMod, Nat.reduceLeDiff, Nat.reduceLT, Nat.reduceBEq, Int.reduceEq, Int.reduceBEq, Int.reduceBNe, Int.reduceLT, Int.reduceLE, Int.reduceAdd, Int.reduceSub, Int.reduceNeg, Int.reduceToNat, Int.reducePow, Nat.reducePow, Int.reduceMul, Int.reduceDiv, ↓s_law_alike_b0, hlen, hlt]
  | d + 1, i, m, v, H, hd, hi, hl, hs, ho, hb => by
    have h : i < m.length := by omega
    have hlt : (i : Int) < (m.length : Int) := by omega
    have hlen := ho.rd.lenS
    obtain ⟨b, o, H1, hix, hw, ho1, hbv, hbn, hn1, fr1⟩ := ho.writeV h (mk [111, 116, 104, 101, 114])
    have s1 : Still Hz H1 := hs.still.then fr1 fun c hc h => by have := hb b hbv; omega
    obtain ⟨H', s', ih⟩ := l_alike bm bx Hz d (i + 1) _ v H1 (by simp; omega) (by simp; omega) (by simpa using hl) s1 ho1 hb
    refine ⟨H', s', fun K => ?_⟩
    have ih := ih K
    rw [Int.natCast_add] at ih
    rw [r_law_alike_0]
    simp (disch := first | with_reducible rfl | assumption | omega | rfl | (simp only [go_sem]; first | done | omega)) only [go_sem, ↓reduceIte, reduceCtorEq, Nat.reduceEqDiff, Nat.reduceAdd, Nat.reduceSub, Nat.reduceMul, Nat.reduceDiv, Nat.reduceMod, Nat.reduceLeDiff, Nat.reduceLT, Nat.reduceBEq, Int.reduceEq, Int.reduceBEq, Int.reduceBNe, Int.reduceLT, Int.reduceLE, Int.reduceAdd, Int.reduceSub, Int.reduceNeg, Int.reduceToNat, Int.reducePow, Nat.reducePow, Int.reduceMul, Int.reduceDiv, ↓s_law_alike_b0, hlen, hlt, hix, hw]
    exact ih

theorem endV_last {l : List Pr} (h : 0 < l.length) : endV l.getLast? = .tuple #[.agg #[.string (l[l.length - 1]'(by omega)).key, .string (l[l.length - 1]'(by omega)).value], .int .i64 0] := by
  rw [List.getLast?_eq_getElem?, List.getElem?_eq_getElem (by omega)]
  rfl

theorem q_alike (bm bx : Nat) (l : List Pr) (H : AHeap) (m : Mdl H bm l) (x : MdlR H bx l) (hl : l.length ≤ 20000) :
    CC F.law_alike [.pointer (some ⟨bm, 0, none⟩), .pointer (some ⟨bx, 0, none⟩)] H = some (.bool true, H) := by
  have hlen := q_Len bm l H m
  obtain ⟨vx, g1, g2, g3, g4⟩ := id x
  have hlenx := g3.rd.lenS
  obtain ⟨v1, H1, hp1, ho1, s1, hn1⟩ := q_Pairs bm l H m (by omega)
  have f1 : H1.f bx = .cells [vx] T.ref24_Model true := by rw [s1.f g2 (fun h => h), g1]
  have hs1 := q_RSame l l v1 vx H1 ho1.rd (g3.still s1).rd (by omega)
  rw [decide_eq_true rfl] at hs1
  obtain ⟨H2, s2, hloop⟩ := l_alike bm bx H l.length 0 l v1 H1 (by omega) (by omega) hl s1 ho1 hn1
  have f2 : H2.f bx = .cells [vx] T.ref24_Model true := by rw [s2.f g2 (fun h => h), g1]
  obtain ⟨v3, H3, hp3, ho3, s3, hn3⟩ := q_Pairs bm l H2 (m.still s2) (by omega)
  have s23 : Still H H3 := s2.still.then s3 fun _ _ h => h
  have f3 : H3.f bx = .cells [vx] T.ref24_Model true := by rw [s23.f g2 (fun h => h), g1]
  have hs3 := q_RSame l l v3 vx H3 ho3.rd (g3.still s23).rd (by omega)
  rw [decide_eq_true rfl] at hs3
  have hlt2 : bx < H2.n := Nat.lt_of_lt_of_le g2 s2.n
  have hver : H3.ver bx = H2.ver bx := s3.ver hlt2 (fun h => h)
  have hnn : H2.n ≤ H3.n := s3.n
  by_cases h0 : l = []
  · subst h0
    have he := q_ends bm [] ⟨mk [], mk []⟩ ⟨mk [], mk []⟩ 9 H3 (m.still s23) (by simp) rfl rfl
    have hlenx : lenS vx = some (.int .i64 0) := hlenx
    have hlen : CC F.model_Model_Len [.pointer (some ⟨bm, 0, none⟩)] H = some (.int .i64 0, H) := hlen
    apply pure_of _ (d_law_alike _ _ H) rfl
    rotate_left 2
    · simp (disch := first | with_reducible rfl | assumption | omega | rfl | (simp only [go_sem]; first | done | omega)) only [go_sem, ↓reduceIte, reduceCtorEq, Nat.reduceEqDiff, Nat.reduceAdd, Nat.reduceSub, Nat.reduceMul, Nat.reduceDiv, Nat.reduceMod, Nat.reduceLeDiff, Nat.reduceLT, Nat.reduceBEq, Int.reduceEq, Int.reduceBEq, Int.reduceBNe, Int.reduceLT, Int.reduceLE, Int.reduceAdd, Int.reduceSub, Int.reduceNeg, Int.reduceToNat, Int.reducePow, Nat.reducePow, Int.reduceMul, Int.reduceDiv, ↓s_law_alike, mp_some, enterK_eq hlen, g1, hlenx, enterK_eq hp1, f1, enterK_eq hs1]
      refine (hloop _).trans ?_
      simp (disch := first | with_reducible rfl | assumption | omega | rfl | (simp only [go_sem]; first | done | omega)) only [go_sem, ↓reduceIte, reduceCtorEq, Nat.reduceEqDiff, Nat.reduceAdd, Nat.reduceSub, Nat.reduceMul, Nat.reduceDiv, Nat.reduceMod, Nat.reduceLeDiff, Nat.reduceLT, Nat.reduceBEq, Int.reduceEq, Int.reduceBEq, Int.reduceBNe, Int.reduceLT, Int.reduceLE, Int.reduceAdd, Int.reduceSub, Int.reduceNeg, Int.reduceToNat, Int.reducePow, Nat.reducePow, Int.reduceMul, Int.reduceDiv, f2, hlenx, enterK_eq hp3, f3, enterK_eq hs3, enterK_eq he]
      rfl
    · exact s23
  · have hpos : 0 < l.length := List.length_pos_iff.2 h0
    have he := q_ends bm l (l[0]'hpos) (l[l.length - 1]'(by omega)) 0 H3 (m.still s23) hl (by cases l with | nil => exact absurd rfl h0 | cons a l => rfl) (endV_last hpos)
    obtain ⟨b1, o1, hix1, _, hc1, _⟩ := (g3.still s23).rd.ix (q := .i64) hpos
    obtain ⟨b2, o2, hix2, _, hc2, _⟩ := (g3.still s23).rd.ix (q := .i64) (show l.length - 1 < l.length by omega)
    have hix1 : ixS 2 vx (.int .i64 0) = some (.pointer (some ⟨b1, o1, none⟩)) := hix1
    have hi : ((l.length - 1 : Nat) : Int) = (l.length : Int) - 1 := by omega
    rw [hi] at hix2
    have hix2 : ixS 2 vx (.int .i64 ((l.length : Int) - 1)) = some (.pointer (some ⟨b2, o2, none⟩)) := hix2
    have hc1 : cutB (H3.f b1) o1 2 = some [.string (l[0]'hpos).key, .string (l[0]'hpos).value] := hc1
    have hc2 : cutB (H3.f b2) o2 2 = some [.string (l[l.length - 1]'(by omega)).key, .string (l[l.length - 1]'(by omega)).value] := hc2
    have hne : ¬ (l.length : Int) = 0 := by omega
    apply pure_of _ (d_law_alike _ _ H) rfl
    rotate_left 2
    · simp (disch := first | with_reducible rfl | assumption | omega | rfl | (simp only [go_sem]; first | done | omega)) only [go_sem, ↓reduceIte, reduceCtorEq, Nat.reduceEqDiff, Nat.reduceAdd, Nat.reduceSub, Nat.reduceMul, Nat.reduceDiv, Nat.reduceMod, Nat.reduceLeDiff, Nat.reduceLT, Nat.reduceBEq, Int.reduceEq, Int.reduceBEq, Int.reduceBNe, Int.reduceLT, Int.reduceLE, Int.reduceAdd, Int.reduceSub, Int.reduceNeg, Int.reduceToNat, Int.reducePow, Nat.reducePow, Int.reduceMul, Int.reduceDiv, ↓s_law_alike, mp_some, enterK_eq hlen, g1, hlenx, enterK_eq hp1, f1, enterK_eq hs1]
      refine (hloop _).trans ?_
      simp (disch := first | with_reducible rfl | assumption | omega | rfl | (simp only [go_sem]; first | done | omega)) only [go_sem, ↓reduceIte, reduceCtorEq, Nat.reduceEqDiff, Nat.reduceAdd, Nat.reduceSub, Nat.reduceMul, Nat.reduceDiv, Nat.reduceMod, Nat.reduceLeDiff, Nat.reduceLT, Nat.reduceBEq, Int.reduceEq, Int.reduceBEq, Int.reduceBNe, Int.reduceLT, Int.reduceLE, Int.reduceAdd, Int.reduceSub, Int.reduceNeg, Int.reduceToNat, Int.reducePow, Nat.reducePow, Int.reduceMul, Int.reduceDiv, f2, hlenx, decide_eq_false hne, enterK_eq hp3, f3, enterK_eq hs3, hix1, hc1, hix2, hc2, enterK_eq he]
      rfl
    · exact s23

end Go.Proofs.Ytlagijfkkpbbnaa
