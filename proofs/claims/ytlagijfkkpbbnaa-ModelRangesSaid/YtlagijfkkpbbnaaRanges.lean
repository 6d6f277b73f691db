/-
  Chapter 24: the law ModelRanges runs to true.
  Conditions: none. By an AI agent.
-/
import Derived.Test.YtlagijfkkpbbnaaT
import Derived.Test.YtlagijfkkpbbnaaDsModelRanges
import Derived.Test.YtlagijfkkpbbnaaEng28
import Derived.Test.YtlagijfkkpbbnaaDec
set_option maxRecDepth 10000
set_option linter.unusedSimpArgs false
set_option linter.unusedVariables false
namespace Go.Proofs.Ytlagijfkkpbbnaa
open Go Eng

theorem l_Ranges0 (l : List Pr) (v : Value) (sf st : ByteArray) (bm bx : Nat) (Hz : AHeap) (hr0 : Rd EPr Hz v l) (hl : l.length ≤ 1000000) : ∀ (x : List Pr) (i : Nat) (H : AHeap) (c : List Pr), l.drop i = x → i ≤ l.length → Two Hz H bm bx c → ∃ c' H', Two Hz H' bm bx c' ∧ ∀ K : K,
    l_law_ModelRanges_0 v (.string sf) (.string st) (.pointer (some ⟨bm, 0, none⟩)) (.pointer (some ⟨bx, 0, none⟩)) (.int .i64 i) H (blkK [1, 2, 7, 8] 0 K) = K .normal [(1, .string sf), (2, .string st), (7, .pointer (some ⟨bm, 0, none⟩)), (8, .pointer (some ⟨bx, 0, none⟩))] H'
  | [], i, H, c, hx, hi, t => by
    have h : l.length ≤ i := List.drop_eq_nil_iff.1 hx
    have hlt : ¬ (i : Int) < (l.length : Int) := by omega
    have hlen := hr0.lenS
    refine ⟨c, H, t, fun K => ?_⟩
    rw [r_law_ModelRanges_0]
    simp (disch := first | with_reducible rfl | assumption | omega | rfl | (simp only [go_sem]; first | done | omega)) only [go_sem, ↓reduceIte, reduceCtorEq, Nat.reduceEqDiff, Nat.reduceAdd, Nat.reduceSub, Nat.reduceMul, Nat.reduceDiv, Nat.reduceMod, Nat.reduceLeDiff, Nat.reduceLT, Nat.reduceBEq, Int.reduceEq, Int.reduceBEq, Int.reduceBNe, Int.reduceLT, Int.reduceLE, Int.reduceAdd, Int.reduceSub, Int.reduceNeg, Int.reduceToNat, Int.reducePow, Nat.reducePow, Int.reduceMul, Int.reduceDiv, ↓s_law_ModelRanges_b0, hlen, hlt]
  | a :: x, i, H, c, hx, hi, t => by
    obtain ⟨h, hxa, hx'⟩ := drop_cons hx
    have hlt : (i : Int) < (l.length : Int) := by omega
    have hlen := hr0.lenS
    obtain ⟨b1, o1, hix, hb1, hc1, _⟩ := hr0.ix (q := .i64) h
    rw [hxa] at hc1
    have hix : ixS 2 v (.int .i64 i) = some (.pointer (some ⟨b1, o1, none⟩)) := hix
    have hck : ∀ H : AHeap, H.f b1 = Hz.f b1 → cellB (H.f b1) o1 = some (.string a.key) := fun (H : AHeap) h => by rw [h]; exact cutB_cell hc1 (i := 0) (by decide)
    have hcv : ∀ H : AHeap, H.f b1 = Hz.f b1 → cellB (H.f b1) (o1 + 1) = some (.string a.value) := fun (H : AHeap) h => by rw [h]; exact cutB_cell hc1 (i := 1) (by decide)
    have fb : H.f b1 = Hz.f b1 := t.base.f hb1 (fun h => h)
    have hk0 := hck H fb
    have hv0 := hcv H fb
    by_cases h1 : ((bl a.key).length : Int) ≤ 60
    · by_cases h2 : ((bl a.value).length : Int) ≤ 60
      · obtain ⟨H1, hp1, m1, u1⟩ := q_putM bm c a H t.ok t.m t.srt t.len
        have x1 := t.midx u1
        obtain ⟨H2, hp2, x2, u2⟩ := q_putR bx c a H1 (t.ok.fr u1.fr) x1 t.srt t.len
        have t2 := t.step m1 u1 x2 u2 (srt_putE t.srt a) (len_putE t.len a)
        have hbn : b1 < H.n := Nat.lt_of_lt_of_le hb1 t.base.n
        have hnm : ¬ MB H bm b1 := fun h => by have := t.lom b1 h; omega
        have fb1 : H1.f b1 = Hz.f b1 := by rw [u1.fr.f hbn hnm, fb]
        have hver : H1.ver b1 = H.ver b1 := u1.fr.ver hbn hnm
        have hnn : H.n ≤ H1.n := u1.fr.n
        have hk1 := hck H1 fb1
        have hv1 := hcv H1 fb1
        obtain ⟨c', H', t', ih⟩ := l_Ranges0 l v sf st bm bx Hz hr0 hl x (i + 1) H2 _ hx' h t2
        refine ⟨c', H', t', fun K => ?_⟩
        have ih := ih K
        rw [Int.natCast_add] at ih
        generalize (putE c a).1 = e at hp1 hp2
        rw [r_law_ModelRanges_0]
        simp (disch := first | with_reducible rfl | assumption | omega | rfl | (simp only [go_sem]; first | done | omega)) only [go_sem, ↓reduceIte, reduceCtorEq, Nat.reduceEqDiff, Nat.reduceAdd, Nat.reduceSub, Nat.reduceMul, Nat.reduceDiv, Nat.reduceMod, Nat.reduceLeDiff, Nat.reduceLT, Nat.reduceBEq, Int.reduceEq, Int.reduceBEq, Int.reduceBNe, Int.reduceLT, Int.reduceLE, Int.reduceAdd, Int.reduceSub, Int.reduceNeg, Int.reduceToNat, Int.reducePow, Nat.reducePow, Int.reduceMul, Int.reduceDiv, ↓s_law_ModelRanges_b0, hlen, hlt, hix, hk0, hv0, decide_eq_true h1, decide_eq_true h2, enterK_eq hp1, hk1, hv1, enterK_eq hp2]
        exact ih
      · obtain ⟨c', H', t', ih⟩ := l_Ranges0 l v sf st bm bx Hz hr0 hl x (i + 1) H _ hx' h t
        refine ⟨c', H', t', fun K => ?_⟩
        have ih := ih K
        rw [Int.natCast_add] at ih
        rw [r_law_ModelRanges_0]
        simp (disch := first | with_reducible rfl | assumption | omega | rfl | (simp only [go_sem]; first | done | omega)) only [go_sem, ↓reduceIte, reduceCtorEq, Nat.reduceEqDiff, Nat.reduceAdd, Nat.reduceSub, Nat.reduceMul, Nat.reduceDiv, Nat.reduceMod, Nat.reduceLeDiff, Nat.reduceLT, Nat.reduceBEq, Int.reduceEq, Int.reduceBEq, Int.reduceBNe, Int.reduceLT, Int.reduceLE, Int.reduceAdd, Int.reduceSub, Int.reduceNeg, Int.reduceToNat, Int.reducePow, Nat.reducePow, Int.reduceMul, Int.reduceDiv, ↓s_law_ModelRanges_b0, hlen, hlt, hix, hk0, hv0, decide_eq_true h1, decide_eq_false h2]
        exact ih
    · obtain ⟨c', H', t', ih⟩ := l_Ranges0 l v sf st bm bx Hz hr0 hl x (i + 1) H _ hx' h t
      refine ⟨c', H', t', fun K => ?_⟩
      have ih := ih K
      rw [Int.natCast_add] at ih
      rw [r_law_ModelRanges_0]
      simp (disch := first | with_reducible rfl | assumption | omega | rfl | (simp only [go_sem]; first | done | omega)) only [go_sem, ↓reduceIte, reduceCtorEq, Nat.reduceEqDiff, Nat.reduceAdd, Nat.reduceSub, Nat.reduceMul, Nat.reduceDiv, Nat.reduceMod, Nat.reduceLeDiff, Nat.reduceLT, Nat.reduceBEq, Int.reduceEq, Int.reduceBEq, Int.reduceBNe, Int.reduceLT, Int.reduceLE, Int.reduceAdd, Int.reduceSub, Int.reduceNeg, Int.reduceToNat, Int.reducePow, Nat.reducePow, Int.reduceMul, Int.reduceDiv, ↓s_law_ModelRanges_b0, hlen, hlt, hix, hk0, hv0, decide_eq_false h1]
      exact ih

theorem l_Ranges1 (sf st : ByteArray) (bm bx : Nat) (Hz : AHeap) (c : List Pr) : ∀ (d i : Nat) (H : AHeap), 34 - i = d → i ≤ 34 → Two Hz H bm bx c → ∃ H', Two Hz H' bm bx c ∧ ∀ K : K,
    l_law_ModelRanges_1 (.string sf) (.string st) (.pointer (some ⟨bm, 0, none⟩)) (.pointer (some ⟨bx, 0, none⟩)) (.int .i64 i) H (blkK [] 2 K) = K .normal [] H'
  | 0, i, H, hd, hi, t => by
    have hle : ¬ (i : Int) ≤ 33 := by omega
    refine ⟨H, t, fun K => ?_⟩
    rw [r_law_ModelRanges_1]
    simp (disch := first | with_reducible rfl | assumption | omega | rfl | (simp only [go_sem]; first | done | omega)) only [go_sem, ↓reduceIte, reduceCtorEq, Nat.reduceEqDiff, Nat.reduceAdd, Nat.reduceSub, Nat.reduceMul, Nat.reduceDiv, Nat.reduceMod, Nat.reduceLeDiff, Nat.reduceLT, Nat.reduceBEq, Int.reduceEq, Int.reduceBEq, Int.reduceBNe, Int.reduceLT, Int.reduceLE, Int.reduceAdd, Int.reduceSub, Int.reduceNeg, Int.reduceToNat, Int.reducePow, Nat.reducePow, Int.reduceMul, Int.reduceDiv, ↓s_law_ModelRanges_b1, hle]
  | d + 1, i, H, hd, hi, t => by
    have hle : (i : Int) ≤ 33 := by omega
    obtain ⟨w, H1, hr, hw, s1⟩ := q_rangeR bx c sf st i H t.x t.srt t.len
    have t1 := t.still s1
    have hrs := q_ranges bm c _ sf st i _ w H1 t1.m t1.srt t1.len hw rfl rfl
    obtain ⟨H', t', ih⟩ := l_Ranges1 sf st bm bx Hz c d (i + 1) H1 (by omega) (by omega) t1
    refine ⟨H', t', fun K => ?_⟩
    have ih := ih K
    rw [Int.natCast_add] at ih
    generalize (rangeE c sf st i).1 = e at hr hrs
    rw [r_law_ModelRanges_1]
    simp (disch := first | with_reducible rfl | assumption | omega | rfl | (simp only [go_sem]; first | done | omega)) only [go_sem, ↓reduceIte, reduceCtorEq, Nat.reduceEqDiff, Nat.reduceAdd, Nat.reduceSub, Nat.reduceMul, Nat.reduceDiv, Nat.reduceMod, Nat.reduceLeDiff, Nat.reduceLT, Nat.reduceBEq, Int.reduceEq, Int.reduceBEq, Int.reduceBNe, Int.reduceLT, Int.reduceLE, Int.reduceAdd, Int.reduceSub, Int.reduceNeg, Int.reduceToNat, Int.reducePow, Nat.reducePow, Int.reduceMul, Int.reduceDiv, ↓s_law_ModelRanges_b1, hle, enterK_eq hr, enterK_eq hrs]
    exact ih

theorem q_ModelRanges (l : List Pr) (v : Value) (sf st : ByteArray) (H : AHeap) (ok : Ok H) (hr : Rd EPr H v l) : ∃ H', CC F.law_ModelRanges [v, .string sf, .string st] H = some (.bool true, H') := by
  have hlen := hr.lenS
  by_cases h1 : 40 < (l.length : Int)
  · refine any_of (H1 := ?_) (d_law_ModelRanges _ _ _ H ?_)
    rotate_left 1
    · simp (disch := first | with_reducible rfl | assumption | omega | rfl | (simp only [go_sem]; first | done | omega)) only [go_sem, ↓reduceIte, reduceCtorEq, Nat.reduceEqDiff, Nat.reduceAdd, Nat.reduceSub, Nat.reduceMul, Nat.reduceDiv, Nat.reduceMod, Nat.reduceLeDiff, Nat.reduceLT, Nat.reduceBEq, Int.reduceEq, Int.reduceBEq, Int.reduceBNe, Int.reduceLT, Int.reduceLE, Int.reduceAdd, Int.reduceSub, Int.reduceNeg, Int.reduceToNat, Int.reducePow, Nat.reducePow, Int.reduceMul, Int.reduceDiv, ↓s_law_ModelRanges, hlen, decide_eq_true h1]
      rfl
  · by_cases h2 : 60 < ((bl sf).length : Int)
    · refine any_of (H1 := ?_) (d_law_ModelRanges _ _ _ H ?_)
      rotate_left 1
      · simp (disch := first | with_reducible rfl | assumption | omega | rfl | (simp only [go_sem]; first | done | omega)) only [go_sem, ↓reduceIte, reduceCtorEq, Nat.reduceEqDiff, Nat.reduceAdd, Nat.reduceSub, Nat.reduceMul, Nat.reduceDiv, Nat.reduceMod, Nat.reduceLeDiff, Nat.reduceLT, Nat.reduceBEq, Int.reduceEq, Int.reduceBEq, Int.reduceBNe, Int.reduceLT, Int.reduceLE, Int.reduceAdd, Int.reduceSub, Int.reduceNeg, Int.reduceToNat, Int.reducePow, Nat.reducePow, Int.reduceMul, Int.reduceDiv, ↓s_law_ModelRanges, hlen, decide_eq_false h1, decide_eq_true h2]
        rfl
    · by_cases h3 : 60 < ((bl st).length : Int)
      · refine any_of (H1 := ?_) (d_law_ModelRanges _ _ _ H ?_)
        rotate_left 1
        · simp (disch := first | with_reducible rfl | assumption | omega | rfl | (simp only [go_sem]; first | done | omega)) only [go_sem, ↓reduceIte, reduceCtorEq, Nat.reduceEqDiff, Nat.reduceAdd, Nat.reduceSub, Nat.reduceMul, Nat.reduceDiv, Nat.reduceMod, Nat.reduceLeDiff, Nat.reduceLT, Nat.reduceBEq, Int.reduceEq, Int.reduceBEq, Int.reduceBNe, Int.reduceLT, Int.reduceLE, Int.reduceAdd, Int.reduceSub, Int.reduceNeg, Int.reduceToNat, Int.reducePow, Nat.reducePow, Int.reduceMul, Int.reduceDiv, ↓s_law_ModelRanges, hlen, decide_eq_false h1, decide_eq_false h2, decide_eq_true h3]
          rfl
      · generalize hH1 : (H.push (.cells [.slice none 0 0] T.model_Model true)).push (.cells [.slice none 0 0] T.ref24_Model true) = H1
        have t0 : Two H H1 H.n (H.n + 1) [] := by
          rw [← hH1]
          have s : Still H ((H.push (.cells [.slice none 0 0] T.model_Model true)).push (.cells [.slice none 0 0] T.ref24_Model true)) := ((Fr.refl H).push _).push _
          have f1 : ((H.push (.cells [.slice none 0 0] T.model_Model true)).push (.cells [.slice none 0 0] T.ref24_Model true)).f H.n = .cells [.slice none 0 0] T.model_Model true := by rw [push_f_ne (by simp), push_f_eq rfl]
          have f2 : ((H.push (.cells [.slice none 0 0] T.model_Model true)).push (.cells [.slice none 0 0] T.ref24_Model true)).f (H.n + 1) = .cells [.slice none 0 0] T.ref24_Model true := push_f_eq rfl
          refine ⟨ok.fr s, s, ⟨_, f1, by simp; omega, .inl ⟨rfl, rfl⟩, by simp [blockOf]⟩, ⟨_, f2, by simp, .inl ⟨rfl, rfl⟩, by simp [blockOf]⟩, ?_, ?_, ?_, List.Pairwise.nil, by simp⟩
          · intro c h1 h2
            have e1 : c = H.n := h1.elim id fun ⟨u, hu, hb⟩ => by rw [f1] at hu; cases hu; cases hb
            have e2 : c = H.n + 1 := h2.elim id fun ⟨u, hu, hb⟩ => by rw [f2] at hu; cases hu; cases hb
            omega
          · intro c h1
            have e1 : c = H.n := h1.elim id fun ⟨u, hu, hb⟩ => by rw [f1] at hu; cases hu; cases hb
            omega
          · intro c h1
            have e1 : c = H.n + 1 := h1.elim id fun ⟨u, hu, hb⟩ => by rw [f2] at hu; cases hu; cases hb
            omega
        obtain ⟨c, H2, t2, hloop0⟩ := l_Ranges0 l v sf st H.n (H.n + 1) H hr (by omega) l 0 H1 [] rfl (by omega) t0
        obtain ⟨H3, t3, hloop1⟩ := l_Ranges1 sf st H.n (H.n + 1) H c 34 0 H2 rfl (by omega) t2
        refine any_of (H1 := H3) (d_law_ModelRanges _ _ _ H ?_)
        simp (disch := first | with_reducible rfl | assumption | omega | rfl | (simp only [go_sem]; first | done | omega)) only [go_sem, ↓reduceIte, reduceCtorEq, Nat.reduceEqDiff, Nat.reduceAdd, Nat.reduceSub, Nat.reduceMul, Nat.reduceDiv, Nat.reduceMod, Nat.reduceLeDiff, Nat.reduceLT, Nat.reduceBEq, Int.reduceEq, Int.reduceBEq, Int.reduceBNe, Int.reduceLT, Int.reduceLE, Int.reduceAdd, Int.reduceSub, Int.reduceNeg, Int.reduceToNat, Int.reducePow, Nat.reducePow, Int.reduceMul, Int.reduceDiv, ↓s_law_ModelRanges, hlen, decide_eq_false h1, decide_eq_false h2, decide_eq_false h3, hH1]
        refine (hloop0 _).trans ?_
        simp (disch := first | with_reducible rfl | assumption | omega | rfl | (simp only [go_sem]; first | done | omega)) only [go_sem, ↓reduceIte, reduceCtorEq, Nat.reduceEqDiff, Nat.reduceAdd, Nat.reduceSub, Nat.reduceMul, Nat.reduceDiv, Nat.reduceMod, Nat.reduceLeDiff, Nat.reduceLT, Nat.reduceBEq, Int.reduceEq, Int.reduceBEq, Int.reduceBNe, Int.reduceLT, Int.reduceLE, Int.reduceAdd, Int.reduceSub, Int.reduceNeg, Int.reduceToNat, Int.reducePow, Nat.reducePow, Int.reduceMul, Int.reduceDiv]
        refine (hloop1 _).trans ?_
        simp (disch := first | with_reducible rfl | assumption | omega | rfl | (simp only [go_sem]; first | done | omega)) only [go_sem, ↓reduceIte, reduceCtorEq, Nat.reduceEqDiff, Nat.reduceAdd, Nat.reduceSub, Nat.reduceMul, Nat.reduceDiv, Nat.reduceMod, Nat.reduceLeDiff, Nat.reduceLT, Nat.reduceBEq, Int.reduceEq, Int.reduceBEq, Int.reduceBNe, Int.reduceLT, Int.reduceLE, Int.reduceAdd, Int.reduceSub, Int.reduceNeg, Int.reduceToNat, Int.reducePow, Nat.reducePow, Int.reduceMul, Int.reduceDiv]

theorem run_ModelRanges (W : World) (v : Value) (l : List Pr) (hr : Rd EPr (absHeap W) v l) (_ : ∀ a, a ∈ l → True) (_ : l.length ≤ maxLen) (sf : ByteArray) (_ : (bl sf).length ≤ 140737488351232) (st : ByteArray) (_ : (bl st).length ≤ 140737488351232) :
    ∃ k H', dCall Try.prog prims1 hints k F.law_ModelRanges [v, .string sf, .string st] (absHeap W) = some (.bool true, H') := by
  obtain ⟨H', h⟩ := q_ModelRanges l v sf st (absHeap W) (absHeap_ok W) hr
  obtain ⟨k, h⟩ := D_run h
  exact ⟨k, _, h⟩

end Go.Proofs.Ytlagijfkkpbbnaa
