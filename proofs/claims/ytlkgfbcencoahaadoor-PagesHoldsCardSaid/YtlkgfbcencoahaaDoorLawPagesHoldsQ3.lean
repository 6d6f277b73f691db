/-
  5 texts in one (merge.py): Ei Ej Eng37 Eng33 LawPagesHolds.
  Conditions: none. By an AI agent.
-/
import Derived.Test.YtlkgfbcencoahaaDoorLawPagesHoldsQ2
import Derived.HandedShaped
import Derived.Shelf.Vars
import Derived.Lay
import Derived.PinnedBridge
import Derived.Test.YtlkgfbcencoahaaDoorRows
import Derived.Test.YtlkgfbcencoahaaDoorCards
import Derived.Test.YtlkgfbcencoahaaDoorTie
import Derived.WalkKit
import Derived.ProofKit
import Derived.OpenShut
import Derived.ShutString
import Derived.ChangeOld
import Derived.Below
import Derived.SizedLaws
import Derived.ChangeArms
import Derived.Carry
import Derived.LaidOnce
import Derived.SevenTiedAt
import Derived.Stop.LaidErr

/-
  Chapter 44: counting; a turn; PagesHolds.
  Conditions: none. By an AI agent.
-/
set_option maxRecDepth 10000
set_option linter.unusedSimpArgs false
set_option linter.unusedVariables false
namespace Go.Proofs.YtlkgfbcencoahaaDoor
open Go Eng

theorem l_cnt (v1 v2 v3 v4 v12 v14 v20 w got : Value) (wl acc : List Pr) (H : AHeap) (hw : Rd EPr H w wl) (hg : Rd EPr H got acc) (hal : acc.length ≤ 100000) (i : Nat) (hi : i < wl.length) (z : Pr) (hz : wl[i] = z) : ∀ (t : List Pr) (j n : Nat), acc.drop j = t → n ≤ j → ∀ K : K,
    l_law_PagesHolds_4 v1 v2 v3 v4 v12 w v14 got v20 (.int .i64 (i : Int)) (.int .i64 (n : Int)) (.int .i64 (j : Int)) H (blkK [1, 2, 3, 4, 12, 13, 14, 18, 20, 22, 23] 8 K) =
      K .normal [(1, v1), (2, v2), (3, v3), (4, v4), (12, v12), (13, w), (14, v14), (18, got), (20, v20), (22, .int .i64 (i : Int)), (23, .int .i64 ((n + t.count z : Nat) : Int))] H
  | [], j, n, hx, hn, K => by
    have h : acc.length ≤ j := List.drop_eq_nil_iff.1 hx
    have hlt : ¬ (j : Int) < (acc.length : Int) := by omega
    have hlen := hg.lenS
    have hc0 : ([] : List Pr).count z = 0 := rfl
    rw [hc0, Nat.add_zero, r_law_PagesHolds_4]
    simp (disch := first | with_reducible rfl | assumption | omega | rfl | (simp only [go_sem]; first | done | omega)) only [go_sem, ↓reduceIte, reduceCtorEq, Nat.reduceEqDiff, Nat.reduceAdd, Nat.reduceSub, Nat.reduceMul, Nat.reduceDiv, Nat.reduceMod, Nat.reduceLeDiff, Nat.reduceLT, Nat.reduceBEq, Int.reduceEq, Int.reduceBEq, Int.reduceBNe, Int.reduceLT, Int.reduceLE, Int.reduceAdd, Int.reduceSub, Int.reduceNeg, Int.reduceToNat, Int.reducePow, Nat.reducePow, Int.reduceMul, Int.reduceDiv, ↓s_law_PagesHolds_b4, hlen, hlt]
  | a :: t, j, n, hx, hn, K => by
    obtain ⟨h, hxa, hx'⟩ := drop_cons hx
    have hlt : (j : Int) < (acc.length : Int) := by omega
    have hlen := hg.lenS
    obtain ⟨b1, o1, hix1, _, hc1, _⟩ := hg.ix (q := .i64) h
    obtain ⟨b2, o2, hix2, _, hc2, _⟩ := hw.ix (q := .i64) hi
    rw [hxa] at hc1
    rw [hz] at hc2
    have hix1 : ixS 2 got (.int .i64 j) = some (.pointer (some ⟨b1, o1, none⟩)) := hix1
    have hix2 : ixS 2 w (.int .i64 i) = some (.pointer (some ⟨b2, o2, none⟩)) := hix2
    have hc1 : cutB (H.f b1) o1 2 = some [.string a.key, .string a.value] := hc1
    have hc2 : cutB (H.f b2) o2 2 = some [.string z.key, .string z.value] := hc2
    rw [List.count_cons]
    by_cases he : a = z
    · have hd : decide (a = z) = true := decide_eq_true he
      have hb : (a == z) = true := by simpa using he
      have ih := l_cnt v1 v2 v3 v4 v12 v14 v20 w got wl acc H hw hg hal i hi z hz t (j + 1) (n + 1) hx' (by omega) K
      rw [Int.natCast_add, Int.natCast_add] at ih
      rw [if_pos hb, show n + (t.count z + 1) = n + 1 + t.count z by omega, r_law_PagesHolds_4]
      simp (disch := first | with_reducible rfl | assumption | omega | rfl | (simp only [go_sem]; first | done | omega)) only [go_sem, ↓reduceIte, reduceCtorEq, Nat.reduceEqDiff, Nat.reduceAdd, Nat.reduceSub, Nat.reduceMul, Nat.reduceDiv, Nat.reduceMod, Nat.reduceLeDiff, Nat.reduceLT, Nat.reduceBEq, Int.reduceEq, Int.reduceBEq, Int.reduceBNe, Int.reduceLT, Int.reduceLE, Int.reduceAdd, Int.reduceSub, Int.reduceNeg, Int.reduceToNat, Int.reducePow, Nat.reducePow, Int.reduceMul, Int.reduceDiv, ↓s_law_PagesHolds_b4, hlen, hlt, hix1, hc1, hix2, hc2, pair_eq', hd]
      exact ih
    · have hd : decide (a = z) = false := decide_eq_false he
      have hb : ¬ (a == z) = true := by simpa using he
      have ih := l_cnt v1 v2 v3 v4 v12 v14 v20 w got wl acc H hw hg hal i hi z hz t (j + 1) n hx' (by omega) K
      rw [Int.natCast_add] at ih
      rw [if_neg hb, Nat.add_zero, r_law_PagesHolds_4]
      simp (disch := first | with_reducible rfl | assumption | omega | rfl | (simp only [go_sem]; first | done | omega)) only [go_sem, ↓reduceIte, reduceCtorEq, Nat.reduceEqDiff, Nat.reduceAdd, Nat.reduceSub, Nat.reduceMul, Nat.reduceDiv, Nat.reduceMod, Nat.reduceLeDiff, Nat.reduceLT, Nat.reduceBEq, Int.reduceEq, Int.reduceBEq, Int.reduceBNe, Int.reduceLT, Int.reduceLE, Int.reduceAdd, Int.reduceSub, Int.reduceNeg, Int.reduceToNat, Int.reducePow, Nat.reducePow, Int.reduceMul, Int.reduceDiv, ↓s_law_PagesHolds_b4, hlen, hlt, hix1, hc1, hix2, hc2, pair_eq', hd]
      exact ih

theorem l_ones (v1 v2 v3 v4 v12 v14 w got : Value) (mt : Nat) (Tk : List ByteArray) (wl acc : List Pr) (H : AHeap) (hw : Rd EPr H w wl) (hg : Rd EPr H got acc) (hal : acc.length ≤ 100000) (hwl : wl.length ≤ 100000) (tm : MV Value.bool false H mt (inT Tk)) (hone : ∀ a ∈ wl, acc.count a = 1 ∨ inT Tk a.key = true) :
    ∀ (t : List Pr) (i : Nat), wl.drop i = t → ∀ K : K,
    l_law_PagesHolds_3 v1 v2 v3 v4 v12 w v14 got (.map (some mt)) (.int .i64 (i : Int)) H (blkK [1, 2, 3, 4, 12, 13, 14] 6 K) = K .normal [(1, v1), (2, v2), (3, v3), (4, v4), (12, v12), (13, w), (14, v14)] H
  | [], i, hx, K => by
    have h : wl.length ≤ i := List.drop_eq_nil_iff.1 hx
    have hlt : ¬ (i : Int) < (wl.length : Int) := by omega
    have hlen := hw.lenS
    rw [r_law_PagesHolds_3]
    simp (disch := first | with_reducible rfl | assumption | omega | rfl | (simp only [go_sem]; first | done | omega)) only [go_sem, ↓reduceIte, reduceCtorEq, Nat.reduceEqDiff, Nat.reduceAdd, Nat.reduceSub, Nat.reduceMul, Nat.reduceDiv, Nat.reduceMod, Nat.reduceLeDiff, Nat.reduceLT, Nat.reduceBEq, Int.reduceEq, Int.reduceBEq, Int.reduceBNe, Int.reduceLT, Int.reduceLE, Int.reduceAdd, Int.reduceSub, Int.reduceNeg, Int.reduceToNat, Int.reducePow, Nat.reducePow, Int.reduceMul, Int.reduceDiv, ↓s_law_PagesHolds_b3, hlen, hlt]
  | a :: t, i, hx, K => by
    obtain ⟨h, hxa, hx'⟩ := drop_cons hx
    have hlt : (i : Int) < (wl.length : Int) := by omega
    have hlen := hw.lenS
    have hcnt := l_cnt v1 v2 v3 v4 v12 v14 (.map (some mt)) w got wl acc H hw hg hal i h a hxa acc 0 0 rfl (Nat.le_refl _)
    rw [Nat.zero_add] at hcnt
    have hcnt : ∀ K : Eng.K, l_law_PagesHolds_4 v1 v2 v3 v4 v12 w v14 got (.map (some mt)) (.int .i64 (i : Int)) (.int .i64 0) (.int .i64 0) H (blkK [1, 2, 3, 4, 12, 13, 14, 18, 20, 22, 23] 8 K) =
      K .normal [(1, v1), (2, v2), (3, v3), (4, v4), (12, v12), (13, w), (14, v14), (18, got), (20, .map (some mt)), (22, .int .i64 (i : Int)), (23, .int .i64 ((acc.count a : Nat) : Int))] H := hcnt
    have ih := l_ones v1 v2 v3 v4 v12 v14 w got mt Tk wl acc H hw hg hal hwl tm hone t (i + 1) hx' K
    rw [Int.natCast_add] at ih
    obtain ⟨b2, o2, ix2, c0, _, _⟩ := rd_pair hw h (iv := (i : Int)) rfl
    rw [hxa] at c0
    have lk := tm.look mtB a.key
    rw [← ih, r_law_PagesHolds_3]
    by_cases h1 : (acc.count a : Int) = 1
    · simp (disch := first | with_reducible rfl | assumption | omega | rfl | (simp only [go_sem]; first | done | omega)) only [go_sem, ↓reduceIte, reduceCtorEq, Nat.reduceEqDiff, Nat.reduceAdd, Nat.reduceSub, Nat.reduceMul, Nat.reduceDiv, Nat.reduceMod, Nat.reduceLeDiff, Nat.reduceLT, Nat.reduceBEq, Int.reduceEq, Int.reduceBEq, Int.reduceBNe, Int.reduceLT, Int.reduceLE, Int.reduceAdd, Int.reduceSub, Int.reduceNeg, Int.reduceToNat, Int.reducePow, Nat.reducePow, Int.reduceMul, Int.reduceDiv, ↓s_law_PagesHolds_b3, hlen, hlt, hcnt, h1]
    · have h2 : inT Tk a.key = true := by
        rcases hone a (by rw [← hxa]; exact List.getElem_mem h) with h2 | h2
        · omega
        · exact h2
      rw [h2] at lk
      simp (disch := first | with_reducible rfl | assumption | omega | rfl | (simp only [go_sem]; first | done | omega)) only [go_sem, ↓reduceIte, reduceCtorEq, Nat.reduceEqDiff, Nat.reduceAdd, Nat.reduceSub, Nat.reduceMul, Nat.reduceDiv, Nat.reduceMod, Nat.reduceLeDiff, Nat.reduceLT, Nat.reduceBEq, Int.reduceEq, Int.reduceBEq, Int.reduceBNe, Int.reduceLT, Int.reduceLE, Int.reduceAdd, Int.reduceSub, Int.reduceNeg, Int.reduceToNat, Int.reducePow, Nat.reducePow, Int.reduceMul, Int.reduceDiv, ↓s_law_PagesHolds_b3, hlen, hlt, hcnt, h1, ix2, c0, lk]

/-! ### A turn -/
theorem make_m (H : AHeap) : xmakeMap Tryd.prog T.map_string_bool none H = some (.map (some H.n), H.push (.map [])) := make_map mtB
theorem goT_nil (c : Nat) (e : ByteArray) : ∀ (f : Nat) (M G : List Pr), goT c e f M [] G = []
  | 0, _, _ => rfl
  | f + 1, M, G => by
    rw [goT]
    split
    · rfl
    · exact goT_nil c e f _ _
theorem goP_len (c : Nat) (e : ByteArray) : ∀ (f : Nat) (M : List Pr) (ch : List Chg) (G : List Pr), (goP c e f M ch G).length ≤ f * c
  | 0, _, _, _ => by simp [goP]
  | f + 1, M, ch, G => by
    rw [goP, Nat.succ_mul]
    split
    · omega
    · have := goP_len c e f (chgs M ch) ch.tail (nextG M ch G c e)
      simp; omega
theorem chunks_len (c : Nat) : ∀ (f : Nat) (L : List Pr), L.length ≤ 1000 → (chunks c f L).length ≤ f ∧ ∀ x ∈ chunks c f L, x.length ≤ 1000000
  | 0, L, _ => ⟨by simp [chunks], by simp [chunks]⟩
  | f + 1, L, hL => by
    rw [chunks]
    split
    · simp
    · obtain ⟨i1, i2⟩ := chunks_len c f (L.drop c) (by simp; omega)
      refine ⟨by simp; omega, fun x hx => ?_⟩
      rcases List.mem_cons.1 hx with rfl | hx
      · simp; omega
      · exact i2 x hx

set_option maxHeartbeats 4000000 in
theorem one_turn (H0 H : AHeap) (bm : Nat) (M : List Pr) (hM : M.length ≤ 40) (k e : ByteArray) (c : Nat) (h0 : fErr k e (c : Int) = 0) (cl : List Chg) (hcl : cl.length ≤ 40) (v4 w : Value) (hr4 : Rd EChg H0 v4 cl) (tn : Int) (htn : tn = 0 ∨ tn = 1)
    (fr : Fresh H0 H bm M) (hw : Rd EPr H w (M.filter (inF k true e))) (hoff : Off (MB H bm) w) (hwb : ∀ b, blockOf w = some b → b < H.n) :
    ∃ H', (tn = 0 → Fresh H0 H' bm M ∧ Rd EPr H' w (M.filter (inF k true e)) ∧ Off (MB H' bm) w ∧ ∀ b, blockOf w = some b → b < H'.n) ∧
      ∀ K : K, l_law_PagesHolds_1 (.string k) (.string e) (.int .i64 (c : Int)) v4 (.pointer (some ⟨bm, 0, none⟩)) w (.int .i64 tn) H (blkK [] 2 K) = l_law_PagesHolds_1 (.string k) (.string e) (.int .i64 (c : Int)) v4 (.pointer (some ⟨bm, 0, none⟩)) w (.int .i64 (tn + 1)) H' (blkK [] 2 K) := by
  obtain ⟨g1, g2, _, he, _⟩ := fErr_ok h0
  obtain ⟨v, H1, m1, o1, s1, nw⟩ := q_First bm M k e c H fr.mdl (by omega) (vok_key fr.vok) h0
  obtain ⟨H2, hH2⟩ : ∃ H2, H1.push (.map []) = H2 := ⟨_, rfl⟩
  have mk2 := make_m H1
  rw [hH2] at mk2
  have s2 : Still H1 H2 := by rw [← hH2]; exact (Fr.refl H1).push _
  have n2 : H2.n = H1.n + 1 := by rw [← hH2]; rfl
  have fr1 := fr.to s1
  have fr2 := fr1.to s2
  have hGl := List.length_filter_le (inF k true e) M
  have hmb2 : ∀ b, MB H2 bm b → MB H1 bm b := fun b h => MBT_still fr1.mdl s2 h
  have hmb1 : ∀ b, MB H1 bm b → MB H bm b := fun b h => MBT_still fr.mdl s1 h
  have tm : MV Value.bool false H2 H1.n (inT []) := by rw [← hH2]; exact MV.make H1
  have st : St H0 H1 H2 bm H1.n M [] [] [] (.slice none 0 0) (.slice none 0 0) v (pgL (M.filter (inF k true e)) c) :=
    ⟨fr2, fr1.still.n, s2.mono fun _ _ h => h.elim, fun b h => .inl (hmb2 b h), Eng.Own.nil, fun b h => (by cases h), OwnSO.nil, fun b h => (by cases h), Nat.le_refl _, fun h => (by have := fr1.mdl.blk (hmb2 _ h); omega), tm, (o1.still s2).sl, fun b h => by
      have h1 := o1.blk h
      have h2 := nw b h
      exact ⟨fun h => (by have := fr.mdl.blk (hmb1 b (hmb2 b h)); omega), by omega, fun h => (by cases h), fun h => (by cases h)⟩⟩
  have hlen : (M.filter (inF k true e)).length + (chOf tn cl 0).length < 100 := by
    have : (chOf tn cl 0).length ≤ 40 := by
      unfold chOf
      split
      · simpa using hcl
      · simp
    omega
  obtain ⟨got, list, l', pg', H3, s3, hloop⟩ := l_turn H0 H1 bm H1.n k e he c (by omega) (by omega) cl v4 w hr4 tn htn 100 0 H2 M _ k true [] [] [] _ _ v rfl rfl hlen (by simp) (by simp) st
  rw [List.nil_append, List.nil_append, List.nil_append] at s3
  have hloop : ∀ K : K, l_law_PagesHolds_2 (.string k) (.string e) (.int .i64 (c : Int)) v4 (.pointer (some ⟨bm, 0, none⟩)) w (.int .i64 tn) v (.string (pgM (M.filter (inF k true e)) c e)) (.slice none 0 0) (.slice none 0 0) (.map (some H1.n)) (.int .i64 0) H2 (blkK [1, 2, 3, 4, 12, 13, 14, 18, 19, 20] 4 K) =
        K .normal [(1, .string k), (2, .string e), (3, .int .i64 (c : Int)), (4, v4), (12, .pointer (some ⟨bm, 0, none⟩)), (13, w), (14, .int .i64 tn), (18, got), (19, list), (20, .map (some H1.n))] H3 := hloop
  have hw1 := hw.still s1
  have hw3 : Rd EPr H3 w (M.filter (inF k true e)) := hw1.keep s3.frz fun b hb h => hoff b hb (hmb1 b h)
  have hgl := goP_len c e 100 M (chOf tn cl 0) (M.filter (inF k true e))
  have hone : ∀ a ∈ M.filter (inF k true e), (goP c e 100 M (chOf tn cl 0) (M.filter (inF k true e))).count a = 1 ∨ inT (goT c e 100 M (chOf tn cl 0) (M.filter (inF k true e))) a.key = true := fun a ha => by
    by_cases h : a.key ∈ goT c e 100 M (chOf tn cl 0) (M.filter (inF k true e))
    · exact .inr (inT_iff.2 h)
    · exact .inl (goP_one c e (by omega) a 100 M _ _ k true fr.srt rfl hlen ha h)
  have h3 := l_ones (.string k) (.string e) (.int .i64 (c : Int)) v4 (.pointer (some ⟨bm, 0, none⟩)) (.int .i64 tn) w got H1.n _ _ _ H3 hw3 s3.gO.rd (by omega) (by omega) s3.tm hone _ 0 rfl
  have h3 : ∀ K : K, l_law_PagesHolds_3 (.string k) (.string e) (.int .i64 (c : Int)) v4 (.pointer (some ⟨bm, 0, none⟩)) w (.int .i64 tn) got (.map (some H1.n)) (.int .i64 0) H3 (blkK [1, 2, 3, 4, 12, 13, 14] 6 K) = K .normal [(1, .string k), (2, .string e), (3, .int .i64 (c : Int)), (4, v4), (12, .pointer (some ⟨bm, 0, none⟩)), (13, w), (14, .int .i64 tn)] H3 := h3
  refine ⟨H3, fun h => ?_, fun K => ?_⟩
  · subst h
    obtain ⟨_, _, hMM⟩ := goP_still c e (by omega) fr.srt 100 _ k true rfl (by omega)
    have frM := s3.fr
    have hch : chOf 0 cl 0 = [] := rfl
    rw [hch, hMM] at frM
    refine ⟨frM, hw3, fun b hb h => ?_, fun b hb => ?_⟩
    · rcases s3.mbz b h with h | h
      · exact hoff b hb (hmb1 b h)
      · have := hwb b hb; have := s1.n; omega
    · have := hwb b hb; have := s1.n; have := s3.frz.n; omega
  · have m1 : CC F.pages_First [.pointer (some ⟨bm, 0, none⟩), .string k, .string e, .int .i64 (c : Int)] H = some (.tuple #[v, .string (pgM (M.filter (inF k true e)) c e), .int .i64 0], H1) := m1
    rcases htn with rfl | rfl
    · have hch : chOf 0 cl 0 = [] := rfl
      rw [hch] at s3
      obtain ⟨hP, hL, hMM⟩ := goP_still c e (by omega) fr.srt 100 _ k true rfl (by omega)
      rw [hP, hL, hMM] at s3
      have m4 := q_same _ _ got w H3 s3.gO.rd hw3 (by omega)
      rw [decide_eq_true rfl] at m4
      obtain ⟨v5, H5, m5, o5, s5⟩ := q_All bm M fr.srt fr.vok (by omega) k e c H3 s3.fr.mdl h0
      rw [chunks_fuel c (by omega) _ 100 _ (Nat.le_refl _) (by omega)] at o5
      obtain ⟨hc1, hc2⟩ := chunks_len c 100 (M.filter (inF k true e)) (by omega)
      have m8 := q_alls _ k e (c : Int) 0 _ v5 list H3 H5 m5 s5 o5.rds s3.lO.own.rds hc2 (by omega)
      rw [r_law_PagesHolds_1]
      simp (disch := first | with_reducible rfl | assumption | omega | rfl | (simp only [go_sem]; first | done | omega)) only [go_sem, ↓reduceIte, reduceCtorEq, Nat.reduceEqDiff, Nat.reduceAdd, Nat.reduceSub, Nat.reduceMul, Nat.reduceDiv, Nat.reduceMod, Nat.reduceLeDiff, Nat.reduceLT, Nat.reduceBEq, Int.reduceEq, Int.reduceBEq, Int.reduceBNe, Int.reduceLT, Int.reduceLE, Int.reduceAdd, Int.reduceSub, Int.reduceNeg, Int.reduceToNat, Int.reducePow, Nat.reducePow, Int.reduceMul, Int.reduceDiv, ↓s_law_PagesHolds_b1, ↓enterK_eq m1, enterK_eq m1, mk2, hloop, ↓enterK_eq m4, enterK_eq m4, ↓enterK_eq m8, enterK_eq m8, h3]
    · rw [r_law_PagesHolds_1]
      simp (disch := first | with_reducible rfl | assumption | omega | rfl | (simp only [go_sem]; first | done | omega)) only [go_sem, ↓reduceIte, reduceCtorEq, Nat.reduceEqDiff, Nat.reduceAdd, Nat.reduceSub, Nat.reduceMul, Nat.reduceDiv, Nat.reduceMod, Nat.reduceLeDiff, Nat.reduceLT, Nat.reduceBEq, Int.reduceEq, Int.reduceBEq, Int.reduceBNe, Int.reduceLT, Int.reduceLE, Int.reduceAdd, Int.reduceSub, Int.reduceNeg, Int.reduceToNat, Int.reducePow, Nat.reducePow, Int.reduceMul, Int.reduceDiv, ↓s_law_PagesHolds_b1, ↓enterK_eq m1, enterK_eq m1, mk2, hloop, h3]

end Go.Proofs.YtlkgfbcencoahaaDoor

/-
  Chapter 44: PagesHolds, joined.
  Conditions: none. By an AI agent.
-/
set_option maxRecDepth 10000
set_option linter.unusedSimpArgs false
set_option linter.unusedVariables false
namespace Go.Proofs.YtlkgfbcencoahaaDoor
open Go Eng

def chgA (a : Chg) : Bool := decide ((bl a.key).length ≤ 30) && decide ((bl a.value).length ≤ 44)
theorem l_sizes (cl : List Chg) (hcl : cl.length ≤ 40) (v0 v1 v2 v3 v4 : Value) (H : AHeap) (hr : Rd EChg H v4 cl) : ∀ (t : List Chg) (i : Nat), cl.drop i = t →
    (t.all chgA = true → ∀ K : K, l_law_PagesHolds_0 v0 v1 v2 v3 v4 (.int .i64 (i : Int)) H (blkK [0, 1, 2, 3, 4] 0 K) = K .normal [(0, v0), (1, v1), (2, v2), (3, v3), (4, v4)] H) ∧
    (t.all chgA = false → ∀ K : K, l_law_PagesHolds_0 v0 v1 v2 v3 v4 (.int .i64 (i : Int)) H (blkK [0, 1, 2, 3, 4] 0 K) = K .ret [(10, .bool true)] H)
  | [], i, hx => by
    have h : cl.length ≤ i := List.drop_eq_nil_iff.1 hx
    have hlt : ¬ (i : Int) < (cl.length : Int) := by omega
    have hlen := hr.lenS
    refine ⟨fun _ K => ?_, fun h => by simp at h⟩
    rw [r_law_PagesHolds_0]
    simp (disch := first | with_reducible rfl | assumption | omega | rfl | (simp only [go_sem]; first | done | omega)) only [go_sem, ↓reduceIte, reduceCtorEq, Nat.reduceEqDiff, Nat.reduceAdd, Nat.reduceSub, Nat.reduceMul, Nat.reduceDiv, Nat.reduceMod, Nat.reduceLeDiff, Nat.reduceLT, Nat.reduceBEq, Int.reduceEq, Int.reduceBEq, Int.reduceBNe, Int.reduceLT, Int.reduceLE, Int.reduceAdd, Int.reduceSub, Int.reduceNeg, Int.reduceToNat, Int.reducePow, Nat.reducePow, Int.reduceMul, Int.reduceDiv, ↓s_law_PagesHolds_b0, hlen, hlt]
  | a :: t, i, hx => by
    obtain ⟨h, hxa, hx'⟩ := drop_cons hx
    have hlt : (i : Int) < (cl.length : Int) := by omega
    have hlen := hr.lenS
    obtain ⟨b, o, ix, rd⟩ := rd_chg hr h
    obtain ⟨c0, c1, _⟩ := rd H (Fr.refl H)
    rw [hxa] at c0 c1
    obtain ⟨k1, k2⟩ := l_sizes cl hcl v0 v1 v2 v3 v4 H hr t (i + 1) hx'
    rw [Int.natCast_add] at k1 k2
    rw [List.all_cons]
    by_cases g1 : 30 < ((bl a.key).length : Int)
    · have e : chgA a = false := by unfold chgA; simp; omega
      rw [e]
      refine ⟨fun h => by simp at h, fun _ K => ?_⟩
      rw [r_law_PagesHolds_0]
      simp (disch := first | with_reducible rfl | assumption | omega | rfl | (simp only [go_sem]; first | done | omega)) only [go_sem, ↓reduceIte, reduceCtorEq, Nat.reduceEqDiff, Nat.reduceAdd, Nat.reduceSub, Nat.reduceMul, Nat.reduceDiv, Nat.reduceMod, Nat.reduceLeDiff, Nat.reduceLT, Nat.reduceBEq, Int.reduceEq, Int.reduceBEq, Int.reduceBNe, Int.reduceLT, Int.reduceLE, Int.reduceAdd, Int.reduceSub, Int.reduceNeg, Int.reduceToNat, Int.reducePow, Nat.reducePow, Int.reduceMul, Int.reduceDiv, ↓s_law_PagesHolds_b0, hlen, hlt, ix, c0, g1]
    · by_cases g2 : 44 < ((bl a.value).length : Int)
      · have e : chgA a = false := by unfold chgA; simp; omega
        rw [e]
        refine ⟨fun h => by simp at h, fun _ K => ?_⟩
        rw [r_law_PagesHolds_0]
        simp (disch := first | with_reducible rfl | assumption | omega | rfl | (simp only [go_sem]; first | done | omega)) only [go_sem, ↓reduceIte, reduceCtorEq, Nat.reduceEqDiff, Nat.reduceAdd, Nat.reduceSub, Nat.reduceMul, Nat.reduceDiv, Nat.reduceMod, Nat.reduceLeDiff, Nat.reduceLT, Nat.reduceBEq, Int.reduceEq, Int.reduceBEq, Int.reduceBNe, Int.reduceLT, Int.reduceLE, Int.reduceAdd, Int.reduceSub, Int.reduceNeg, Int.reduceToNat, Int.reducePow, Nat.reducePow, Int.reduceMul, Int.reduceDiv, ↓s_law_PagesHolds_b0, hlen, hlt, ix, c0, c1, g1, g2]
      · have e : chgA a = true := by unfold chgA; simp; omega
        rw [e, Bool.true_and]
        refine ⟨fun h3 K => ?_, fun h3 K => ?_⟩
        · have := k1 h3 K
          rw [r_law_PagesHolds_0]
          simp (disch := first | with_reducible rfl | assumption | omega | rfl | (simp only [go_sem]; first | done | omega)) only [go_sem, ↓reduceIte, reduceCtorEq, Nat.reduceEqDiff, Nat.reduceAdd, Nat.reduceSub, Nat.reduceMul, Nat.reduceDiv, Nat.reduceMod, Nat.reduceLeDiff, Nat.reduceLT, Nat.reduceBEq, Int.reduceEq, Int.reduceBEq, Int.reduceBNe, Int.reduceLT, Int.reduceLE, Int.reduceAdd, Int.reduceSub, Int.reduceNeg, Int.reduceToNat, Int.reducePow, Nat.reducePow, Int.reduceMul, Int.reduceDiv, ↓s_law_PagesHolds_b0, hlen, hlt, ix, c0, c1, g1, g2]
          exact this
        · have := k2 h3 K
          rw [r_law_PagesHolds_0]
          simp (disch := first | with_reducible rfl | assumption | omega | rfl | (simp only [go_sem]; first | done | omega)) only [go_sem, ↓reduceIte, reduceCtorEq, Nat.reduceEqDiff, Nat.reduceAdd, Nat.reduceSub, Nat.reduceMul, Nat.reduceDiv, Nat.reduceMod, Nat.reduceLeDiff, Nat.reduceLT, Nat.reduceBEq, Int.reduceEq, Int.reduceBEq, Int.reduceBNe, Int.reduceLT, Int.reduceLE, Int.reduceAdd, Int.reduceSub, Int.reduceNeg, Int.reduceToNat, Int.reducePow, Nat.reducePow, Int.reduceMul, Int.reduceDiv, ↓s_law_PagesHolds_b0, hlen, hlt, ix, c0, c1, g1, g2]
          exact this

theorem fill_len40 (l : List Pr) (h : l.length ≤ 40) : (fillP l).length ≤ 40 := by
  have hg : ∀ (x m : List Pr), (x.foldl (fun m a => (putE m a).2) m).length ≤ m.length + x.length := fun x => by
    induction x with
    | nil => intro m; simp
    | cons a x ih =>
      intro m
      have h1 := ih (putE m a).2
      have h2 : (putE m a).2.length ≤ m.length + 1 := by
        unfold putE
        split
        · unfold putP
          split
          · simp
          · split
            · simp
            · have hp := posP_le m a.key
              simp; omega
        · simp
      simp only [List.foldl_cons, List.length_cons]
      omega
  have := hg l []
  unfold fillP
  simp at this
  omega

set_option maxHeartbeats 4000000 in
theorem q_PagesHolds (l : List Pr) (v : Value) (k e : ByteArray) (n : Int) (cl : List Chg) (v4 : Value) (H : AHeap) (ok : Ok H) (hr : Rd EPr H v l) (hr4 : Rd EChg H v4 cl) :
    ∃ H', CC F.law_PagesHolds [v, .string k, .string e, .int .i64 n, v4] H = some (.bool true, H') := by
  have m1 := q_small l v H hr
  have hl4 := hr4.lenS
  cases hs : smallP l with
  | false =>
    rw [hs] at m1
    refine any_of (H1 := H) (d_law_PagesHolds _ _ _ _ _ H ?_)
    simp (disch := first | with_reducible rfl | assumption | omega | rfl | (simp only [go_sem]; first | done | omega)) only [go_sem, ↓reduceIte, reduceCtorEq, Nat.reduceEqDiff, Nat.reduceAdd, Nat.reduceSub, Nat.reduceMul, Nat.reduceDiv, Nat.reduceMod, Nat.reduceLeDiff, Nat.reduceLT, Nat.reduceBEq, Int.reduceEq, Int.reduceBEq, Int.reduceBNe, Int.reduceLT, Int.reduceLE, Int.reduceAdd, Int.reduceSub, Int.reduceNeg, Int.reduceToNat, Int.reducePow, Nat.reducePow, Int.reduceMul, Int.reduceDiv, ↓s_law_PagesHolds, ↓enterK_eq m1, enterK_eq m1]
  | true =>
  rw [hs] at m1
  by_cases h1 : 40 < (cl.length : Int)
  · refine any_of (H1 := H) (d_law_PagesHolds _ _ _ _ _ H ?_)
    simp (disch := first | with_reducible rfl | assumption | omega | rfl | (simp only [go_sem]; first | done | omega)) only [go_sem, ↓reduceIte, reduceCtorEq, Nat.reduceEqDiff, Nat.reduceAdd, Nat.reduceSub, Nat.reduceMul, Nat.reduceDiv, Nat.reduceMod, Nat.reduceLeDiff, Nat.reduceLT, Nat.reduceBEq, Int.reduceEq, Int.reduceBEq, Int.reduceBNe, Int.reduceLT, Int.reduceLE, Int.reduceAdd, Int.reduceSub, Int.reduceNeg, Int.reduceToNat, Int.reducePow, Nat.reducePow, Int.reduceMul, Int.reduceDiv, ↓s_law_PagesHolds, ↓enterK_eq m1, enterK_eq m1, hl4, h1]
  obtain ⟨z1, z2⟩ := l_sizes cl (by omega) v (.string k) (.string e) (.int .i64 n) v4 H hr4 cl 0 rfl
  cases hA : cl.all chgA with
  | false =>
    have z2 : ∀ K : K, l_law_PagesHolds_0 v (.string k) (.string e) (.int .i64 n) v4 (.int .i64 0) H (blkK [0, 1, 2, 3, 4] 0 K) = K .ret [(10, .bool true)] H := z2 hA
    refine any_of (H1 := H) (d_law_PagesHolds _ _ _ _ _ H ?_)
    simp (disch := first | with_reducible rfl | assumption | omega | rfl | (simp only [go_sem]; first | done | omega)) only [go_sem, ↓reduceIte, reduceCtorEq, Nat.reduceEqDiff, Nat.reduceAdd, Nat.reduceSub, Nat.reduceMul, Nat.reduceDiv, Nat.reduceMod, Nat.reduceLeDiff, Nat.reduceLT, Nat.reduceBEq, Int.reduceEq, Int.reduceBEq, Int.reduceBNe, Int.reduceLT, Int.reduceLE, Int.reduceAdd, Int.reduceSub, Int.reduceNeg, Int.reduceToNat, Int.reducePow, Nat.reducePow, Int.reduceMul, Int.reduceDiv, ↓s_law_PagesHolds, ↓enterK_eq m1, enterK_eq m1, hl4, h1, z2]
  | true =>
  have z1 : ∀ K : K, l_law_PagesHolds_0 v (.string k) (.string e) (.int .i64 n) v4 (.int .i64 0) H (blkK [0, 1, 2, 3, 4] 0 K) = K .normal [(0, v), (1, .string k), (2, .string e), (3, .int .i64 n), (4, v4)] H := z1 hA
  have hl := smallP_ok hs
  obtain ⟨bm, H1, m2, fr1⟩ := q_filled l v H ok hr (by omega)
  have hM := fill_len40 l hl
  generalize fillP l = M at fr1 hM
  obtain ⟨w, H2, m3, o2, s2, nw⟩ := q_in bm M k e true H1 fr1.mdl (by omega)
  have fr2 := fr1.to s2
  have hlast : ∀ (x : Value) (H' : AHeap) (K : K), l_law_PagesHolds_1 (.string k) (.string e) (.int .i64 n) v4 (.pointer (some ⟨bm, 0, none⟩)) w (.int .i64 2) H' (blkK [] 2 K) = K .normal [] H' := fun x H' K => by
    rw [r_law_PagesHolds_1]
    simp (disch := first | with_reducible rfl | assumption | omega | rfl | (simp only [go_sem]; first | done | omega)) only [go_sem, ↓reduceIte, reduceCtorEq, Nat.reduceEqDiff, Nat.reduceAdd, Nat.reduceSub, Nat.reduceMul, Nat.reduceDiv, Nat.reduceMod, Nat.reduceLeDiff, Nat.reduceLT, Nat.reduceBEq, Int.reduceEq, Int.reduceBEq, Int.reduceBNe, Int.reduceLT, Int.reduceLE, Int.reduceAdd, Int.reduceSub, Int.reduceNeg, Int.reduceToNat, Int.reducePow, Nat.reducePow, Int.reduceMul, Int.reduceDiv, ↓s_law_PagesHolds_b1]
  by_cases h0 : fErr k e n = 0
  · obtain ⟨g1, g2, _⟩ := fErr_ok h0
    obtain ⟨c, rfl⟩ : ∃ c : Nat, n = (c : Int) := ⟨n.toNat, by omega⟩
    obtain ⟨H3, hq, t1⟩ := one_turn H H2 bm M hM k e c h0 cl (by omega) v4 w hr4 0 (.inl rfl) fr2 o2.rd (fun b hb h => by
      have h1 := fr1.mdl.blk (MBT_still fr1.mdl s2 h)
      have h2 := nw b hb
      omega) (fun b hb => o2.blk hb)
    obtain ⟨fr3, rd3, off3, blk3⟩ := hq rfl
    obtain ⟨H4, _, t2⟩ := one_turn H H3 bm M hM k e c h0 cl (by omega) v4 w hr4 1 (.inr rfl) fr3 rd3 off3 blk3
    have t12 : ∀ K : K, l_law_PagesHolds_1 (.string k) (.string e) (.int .i64 (c : Int)) v4 (.pointer (some ⟨bm, 0, none⟩)) w (.int .i64 0) H2 (blkK [] 2 K) = K .normal [] H4 := fun K => by
      rw [t1 K]
      have := t2 K
      have hl := hlast w H4 K
      exact this.trans hl
    refine any_of (H1 := H4) (d_law_PagesHolds _ _ _ _ _ H ?_)
    simp (disch := first | with_reducible rfl | assumption | omega | rfl | (simp only [go_sem]; first | done | omega)) only [go_sem, ↓reduceIte, reduceCtorEq, Nat.reduceEqDiff, Nat.reduceAdd, Nat.reduceSub, Nat.reduceMul, Nat.reduceDiv, Nat.reduceMod, Nat.reduceLeDiff, Nat.reduceLT, Nat.reduceBEq, Int.reduceEq, Int.reduceBEq, Int.reduceBNe, Int.reduceLT, Int.reduceLE, Int.reduceAdd, Int.reduceSub, Int.reduceNeg, Int.reduceToNat, Int.reducePow, Nat.reducePow, Int.reduceMul, Int.reduceDiv, ↓s_law_PagesHolds, ↓enterK_eq m1, enterK_eq m1, hl4, h1, z1, ↓enterK_eq m2, enterK_eq m2, ↓enterK_eq m3, enterK_eq m3, t12]
  · have hb := q_First_bad ⟨bm, 0, none⟩ k e n H2 h0
    have t12 : ∀ K : K, l_law_PagesHolds_1 (.string k) (.string e) (.int .i64 n) v4 (.pointer (some ⟨bm, 0, none⟩)) w (.int .i64 0) H2 (blkK [] 2 K) = K .ret [(10, .bool true)] H2 := fun K => by
      rw [r_law_PagesHolds_1]
      simp (disch := first | with_reducible rfl | assumption | omega | rfl | (simp only [go_sem]; first | done | omega)) only [go_sem, ↓reduceIte, reduceCtorEq, Nat.reduceEqDiff, Nat.reduceAdd, Nat.reduceSub, Nat.reduceMul, Nat.reduceDiv, Nat.reduceMod, Nat.reduceLeDiff, Nat.reduceLT, Nat.reduceBEq, Int.reduceEq, Int.reduceBEq, Int.reduceBNe, Int.reduceLT, Int.reduceLE, Int.reduceAdd, Int.reduceSub, Int.reduceNeg, Int.reduceToNat, Int.reducePow, Nat.reducePow, Int.reduceMul, Int.reduceDiv, ↓s_law_PagesHolds_b1, ↓enterK_eq hb, enterK_eq hb, h0, bl_mk]
    refine any_of (H1 := H2) (d_law_PagesHolds _ _ _ _ _ H ?_)
    simp (disch := first | with_reducible rfl | assumption | omega | rfl | (simp only [go_sem]; first | done | omega)) only [go_sem, ↓reduceIte, reduceCtorEq, Nat.reduceEqDiff, Nat.reduceAdd, Nat.reduceSub, Nat.reduceMul, Nat.reduceDiv, Nat.reduceMod, Nat.reduceLeDiff, Nat.reduceLT, Nat.reduceBEq, Int.reduceEq, Int.reduceBEq, Int.reduceBNe, Int.reduceLT, Int.reduceLE, Int.reduceAdd, Int.reduceSub, Int.reduceNeg, Int.reduceToNat, Int.reducePow, Nat.reducePow, Int.reduceMul, Int.reduceDiv, ↓s_law_PagesHolds, ↓enterK_eq m1, enterK_eq m1, hl4, h1, z1, ↓enterK_eq m2, enterK_eq m2, ↓enterK_eq m3, enterK_eq m3, t12]

theorem decChg {W : World} {H : Type} {enc : TypeId × Value → H} (_ : 0 < W.heap.size) {cs : List Value} {n : Nat} {y : DataW H × List MemPlace} (h : DataW.trod enc Tryd.prog W 0 (fun _ => true) true n T.law_Change cs = some y) (hl : cs.length = EChg.w) :
    ∃ a : Chg, cs.map (conv2 W.heap.size) = EChg.enc a ∧ True := by
  have ht := Tryd.underlying47
  obtain ⟨c0, c1, c2, rfl⟩ : ∃ c0 c1 c2, cs = [c0, c1, c2] := by
    match cs, hl with
    | [c0, c1, c2], _ => exact ⟨_, _, _, rfl⟩
  obtain ⟨m0, z0, h0⟩ := dec_field ht h (i := 0) rfl rfl (by kernel_rfl) rfl
  obtain ⟨m1, z1, h1⟩ := dec_field ht h (i := 1) rfl rfl (by kernel_rfl) rfl
  obtain ⟨m2, z2, h2⟩ := dec_field ht h (i := 2) rfl rfl (by kernel_rfl) rfl
  obtain ⟨s0, rfl, _⟩ := dec_str Tryd.underlying9 h0
  obtain ⟨s1, rfl, _⟩ := dec_str Tryd.underlying9 h1
  obtain ⟨b, hb, _⟩ := DataW.trod_bool Tryd.underlying4 h2
  obtain rfl := (List.cons.inj hb).1
  exact ⟨⟨s0, s1, b⟩, rfl, trivial⟩

theorem run_PagesHolds (W : World) (v : Value) (l : List Pr) (rl : RdS EPr T.api_Pair (absHeap2 W) v l) (_ : ∀ x, x ∈ l → True) (_ : l.length ≤ maxLen) (k : ByteArray) (_ : (bl k).length ≤ 140737488351232) (e : ByteArray) (_ : (bl e).length ≤ 140737488351232)
    (n : Int) (_ : (Lit.int .i64 n).wf = true) (v4 : Value) (cl : List Chg) (rc : RdS EChg T.law_Change (absHeap2 W) v4 cl) (_ : ∀ x, x ∈ cl → True) (_ : cl.length ≤ maxLen) : ∃ k' H', dCall Tryd.prog prims1 hints k' F.law_PagesHolds [v, .string k, .string e, .int .i64 n, v4] (absHeap2 W) = some (.bool true, H') := by
  obtain ⟨H', h⟩ := q_PagesHolds l v k e n cl v4 (absHeap2 W) (fun _ => Nat.zero_lt_one) rl.1 rc.1
  obtain ⟨k, h⟩ := D_run h
  exact ⟨k, _, h⟩

end Go.Proofs.YtlkgfbcencoahaaDoor

/-
  The engine, part 37: arguments that are structs.
  Conditions: none. By an AI agent.
-/
namespace Go.Proofs.YtlkgfbcencoahaaDoor.Eng
open Go
set_option linter.unusedVariables false
set_option linter.unusedSimpArgs false

section
variable {P : Program} {W : World} {α : Type} {E : Enc α} {R : α → Prop} {H : Type} {enc : TypeId × Value → H}

theorem pos_of_has {r : Reach} {base : Nat} {a : Addr} {e : TypeId} {n : Nat} (h : W.has P r base a e n) : 0 < W.heap.size := by
  obtain ⟨_, _, row, cells, hshape, _⟩ := h
  unfold World.shape? at hshape
  split at hshape
  · rename_i hw; have := (Array.getElem?_eq_some_iff.1 hw).1; omega
  · cases hshape
theorem pos_of_cell {r : Reach} {base : Nat} {u : TypeId} {a : Addr} {len cap : Nat} (h : Cell.okWide P W r base u (.slice (some a) len cap)) : 0 < W.heap.size := by
  unfold Cell.okWide at h
  split at h
  all_goals first
    | (rename_i h1 h2; cases h2)
    | skip
  unfold Cell.ok at h
  split at h
  all_goals first
    | (rename_i h1 h2; cases h2; exact pos_of_has h.2.2)
    | (rename_i h1 h2; cases h2)
    | exact h.elim

/-- An argument that is a struct. -/
theorem open_agg2 {t : TypeId} {v : Value} {d : DataW H} {p : List MemPlace} {fs : Array Field} (ht : P.underlying t = some (.struct fs)) (hC : P.cellsOf t = E.w)
    (dec : ∀ cs n y, (0 < W.heap.size ∨ ∀ c, c ∈ cs → ∀ a, c ≠ .slice (some a) 0 0) → DataW.trod enc P W 0 (fun _ => true) true n t cs = some y → cs.length = E.w → ∃ a, cs.map (conv2 W.heap.size) = E.enc a ∧ R a)
    (hval : Value.okWide P W .any 0 t v) (h : DataW.Trod enc P W 0 (fun _ => true) true t v d p) :
    ∃ a : α, convA2 W.heap.size v = .agg ⟨E.enc a⟩ ∧ R a := by
  simp only [Value.okWide, ht] at hval
  obtain ⟨cs, rfl, hsz, ts, _, _, hall⟩ := hval
  obtain ⟨fuel, hf⟩ := h
  have hf : DataW.trod enc P W 0 (fun _ => true) true fuel t cs.toList = some (d, p) := hf
  obtain ⟨a, ha, hR⟩ := dec cs.toList fuel _ (by
    by_cases hp : 0 < W.heap.size
    · exact .inl hp
    · refine .inr fun c hc a e => hp ?_
      subst e
      obtain ⟨i, hi, he⟩ := List.getElem_of_mem hc
      obtain ⟨u, _, hu⟩ := hall i (.slice (some a) 0 0) (by rw [← Array.getElem?_toList, List.getElem?_eq_getElem hi, he])
      exact pos_of_cell hu) hf (by rw [Array.length_toList, hsz, hC])
  refine ⟨a, ?_, hR⟩
  show Value.agg (cs.map (conv2 W.heap.size)) = _
  rw [← ha]
  congr 1
  apply Array.toList_inj.1
  simp
end

end Go.Proofs.YtlkgfbcencoahaaDoor.Eng

/-
  The engine, part 33: rows with laid variables: the wrap that keeps the world's shape; arguments that are structs.
  Conditions: none. By an AI agent.
-/
namespace Go.Proofs.YtlkgfbcencoahaaDoor.Eng
open Go
set_option linter.unusedVariables false
set_option linter.unusedSimpArgs false

section
variable {H : Type} {enc : TypeId × Value → H}
/-- returnsInHanded_of_change_and, the world's shape kept. -/
theorem wrapX {a : Assume} {C : Checked} {os : Os} {f : FuncId} {fn : Func} {s : ChangeSpec} {conds : List PathCond} {apart fresh handsOn again : Bool} {X : World → Array Value → Prop}
    (hX : ∀ (w w' : World) (args : Array Value), w.heap = w'.heap → X w args → X w' args)
    (own : ownKnob C.prog.godebug = none) (started : os.Started) (noInit : C.prog.inits.idxOf? f = none) (hfn : C.prog.funcs[f]? = some fn)
    (witness : ∃ (w : World) (tape : Tape) (i : Input), w.os = os ∧ (w.forCall tape i).Shaped C.prog ∧ i.vars = [] ∧ Input.okWide C.prog (w.forCall tape i) .any w.heap.size f i ∧
      ((s.pre enc C.prog fn conds apart (w.forCall tape i).memory i.args ∧ X (w.forCall tape i).memory i.args) ∧ sizedMet enc C.prog fn (OpenSpec.ofChange s) apart (w.forCall tape i).memory i.args) ∧ a.holds C.prog (lone (Frame.enter C.prog f i.args .normal) [] (w.forCall tape i)))
    (contract : ∀ (W : World) (base : Nat) (args : Array Value) (ds gs : List (DataW H)) (before : List MemPlace),
      (∀ (j : Nat) t v, fn.params[j]? = some t → args[j]? = some v → Value.okWide C.prog W .any base t v) →
      DataW.Whole enc C.prog fn.params.toList s.vars apart W args.toList ds gs before →
      (DataW.weightsEach C.prog (fn.params.toList ++ s.plain.varTypes C.prog) (ds ++ gs)).all (· ≤ reachBytes) = true →
      W.ShapedOpen C.prog → X W args →
      Calls C.prog f args W fun e W' => ∃ v, e = .returned v ∧ s.post enc C.prog fn apart fresh handsOn again W args v W') :
    ReturnsInHanded a C os f .any (fun w args => (s.pre enc C.prog fn conds apart w args ∧ X w args) ∧ sizedMet enc C.prog fn (OpenSpec.ofChange s) apart w args) (s.post enc C.prog fn apart fresh handsOn again) := by
  refine returnsInHanded_of_calls own started noInit witness ?_
  intro w tape i _ hsh _ hok hpre _
  obtain ⟨_, _, _, fn', hfn', _, _, _, _, hval⟩ := hok
  have e : fn' = fn := Option.some.inj (hfn'.symm.trans hfn)
  subst e
  obtain ⟨⟨⟨ds, gs, before, hw, hc⟩, hx⟩, hz⟩ := hpre
  have hw' := DataW.Whole.of_heap (w' := w.forCall tape i) (by rfl) hw
  refine (contract (w.forCall tape i) w.heap.size i.args ds gs before hval hw' (hz.weights hw) hsh (hX (w.forCall tape i).memory _ _ rfl hx)).mono fun e W' ⟨v, he, hp⟩ => ?_
  subst he
  exact ChangeSpec.post_blind hp
end

end Go.Proofs.YtlkgfbcencoahaaDoor.Eng

/-
  The law PagesHolds: for every input it returns true, and its input reads as it did; and its card.
  Conditions: none. By an AI agent.
-/
namespace Go.Proofs.YtlkgfbcencoahaaDoor.pagesHolds
open Go Go.ChangeShapes Go.WideShapes Go.ChangeAt Go.RowKit Go.Shelf Go.Lib
open Go.ChangeMaps (open_string shut_string)
set_option linter.unusedVariables false
theorem own : ownKnob Tryd.prog.godebug = none := by kernel_rfl
theorem laidOut : laidOutB Tryd.prog = true := by kernel_rfl
theorem gN1 : Tryd.prog.globalNamed "strconv.ErrSyntax" = some 1 := by kernel_rfl
theorem gT1 : (Tryd.prog.globals[1]?).map (·.type) = some 91 := by kernel_rfl
theorem star1 : "*" ++ "errors.errorString" = "*errors.errorString" := by decide
theorem row1 (u : TypeId) (h : Tryd.prog.typeName? 3 u = some "*errors.errorString") : u = 129 :=
  typeName_ptr_named (nm := "errors.errorString") (by rw [star1]; kernel_rfl) (by kernel_rfl) (by decide) u (by rw [star1]; exact h)
theorem glob (W : World) (hsh : W.ShapedOpen Tryd.prog) (hl : laidMetH Tryd.prog Rows.pagesHoldsRow.laid W) : Eng.Glob W.heap.size W := fun g hg => by
  rw [MakeChecks.laidMetH_plain _ _ _ (by kernel_rfl)] at hl
  simp only [Eng.globs, List.mem_cons, List.not_mem_nil, or_false] at hg
  rcases hg with rfl | rfl
  · obtain ⟨m, hm⟩ := Go.Proofs.cell_of_shapedOpen_int (g := 0) (zero := #[.int .i64 0]) (t := 3) hsh (of_decide_eq_true (by kernel_rfl)) (by kernel_rfl) rfl (by kernel_rfl) (by kernel_rfl) Tryd.underlying3
    obtain ⟨cs, e, fr, h1, _, _⟩ := Eng.cell_abs hm
    rw [Eng.cell_cellO] at hm
    exact ⟨(Array.getElem?_eq_some_iff.1 h1).1, m, hm⟩
  · obtain ⟨a, sx, hv, _⟩ := laid_sentinel hl.tail.tail.tail.tail.tail gN1 gT1 Tryd.underlying91 row1 Tryd.underlying129 Tryd.underlying131 rfl rfl Tryd.underlying9 (by kernel_rfl) (by kernel_rfl)
    have hm : W.cell? ⟨1, 0, none⟩ = some (.iface 129 (.pointer (some a))) := by simpa using World.var?_cell gN1 hv 0
    obtain ⟨cs, e, fr, h1, _, _⟩ := Eng.cell_abs hm
    rw [Eng.cell_cellO] at hm
    exact ⟨(Array.getElem?_eq_some_iff.1 h1).1, _, hm, .inr ⟨_, _, rfl⟩⟩
set_option maxRecDepth 100000 in
theorem lifted (os : Os) (started : os.Started) (H : Type) (enc : TypeId × Value → H) :
    ReturnsInHanded {} Tryd.checked os 6 .any (fun w args => (Rows.pagesHoldsSpec.pre enc Tryd.prog Tryd.f6 [] false w args ∧ laidMetH Tryd.prog Rows.pagesHoldsRow.laid w) ∧ sizedMet enc Tryd.prog Tryd.f6 (OpenSpec.ofChange Rows.pagesHoldsSpec) false w args)
      (Rows.pagesHoldsSpec.post enc Tryd.prog Tryd.f6 false true false false) := by
  refine Eng.wrapX (C := Tryd.checked) (X := fun w _ => laidMetH Tryd.prog Rows.pagesHoldsRow.laid w) (fun _ _ _ hh h => h.of_heap hh) own started (by kernel_rfl) Tryd.func6
    (ChangeSpec.witness_shaped (enc := enc) (C := Tryd.checked) (os := os) (X := fun w _ => laidMetH Tryd.prog Rows.pagesHoldsRow.laid w) false (World.laidAll Tryd.prog os Rows.pagesHoldsRow.laid) #[.slice none 0 0, .string ByteArray.empty, .string ByteArray.empty, .int .i64 0, .slice none 0 0] 8 (World.laidAll_os _ _ _)
      (World.shaped_of_ZipB (by kernel_rfl) (by kernel_rfl)) (by kernel_rfl) (by kernel_rfl) (by kernel_rfl)
      (by rw [MakeChecks.laidMetH_plain _ _ _ (by kernel_rfl)]; exact laidMet_laidAll _ (by kernel_rfl) (by kernel_rfl))) ?_
  intro W base args ds gs before hval0 hW hsz0 hsh hlx
  have hsz : (DataW.weightsEach Tryd.prog (Tryd.f6.params.toList ++ Rows.pagesHoldsSpec.plain.varTypes Tryd.prog) (ds ++ gs)).all (· ≤ reachBytes) = true := hsz0
  have hval : ∀ (j : Nat) t v, Tryd.f6.params[j]? = some t → args[j]? = some v → Value.okWide Tryd.prog W .any base t v := hval0
  have hW' := hW
  obtain ⟨p, q, hA0, hV, rfl, hfz, hnd⟩ := hW
  have hA : DataW.TrodAll enc Tryd.prog W 0 (fun _ => true) true Tryd.f6.params.toList args.toList ds p := hA0
  rw [Tryd.params6] at hA hval hsz
  obtain ⟨v0, vs0, d0, ds0, p0, q0, hargs, rfl, rfl, h0, r0⟩ := trodAll_cons hA
  obtain ⟨v1, vs1, d1, ds1, p1, q1, rfl, rfl, rfl, h1, r1⟩ := trodAll_cons r0
  obtain ⟨v2, vs2, d2, ds2, p2, q2, rfl, rfl, rfl, h2, r2⟩ := trodAll_cons r1
  obtain ⟨v3, vs3, d3, ds3, p3, q3, rfl, rfl, rfl, h3, r3⟩ := trodAll_cons r2
  obtain ⟨v4, vs4, d4, ds4, p4, q4, rfl, rfl, rfl, h4, r4⟩ := trodAll_cons r3
  obtain ⟨rfl, rfl, rfl⟩ := trodAll_nil r4
  obtain rfl : args = #[v0, v1, v2, v3, v4] := by cases args; simp_all
  obtain ⟨rfl, rfl⟩ := trodVars_none hV
  have k0 := h0
  have lt0 : ∀ x ∈ p0, x.block < W.heap.size := by obtain ⟨m, hm⟩ := k0; exact DataW.trod_lt m _ _ _ hm
  obtain ⟨l0, rd0, all0, len0⟩ := Eng.open_rd2 (t := 22) (e' := 43) Tryd.underlying22 (by kernel_rfl) (fun hp cs n y h hl => decPr2 hp h hl) (hval 0 22 v0 rfl rfl) k0
  obtain ⟨a1, rfl, rfl, rfl, y1⟩ := open_string Tryd.underlying9 (hval 1 9 v1 rfl rfl) h1
  have w1 : (Eng.bl a1).length ≤ 140737488351232 := sized_string hsz (j := 1) (t := 9) rfl rfl
  obtain ⟨a2, rfl, rfl, rfl, y2⟩ := open_string Tryd.underlying9 (hval 2 9 v2 rfl rfl) h2
  have w2 : (Eng.bl a2).length ≤ 140737488351232 := sized_string hsz (j := 2) (t := 9) rfl rfl
  obtain ⟨a3, rfl, rfl, rfl, w3⟩ := open_int Tryd.underlying3 (hval 3 3 v3 rfl rfl) h3
  have k4 := h4
  have lt4 : ∀ x ∈ p4, x.block < W.heap.size := by obtain ⟨m, hm⟩ := k4; exact DataW.trod_lt m _ _ _ hm
  obtain ⟨l4, rd4, all4, len4⟩ := Eng.open_rd2 (t := 45) (e' := 47) Tryd.underlying45 (by kernel_rfl) (fun hp cs n y h hl => decChg hp h hl) (hval 4 45 v4 rfl rfl) k4
  refine (Eng.law_calls2 (args := #[v0, .string a1, .string a2, .int .i64 a3, v4]) prims1_ok mixed (glob W hsh hlx) (run_PagesHolds W (Eng.convA2 W.heap.size v0) l0 rd0 all0 len0 a1 w1 a2 w2 a3 w3 (Eng.convA2 W.heap.size v4) l4 rd4 all4 len4)).mono fun e W' ⟨he, bel⟩ => ?_
  subst he
  exact ⟨_, rfl, _, _, _, [], _, [], hW', trodAll_mk1 (shut_bool Tryd.underlying4 _), (trodAll_cons_mk (Below.trod laidOut (by kernel_rfl) (of_decide_eq_true (by kernel_rfl)) k0 bel lt0) (trodAll_cons_mk (shut_string Tryd.underlying9 y1) (trodAll_cons_mk (shut_string Tryd.underlying9 y2) (trodAll_cons_mk (shut_int Tryd.underlying3 w3) (trodAll_cons_mk (Below.trod laidOut (by kernel_rfl) (of_decide_eq_true (by kernel_rfl)) k4 bel lt4) trodAll_mk0))))), rfl, bel.frame _, fun h => by cases h⟩

theorem over : Rows.pagesHoldsRow.holds Tryd.pinned (OpenSpec.ofChange Rows.pagesHoldsSpec) :=
  OpenClaim.holds_of_wide 6 Tryd.f6 rfl rfl rfl rfl rfl rfl rfl ⟨rfl, rfl, rfl, rfl, rfl⟩ rfl rfl rfl rfl rfl (by kernel_rfl) Tryd.func6 (by kernel_rfl)
    (of_decide_eq_true (by kernel_rfl)) (by unfold Func.isWrapper; first | (rw [if_pos (by decide +kernel)]; kernel_rfl) | (rw [if_neg (by decide +kernel)]; exact ⟨rfl, rfl⟩))
    (fun os started H enc _ => lifted os started H enc)
theorem proved : Rows.PagesHoldsCardSaid :=
  Claim7.holds_tied_plain_at .later [] [.data, .data, .data, .data, .sentinel, .sentinel, .pinned] true (true, "ef81491be147621d194e189f5f29381fb4c44cbb92e9647d629af1b4d4384497") true over (fun _ h => by cases h) (by kernel_rfl) (fun _ h => by cases h) pagesHolds_row_tie rfl ⟨rfl, rfl⟩ (by kernel_rfl) rfl
    (fun f fn hf hfn => by
      obtain rfl : f = 6 := Option.some.inj ((show Tryd.prog.funcNamed "ticketline/ticketlinelaw44.PagesHolds" = some 6 by kernel_rfl).symm.trans hf) |>.symm
      obtain rfl : fn = Tryd.f6 := (Option.some.inj (Tryd.func6.symm.trans hfn)).symm
      exact ⟨by kernel_rfl, fun j t ht => by
        rw [Tryd.params6] at ht
        have hm : t ∈ [22, 9, 9, 3, 45] := by simpa using Array.mem_of_getElem? ht
        have hall : ([22, 9, 9, 3, 45].all fun u => !Tryd.prog.wantsStandIn u) = true := by kernel_rfl
        exact (show Tryd.prog.wantsStandIn t = false by simpa using List.all_eq_true.1 hall t hm)⟩)
    (by kernel_rfl)
#print axioms proved
end Go.Proofs.YtlkgfbcencoahaaDoor.pagesHolds
namespace Go.Proofs.YtlkgfbcencoahaaDoor
/-- The card, under a short name, for the claim. -/
theorem pagesHolds_card : Rows.PagesHoldsCardSaid := pagesHolds.proved
end Go.Proofs.YtlkgfbcencoahaaDoor
