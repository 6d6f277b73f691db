/-
  14 texts in one (merge.py): Cd Ce Da Db Dc Ea Ee ShPagesNext DsPagesNext Ec Eg ShPagesHolds DsPagesHolds Eh.
  Conditions: none. By an AI agent.
-/
import Derived.Test.YtlkgfbcencoahaaDoorLawPagesHoldsQ1
import Derived.Test.YtlkgfbcencoahaaDoorChecked
import Derived.KernelRfl

/-
  Chapter 44: pages.Read; the law's digit and read.
  Conditions: none. By an AI agent.
-/
set_option maxRecDepth 10000
set_option linter.unusedSimpArgs false
set_option linter.unusedVariables false
namespace Go.Proofs.YtlkgfbcencoahaaDoor
open Go Eng

theorem mk_data (s : ByteArray) : mk s.data.toList = s := by cases s; rfl
theorem spS_dots (m : List UInt8) : spS (mk m) (mk [46]) = (dots m).map mk := by
  unfold spS
  have h1 := Lib.splitB_data (mk [46]) 0 (Lib.countB (mk m) (mk [46])) (mk m)
  have h2 : Lib.countB (mk m) (mk [46]) = m.count 46 := by
    show Lib.count m [46] = _
    exact Lib.count_one 46 m
  rw [h2] at h1 ⊢
  have h3 : Lib.splitK (mk [46]).data.toList 0 (m.count 46) (mk m).data.toList = dots m := splitK_dots _ m rfl
  rw [h3] at h1
  rw [← h1, List.map_map]
  conv => lhs; rw [← List.map_id (Lib.splitB (mk [46]) 0 (m.count 46) (mk m))]
  exact List.map_congr_left fun x _ => (mk_data x).symm

theorem q_Split (m : List UInt8) (H : AHeap) (hm : m.length ≤ 1000000) : CC F.strings_Split [.string (mk m), .string (mk [46])] H = some (.slice (some ⟨H.n, 0, none⟩) (dots m).length (2 * (dots m).length), H.push (.cells ((dots m).map fun x => .string (mk x)) T.string true)) := by
  refine D_prim (show prims1 F.strings_Split = some splV by kernel_rfl) ?_
  show (if (mk m).size ≤ 1000000 ∧ 1 ≤ (mk [46]).size then some (Value.slice (some ⟨H.n, 0, none⟩) (Lib.countB (mk m) (mk [46]) + 1) (2 * (Lib.countB (mk m) (mk [46]) + 1)), H.push (.cells ((spS (mk m) (mk [46])).map Value.string) 9 true)) else none) = _
  have e : (mk m).size = m.length := rfl
  have hl : Lib.countB (mk m) (mk [46]) + 1 = (dots m).length := by
    have := Lib.splitB_all (mk [46]) (by decide) 0 _ (mk m) rfl
    rw [← this]
    show (spS (mk m) (mk [46])).length = _
    rw [spS_dots, List.length_map]
  rw [if_pos ⟨by omega, by decide⟩, hl, spS_dots, List.map_map]
  rfl

theorem leqB (a b : List UInt8) : (Op.bytesLess a b || a == b) = decide (Lib.compareBytes a b ≤ 0) := by
  have := leq_cmpS (mk a) (mk b)
  rwa [bl_mk, bl_mk] at this

def readV (m : List UInt8) : Value := match readR m with | some (e, k) => .tuple #[.string (mk e), .string (mk k), .int .i64 0] | none => .tuple #[.string (mk []), .string (mk []), .int .i64 6]

theorem dots_len : ∀ m : List UInt8, ∀ x ∈ dots m, x.length ≤ m.length
  | [], x, h => by simp [dots] at h; subst h; simp
  | c :: r, x, h => by
    have ih := dots_len r
    rw [dots] at h
    split at h
    · rcases List.mem_cons.1 h with rfl | h
      · simp
      · have := ih x h; simp; omega
    · split at h
      · rename_i h0 t hd
        rw [hd] at ih
        rcases List.mem_cons.1 h with rfl | h
        · have := ih h0 (by simp); simp; omega
        · have := ih x (by simp [h]); simp; omega
      · simp at h; subst h; simp

theorem q_Read (m : List UInt8) (H : AHeap) (hm : m.length ≤ 10000) : CC F.pages_Read [.string (mk m)] H = some (readV m, H) := by
  have m1 := q_Split m H (by omega)
  obtain ⟨H1, hH1⟩ : ∃ H1, H.push (.cells ((dots m).map fun x => .string (mk x)) T.string true) = H1 := ⟨_, rfl⟩
  rw [hH1] at m1
  have s1 : Still H H1 := by rw [← hH1]; exact (Fr.refl H).push _
  have f1 : H1.f H.n = .cells ((dots m).map fun x => .string (mk x)) T.string true := by rw [← hH1]; exact push_f_eq rfl
  have hdl := dots_len m
  unfold readV
  by_cases h3 : (dots m).length = 3
  · obtain ⟨a, b, c, hd⟩ : ∃ a b c, dots m = [a, b, c] := by
      rcases hdm : dots m with _ | ⟨a, _ | ⟨b, _ | ⟨c, _ | ⟨d, t⟩⟩⟩⟩ <;> rw [hdm] at h3 <;> simp at h3
      exact ⟨a, b, c, rfl⟩
    rw [hd] at m1 f1 hdl
    have m1 : CC F.strings_Split [.string (mk m), .string (mk [46])] H = some (.slice (some ⟨H.n, 0, none⟩) 3 6, H1) := m1
    have f1 : H1.f H.n = .cells [.string (mk a), .string (mk b), .string (mk c)] T.string true := f1
    have la := hdl a (by simp)
    have lb := hdl b (by simp)
    have ma := q_pbytes a H1 (by omega)
    have mb := q_pbytes b H1 (by omega)
    have ba := bytR_len _ a (Nat.le_refl _)
    have bb := bytR_len _ b (Nat.le_refl _)
    unfold readR
    rw [hd]
    simp only
    generalize bytR a = e at ma ba ⊢
    generalize bytR b = k at mb bb ⊢
    have mv := q_ValidKey (mk k) H1
    have mm := q_pmarked e k H1 (by omega) (by omega)
    rw [bl_mk] at mv
    have hsw : Lib.compareBytes k e = - Lib.compareBytes e k := cb_swap
    have hlq := leqB e k
    have hbad : okEK e k = false → CC F.pages_Read [.string (mk m)] H = some (.tuple #[.string (mk []), .string (mk []), .int .i64 6], H) := fun hok => by
      by_cases hv : (decide (1 ≤ k.length) && decide (k.length ≤ 24)) = true
      · rw [hv] at mv
        by_cases h24 : (24 : Int) < (e.length : Int)
        · apply pure_of _ (d_pages_Read _ H) rfl
          rotate_left 2
          · simp (disch := first | with_reducible rfl | assumption | omega | rfl | (simp only [go_sem]; first | done | omega)) only [go_sem, ↓reduceIte, reduceCtorEq, Nat.reduceEqDiff, Nat.reduceAdd, Nat.reduceSub, Nat.reduceMul, Nat.reduceDiv, Nat.reduceMod, Nat.reduceLeDiff, Nat.reduceLT, Nat.reduceBEq, Int.reduceEq, Int.reduceBEq, Int.reduceBNe, Int.reduceLT, Int.reduceLE, Int.reduceAdd, Int.reduceSub, Int.reduceNeg, Int.reduceToNat, Int.reducePow, Nat.reducePow, Int.reduceMul, Int.reduceDiv, ↓s_pages_Read, ↓enterK_eq m1, enterK_eq m1, f1, ↓enterK_eq ma, enterK_eq ma, ↓enterK_eq mb, enterK_eq mb, ↓enterK_eq mv, enterK_eq mv, bl_mk, h24]
            rfl
          · exact s1
        · by_cases hen : e = []
          · exfalso
            simp only [Bool.and_eq_true, decide_eq_true_eq] at hv
            subst hen
            simp [okEK, hv.1, hv.2] at hok
          · have hle : Lib.compareBytes e k ≤ 0 := by
              simp only [Bool.and_eq_true, decide_eq_true_eq] at hv
              have h24' : e.length ≤ 24 := by omega
              simp [okEK, hv.1, hv.2, h24', hen] at hok
              omega
            rw [decide_eq_true hle] at hlq
            apply pure_of _ (d_pages_Read _ H) rfl
            rotate_left 2
            · simp (disch := first | with_reducible rfl | assumption | omega | rfl | (simp only [go_sem]; first | done | omega)) only [go_sem, ↓reduceIte, reduceCtorEq, Nat.reduceEqDiff, Nat.reduceAdd, Nat.reduceSub, Nat.reduceMul, Nat.reduceDiv, Nat.reduceMod, Nat.reduceLeDiff, Nat.reduceLT, Nat.reduceBEq, Int.reduceEq, Int.reduceBEq, Int.reduceBNe, Int.reduceLT, Int.reduceLE, Int.reduceAdd, Int.reduceSub, Int.reduceNeg, Int.reduceToNat, Int.reducePow, Nat.reducePow, Int.reduceMul, Int.reduceDiv, ↓s_pages_Read, ↓enterK_eq m1, enterK_eq m1, f1, ↓enterK_eq ma, enterK_eq ma, ↓enterK_eq mb, enterK_eq mb, ↓enterK_eq mv, enterK_eq mv, bl_mk, h24, hen, hlq]
              rfl
            · exact s1
      · have hv : (decide (1 ≤ k.length) && decide (k.length ≤ 24)) = false := by simpa using hv
        rw [hv] at mv
        apply pure_of _ (d_pages_Read _ H) rfl
        rotate_left 2
        · simp (disch := first | with_reducible rfl | assumption | omega | rfl | (simp only [go_sem]; first | done | omega)) only [go_sem, ↓reduceIte, reduceCtorEq, Nat.reduceEqDiff, Nat.reduceAdd, Nat.reduceSub, Nat.reduceMul, Nat.reduceDiv, Nat.reduceMod, Nat.reduceLeDiff, Nat.reduceLT, Nat.reduceBEq, Int.reduceEq, Int.reduceBEq, Int.reduceBNe, Int.reduceLT, Int.reduceLE, Int.reduceAdd, Int.reduceSub, Int.reduceNeg, Int.reduceToNat, Int.reducePow, Nat.reducePow, Int.reduceMul, Int.reduceDiv, ↓s_pages_Read, ↓enterK_eq m1, enterK_eq m1, f1, ↓enterK_eq ma, enterK_eq ma, ↓enterK_eq mb, enterK_eq mb, ↓enterK_eq mv, enterK_eq mv]
          rfl
        · exact s1
    by_cases hok : okEK e k = true
    · have hok' := hok
      simp only [okEK, Bool.and_eq_true, decide_eq_true_eq, Bool.or_eq_true] at hok'
      obtain ⟨⟨⟨h1, h2⟩, h4⟩, h5⟩ := hok'
      rw [decide_eq_true h1, decide_eq_true h2, Bool.true_and] at mv
      have h24 : ¬ (24 : Int) < (e.length : Int) := by omega
      by_cases hmm : marB e k = m
      · rw [if_pos ⟨hok, hmm⟩]
        simp only
        by_cases hen : e = []
        · subst hen
          have hd0 : decide (([] : List UInt8) = []) = true := rfl
          apply pure_of _ (d_pages_Read _ H) rfl
          rotate_left 2
          · simp (disch := first | with_reducible rfl | assumption | omega | rfl | (simp only [go_sem]; first | done | omega)) only [go_sem, ↓reduceIte, reduceCtorEq, Nat.reduceEqDiff, Nat.reduceAdd, Nat.reduceSub, Nat.reduceMul, Nat.reduceDiv, Nat.reduceMod, Nat.reduceLeDiff, Nat.reduceLT, Nat.reduceBEq, Int.reduceEq, Int.reduceBEq, Int.reduceBNe, Int.reduceLT, Int.reduceLE, Int.reduceAdd, Int.reduceSub, Int.reduceNeg, Int.reduceToNat, Int.reducePow, Nat.reducePow, Int.reduceMul, Int.reduceDiv, ↓s_pages_Read, ↓enterK_eq m1, enterK_eq m1, f1, ↓enterK_eq ma, enterK_eq ma, ↓enterK_eq mb, enterK_eq mb, ↓enterK_eq mv, enterK_eq mv, bl_mk, h24, hd0, ↓enterK_eq mm, enterK_eq mm, hmm]
            rfl
          · exact s1
        · have hle : ¬ Lib.compareBytes e k ≤ 0 := by
            rcases h5 with h5 | h5
            · exact absurd (List.isEmpty_iff.1 h5) hen
            · omega
          rw [decide_eq_false hle] at hlq
          apply pure_of _ (d_pages_Read _ H) rfl
          rotate_left 2
          · simp (disch := first | with_reducible rfl | assumption | omega | rfl | (simp only [go_sem]; first | done | omega)) only [go_sem, ↓reduceIte, reduceCtorEq, Nat.reduceEqDiff, Nat.reduceAdd, Nat.reduceSub, Nat.reduceMul, Nat.reduceDiv, Nat.reduceMod, Nat.reduceLeDiff, Nat.reduceLT, Nat.reduceBEq, Int.reduceEq, Int.reduceBEq, Int.reduceBNe, Int.reduceLT, Int.reduceLE, Int.reduceAdd, Int.reduceSub, Int.reduceNeg, Int.reduceToNat, Int.reducePow, Nat.reducePow, Int.reduceMul, Int.reduceDiv, ↓s_pages_Read, ↓enterK_eq m1, enterK_eq m1, f1, ↓enterK_eq ma, enterK_eq ma, ↓enterK_eq mb, enterK_eq mb, ↓enterK_eq mv, enterK_eq mv, bl_mk, h24, hen, hlq, ↓enterK_eq mm, enterK_eq mm, hmm]
            rfl
          · exact s1
      · rw [if_neg fun h => hmm h.2]
        simp only
        by_cases hen : e = []
        · subst hen
          have hd0 : decide (([] : List UInt8) = []) = true := rfl
          apply pure_of _ (d_pages_Read _ H) rfl
          rotate_left 2
          · simp (disch := first | with_reducible rfl | assumption | omega | rfl | (simp only [go_sem]; first | done | omega)) only [go_sem, ↓reduceIte, reduceCtorEq, Nat.reduceEqDiff, Nat.reduceAdd, Nat.reduceSub, Nat.reduceMul, Nat.reduceDiv, Nat.reduceMod, Nat.reduceLeDiff, Nat.reduceLT, Nat.reduceBEq, Int.reduceEq, Int.reduceBEq, Int.reduceBNe, Int.reduceLT, Int.reduceLE, Int.reduceAdd, Int.reduceSub, Int.reduceNeg, Int.reduceToNat, Int.reducePow, Nat.reducePow, Int.reduceMul, Int.reduceDiv, ↓s_pages_Read, ↓enterK_eq m1, enterK_eq m1, f1, ↓enterK_eq ma, enterK_eq ma, ↓enterK_eq mb, enterK_eq mb, ↓enterK_eq mv, enterK_eq mv, bl_mk, h24, hd0, ↓enterK_eq mm, enterK_eq mm, hmm]
            rfl
          · exact s1
        · have hle : ¬ Lib.compareBytes e k ≤ 0 := by
            rcases h5 with h5 | h5
            · exact absurd (List.isEmpty_iff.1 h5) hen
            · omega
          rw [decide_eq_false hle] at hlq
          apply pure_of _ (d_pages_Read _ H) rfl
          rotate_left 2
          · simp (disch := first | with_reducible rfl | assumption | omega | rfl | (simp only [go_sem]; first | done | omega)) only [go_sem, ↓reduceIte, reduceCtorEq, Nat.reduceEqDiff, Nat.reduceAdd, Nat.reduceSub, Nat.reduceMul, Nat.reduceDiv, Nat.reduceMod, Nat.reduceLeDiff, Nat.reduceLT, Nat.reduceBEq, Int.reduceEq, Int.reduceBEq, Int.reduceBNe, Int.reduceLT, Int.reduceLE, Int.reduceAdd, Int.reduceSub, Int.reduceNeg, Int.reduceToNat, Int.reducePow, Nat.reducePow, Int.reduceMul, Int.reduceDiv, ↓s_pages_Read, ↓enterK_eq m1, enterK_eq m1, f1, ↓enterK_eq ma, enterK_eq ma, ↓enterK_eq mb, enterK_eq mb, ↓enterK_eq mv, enterK_eq mv, bl_mk, h24, hen, hlq, ↓enterK_eq mm, enterK_eq mm, hmm]
            rfl
          · exact s1
    · rw [if_neg fun h => hok h.1]
      exact hbad (by simpa using hok)
  · have hne : ¬ ((dots m).length : Int) = 3 := by omega
    have hr : readR m = none := by
      unfold readR
      split
      · rename_i hd; rw [hd] at h3; simp at h3
      · rfl
    rw [hr]
    simp only
    apply pure_of _ (d_pages_Read _ H) rfl
    rotate_left 2
    · simp (disch := first | with_reducible rfl | assumption | omega | rfl | (simp only [go_sem]; first | done | omega)) only [go_sem, ↓reduceIte, reduceCtorEq, Nat.reduceEqDiff, Nat.reduceAdd, Nat.reduceSub, Nat.reduceMul, Nat.reduceDiv, Nat.reduceMod, Nat.reduceLeDiff, Nat.reduceLT, Nat.reduceBEq, Int.reduceEq, Int.reduceBEq, Int.reduceBNe, Int.reduceLT, Int.reduceLE, Int.reduceAdd, Int.reduceSub, Int.reduceNeg, Int.reduceToNat, Int.reducePow, Nat.reducePow, Int.reduceMul, Int.reduceDiv, ↓s_pages_Read, ↓enterK_eq m1, enterK_eq m1, hne]
      rfl
    · exact s1

/-! ### the law -/
theorem q_digit (c : UInt8) (H : AHeap) : CC F.law_digit [.int .u8 (c.toNat : Int)] H = some (.int .i64 (dgL c), H) := by
  have hc := c.toNat_lt
  unfold dgL
  by_cases h1 : 48 ≤ c.toNat ∧ c.toNat ≤ 57
  · have g1 : (48 : Int) ≤ (c.toNat : Int) := by omega
    have g2 : (c.toNat : Int) ≤ 57 := by omega
    have e1 : ∀ ox oy, xbin Tryd.prog .sub T.uint8 ox oy (.int .u8 (c.toNat : Int)) (.int .u8 48) = some (.int .u8 ((c.toNat : Int) - 48)) := fun ox oy => sub_u8 (by omega)
    have e2 : ∀ H : AHeap, xconv Tryd.prog T.uint8 T.int (.int .u8 ((c.toNat : Int) - 48)) H = some (.int .i64 ((c.toNat : Int) - 48), H) := fun H => by rw [x_uint8_int, wrap_i64 (by omega)]
    rw [if_pos h1]
    apply pure_of _ (d_law_digit _ H) rfl
    rotate_left 2
    · simp (disch := first | with_reducible rfl | assumption | omega | rfl | (simp only [go_sem]; first | done | omega)) only [go_sem, ↓reduceIte, reduceCtorEq, Nat.reduceEqDiff, Nat.reduceAdd, Nat.reduceSub, Nat.reduceMul, Nat.reduceDiv, Nat.reduceMod, Nat.reduceLeDiff, Nat.reduceLT, Nat.reduceBEq, Int.reduceEq, Int.reduceBEq, Int.reduceBNe, Int.reduceLT, Int.reduceLE, Int.reduceAdd, Int.reduceSub, Int.reduceNeg, Int.reduceToNat, Int.reducePow, Nat.reducePow, Int.reduceMul, Int.reduceDiv, ↓s_law_digit, g1, g2, e1, e2]
      rfl
    · (repeat (first | exact Fr.refl _ | refine Fr.push ?_ _ | refine Fr.set ?_ _ _ (by intro h; first | omega | (simp only [go_sem] at h; omega))))
  · rw [if_neg h1]
    have ge : (¬ (48 : Int) ≤ (c.toNat : Int)) ∨ ((48 : Int) ≤ (c.toNat : Int) ∧ ¬ (c.toNat : Int) ≤ 57) := by omega
    by_cases h2 : 97 ≤ c.toNat ∧ c.toNat ≤ 102
    · have g1 : (97 : Int) ≤ (c.toNat : Int) := by omega
      have g2 : (c.toNat : Int) ≤ 102 := by omega
      have e1 : ∀ ox oy, xbin Tryd.prog .sub T.uint8 ox oy (.int .u8 (c.toNat : Int)) (.int .u8 97) = some (.int .u8 ((c.toNat : Int) - 97)) := fun ox oy => sub_u8 (by omega)
      have e2 : ∀ H : AHeap, xconv Tryd.prog T.uint8 T.int (.int .u8 ((c.toNat : Int) - 97)) H = some (.int .i64 ((c.toNat : Int) - 97), H) := fun H => by rw [x_uint8_int, wrap_i64 (by omega)]
      rw [if_pos h2]
      rcases ge with g4 | ⟨g4, g5⟩
      · apply pure_of _ (d_law_digit _ H) rfl
        rotate_left 2
        · simp (disch := first | with_reducible rfl | assumption | omega | rfl | (simp only [go_sem]; first | done | omega)) only [go_sem, ↓reduceIte, reduceCtorEq, Nat.reduceEqDiff, Nat.reduceAdd, Nat.reduceSub, Nat.reduceMul, Nat.reduceDiv, Nat.reduceMod, Nat.reduceLeDiff, Nat.reduceLT, Nat.reduceBEq, Int.reduceEq, Int.reduceBEq, Int.reduceBNe, Int.reduceLT, Int.reduceLE, Int.reduceAdd, Int.reduceSub, Int.reduceNeg, Int.reduceToNat, Int.reducePow, Nat.reducePow, Int.reduceMul, Int.reduceDiv, ↓s_law_digit, g4, g1, g2, e1, e2]
          rfl
        · (repeat (first | exact Fr.refl _ | refine Fr.push ?_ _ | refine Fr.set ?_ _ _ (by intro h; first | omega | (simp only [go_sem] at h; omega))))
      · apply pure_of _ (d_law_digit _ H) rfl
        rotate_left 2
        · simp (disch := first | with_reducible rfl | assumption | omega | rfl | (simp only [go_sem]; first | done | omega)) only [go_sem, ↓reduceIte, reduceCtorEq, Nat.reduceEqDiff, Nat.reduceAdd, Nat.reduceSub, Nat.reduceMul, Nat.reduceDiv, Nat.reduceMod, Nat.reduceLeDiff, Nat.reduceLT, Nat.reduceBEq, Int.reduceEq, Int.reduceBEq, Int.reduceBNe, Int.reduceLT, Int.reduceLE, Int.reduceAdd, Int.reduceSub, Int.reduceNeg, Int.reduceToNat, Int.reducePow, Nat.reducePow, Int.reduceMul, Int.reduceDiv, ↓s_law_digit, g4, g5, g1, g2, e1, e2]
          rfl
        · (repeat (first | exact Fr.refl _ | refine Fr.push ?_ _ | refine Fr.set ?_ _ _ (by intro h; first | omega | (simp only [go_sem] at h; omega))))
    · rw [if_neg h2]
      have gl : (¬ (97 : Int) ≤ (c.toNat : Int)) ∨ ((97 : Int) ≤ (c.toNat : Int) ∧ ¬ (c.toNat : Int) ≤ 102) := by omega
      rcases ge with g4 | ⟨g4, g5⟩ <;> rcases gl with g6 | ⟨g6, g7⟩
      · apply pure_of _ (d_law_digit _ H) rfl
        rotate_left 2
        · simp (disch := first | with_reducible rfl | assumption | omega | rfl | (simp only [go_sem]; first | done | omega)) only [go_sem, ↓reduceIte, reduceCtorEq, Nat.reduceEqDiff, Nat.reduceAdd, Nat.reduceSub, Nat.reduceMul, Nat.reduceDiv, Nat.reduceMod, Nat.reduceLeDiff, Nat.reduceLT, Nat.reduceBEq, Int.reduceEq, Int.reduceBEq, Int.reduceBNe, Int.reduceLT, Int.reduceLE, Int.reduceAdd, Int.reduceSub, Int.reduceNeg, Int.reduceToNat, Int.reducePow, Nat.reducePow, Int.reduceMul, Int.reduceDiv, ↓s_law_digit, g4, g6]
          rfl
        · (repeat (first | exact Fr.refl _ | refine Fr.push ?_ _ | refine Fr.set ?_ _ _ (by intro h; first | omega | (simp only [go_sem] at h; omega))))
      · apply pure_of _ (d_law_digit _ H) rfl
        rotate_left 2
        · simp (disch := first | with_reducible rfl | assumption | omega | rfl | (simp only [go_sem]; first | done | omega)) only [go_sem, ↓reduceIte, reduceCtorEq, Nat.reduceEqDiff, Nat.reduceAdd, Nat.reduceSub, Nat.reduceMul, Nat.reduceDiv, Nat.reduceMod, Nat.reduceLeDiff, Nat.reduceLT, Nat.reduceBEq, Int.reduceEq, Int.reduceBEq, Int.reduceBNe, Int.reduceLT, Int.reduceLE, Int.reduceAdd, Int.reduceSub, Int.reduceNeg, Int.reduceToNat, Int.reducePow, Nat.reducePow, Int.reduceMul, Int.reduceDiv, ↓s_law_digit, g4, g6, g7]
          rfl
        · (repeat (first | exact Fr.refl _ | refine Fr.push ?_ _ | refine Fr.set ?_ _ _ (by intro h; first | omega | (simp only [go_sem] at h; omega))))
      · apply pure_of _ (d_law_digit _ H) rfl
        rotate_left 2
        · simp (disch := first | with_reducible rfl | assumption | omega | rfl | (simp only [go_sem]; first | done | omega)) only [go_sem, ↓reduceIte, reduceCtorEq, Nat.reduceEqDiff, Nat.reduceAdd, Nat.reduceSub, Nat.reduceMul, Nat.reduceDiv, Nat.reduceMod, Nat.reduceLeDiff, Nat.reduceLT, Nat.reduceBEq, Int.reduceEq, Int.reduceBEq, Int.reduceBNe, Int.reduceLT, Int.reduceLE, Int.reduceAdd, Int.reduceSub, Int.reduceNeg, Int.reduceToNat, Int.reducePow, Nat.reducePow, Int.reduceMul, Int.reduceDiv, ↓s_law_digit, g4, g5, g6]
          rfl
        · (repeat (first | exact Fr.refl _ | refine Fr.push ?_ _ | refine Fr.set ?_ _ _ (by intro h; first | omega | (simp only [go_sem] at h; omega))))
      · apply pure_of _ (d_law_digit _ H) rfl
        rotate_left 2
        · simp (disch := first | with_reducible rfl | assumption | omega | rfl | (simp only [go_sem]; first | done | omega)) only [go_sem, ↓reduceIte, reduceCtorEq, Nat.reduceEqDiff, Nat.reduceAdd, Nat.reduceSub, Nat.reduceMul, Nat.reduceDiv, Nat.reduceMod, Nat.reduceLeDiff, Nat.reduceLT, Nat.reduceBEq, Int.reduceEq, Int.reduceBEq, Int.reduceBNe, Int.reduceLT, Int.reduceLE, Int.reduceAdd, Int.reduceSub, Int.reduceNeg, Int.reduceToNat, Int.reducePow, Nat.reducePow, Int.reduceMul, Int.reduceDiv, ↓s_law_digit, g4, g5, g6, g7]
          rfl
        · (repeat (first | exact Fr.refl _ | refine Fr.push ?_ _ | refine Fr.set ?_ _ _ (by intro h; first | omega | (simp only [go_sem] at h; omega))))

/-- The law's look at what Read answers: true where it answers so. -/
theorem q_lread (m e k : List UInt8) (no : Int) (H : AHeap) (hm : m.length ≤ 10000) (h : readV m = .tuple #[.string (mk e), .string (mk k), .int .i64 no]) :
    CC F.law_read [.string (mk m), .string (mk e), .string (mk k), .int .i64 no] H = some (.bool true, H) := by
  have m1 := q_Read m H hm
  rw [h] at m1
  apply pure_of _ (d_law_read _ _ _ _ H) rfl
  rotate_left 2
  · simp (disch := first | with_reducible rfl | assumption | omega | rfl | (simp only [go_sem]; first | done | omega)) only [go_sem, ↓reduceIte, reduceCtorEq, Nat.reduceEqDiff, Nat.reduceAdd, Nat.reduceSub, Nat.reduceMul, Nat.reduceDiv, Nat.reduceMod, Nat.reduceLeDiff, Nat.reduceLT, Nat.reduceBEq, Int.reduceEq, Int.reduceBEq, Int.reduceBNe, Int.reduceLT, Int.reduceLE, Int.reduceAdd, Int.reduceSub, Int.reduceNeg, Int.reduceToNat, Int.reducePow, Nat.reducePow, Int.reduceMul, Int.reduceDiv, ↓s_law_read, ↓enterK_eq m1, enterK_eq m1]
    rfl
  · (repeat (first | exact Fr.refl _ | refine Fr.push ?_ _ | refine Fr.set ?_ _ _ (by intro h; first | omega | (simp only [go_sem] at h; omega))))

end Go.Proofs.YtlkgfbcencoahaaDoor

/-
  Chapter 44: the law's unmarked.
  Conditions: none. By an AI agent.
-/
set_option maxRecDepth 10000
set_option linter.unusedSimpArgs false
set_option linter.unusedVariables false
namespace Go.Proofs.YtlkgfbcencoahaaDoor
open Go Eng

def psV (ps : List (List UInt8)) : List Value := ps.map fun p => .string (mk p)
theorem psV_set (ps : List (List UInt8)) (k : Nat) (p : List UInt8) : (psV ps).set k (.string (mk p)) = psV (ps.set k p) := by unfold psV; rw [List.map_set]

theorem set_self {α : Type} {l : List α} {k : Nat} {a : α} (h : l[k]? = some a) : l.set k a = l := by
  obtain ⟨hk, rfl⟩ := List.getElem?_eq_some_iff.1 h
  exact List.set_getElem_self hk

theorem l_un1 (s : List UInt8) (hs : s.length ≤ 10000) (b5 k : Nat) (hk : k < 2) : ∀ (f : Nat) (t : List UInt8) (i : Nat) (H : AHeap) (ps : List (List UInt8)) (p : List UInt8), t.length ≤ f → s.drop i = t → i ≤ s.length → H.f b5 = .cells (psV ps) T.n2_string true → b5 < H.n → ps.length = 2 → ps[k]? = some p → p.length ≤ i →
    ∃ (H' : AHeap) (i' : Nat), H'.f b5 = .cells (psV (ps.set k (p ++ (hexP t).1))) T.n2_string true ∧ Fr (fun b => b = b5) H H' ∧ s.drop i' = (hexP t).2 ∧ i' ≤ s.length ∧ p.length + (hexP t).1.length ≤ i' ∧
      ∀ K : K, l_law_unmarked_1 (.string (mk s)) (.pointer (some ⟨b5, 0, none⟩)) (.int .i64 (i : Int)) (.int .i64 (k : Int)) H (blkK [0, 5, 6, 7] 2 K) = K .normal [(0, .string (mk s)), (5, .pointer (some ⟨b5, 0, none⟩)), (6, .int .i64 (i' : Int)), (7, .int .i64 (k : Int))] H'
  | f, [], i, H, ps, p, hf, hd, hi, hb, hbn, hpl, hp, hpi => by
    have h : s.length ≤ i := List.drop_eq_nil_iff.1 hd
    have hlt : ¬ ((i : Int) + 1) < (s.length : Int) := by omega
    refine ⟨H, i, by simp [hexP, set_self hp, hb], Fr.refl H, by simpa [hexP] using hd, hi, by simpa [hexP] using hpi, fun K => ?_⟩
    rw [r_law_unmarked_1]
    simp (disch := first | with_reducible rfl | assumption | omega | rfl | (simp only [go_sem]; first | done | omega)) only [go_sem, ↓reduceIte, reduceCtorEq, Nat.reduceEqDiff, Nat.reduceAdd, Nat.reduceSub, Nat.reduceMul, Nat.reduceDiv, Nat.reduceMod, Nat.reduceLeDiff, Nat.reduceLT, Nat.reduceBEq, Int.reduceEq, Int.reduceBEq, Int.reduceBNe, Int.reduceLT, Int.reduceLE, Int.reduceAdd, Int.reduceSub, Int.reduceNeg, Int.reduceToNat, Int.reducePow, Nat.reducePow, Int.reduceMul, Int.reduceDiv, ↓s_law_unmarked_b1, bl_mk, hlt]
  | f, [a], i, H, ps, p, hf, hd, hi, hb, hbn, hpl, hp, hpi => by
    have hl := congrArg List.length hd
    rw [List.length_drop] at hl
    simp at hl
    have hlt : ¬ ((i : Int) + 1) < (s.length : Int) := by omega
    refine ⟨H, i, by simp [hexP, set_self hp, hb], Fr.refl H, by simpa [hexP] using hd, hi, by simpa [hexP] using hpi, fun K => ?_⟩
    rw [r_law_unmarked_1]
    simp (disch := first | with_reducible rfl | assumption | omega | rfl | (simp only [go_sem]; first | done | omega)) only [go_sem, ↓reduceIte, reduceCtorEq, Nat.reduceEqDiff, Nat.reduceAdd, Nat.reduceSub, Nat.reduceMul, Nat.reduceDiv, Nat.reduceMod, Nat.reduceLeDiff, Nat.reduceLT, Nat.reduceBEq, Int.reduceEq, Int.reduceBEq, Int.reduceBNe, Int.reduceLT, Int.reduceLE, Int.reduceAdd, Int.reduceSub, Int.reduceNeg, Int.reduceToNat, Int.reducePow, Nat.reducePow, Int.reduceMul, Int.reduceDiv, ↓s_law_unmarked_b1, bl_mk, hlt]
  | 0, _ :: _ :: _, _, _, _, _, hf, _, _, _, _, _, _, _ => by simp at hf
  | f + 1, a :: b :: t, i, H, ps, p, hf, hd, hi, hb, hbn, hpl, hp, hpi => by
    obtain ⟨h, hx0, hd'⟩ := drop_cons hd
    obtain ⟨h2, hx1, hd''⟩ := drop_cons hd'
    have hlt : ((i : Int) + 1) < (s.length : Int) := by omega
    have ix := xix (s := mk s) (i := i) (by rw [bl_mk]; exact h)
    have ix1 := xix (s := mk s) (i := i + 1) (by rw [bl_mk]; exact h2)
    simp only [bl_mk, hx0] at ix
    simp only [bl_mk, hx1] at ix1
    have ix1 : xindex Tryd.prog T.string (.string (mk s)) (.int .i64 ((i : Int) + 1)) = some (.int .u8 (b.toNat : Int)) := ix1
    have ma := fun H => q_digit a H
    have mb := fun H => q_digit b H
    have hmark : ∀ c : UInt8, -1 ≤ dgL c ∧ dgL c ≤ 15 := fun c => by unfold dgL; split; (· omega); (· split <;> omega)
    have ra := hmark a
    have rb := hmark b
    by_cases h0 : 0 ≤ dgL a ∧ 0 ≤ dgL b
    · obtain ⟨ga, gb⟩ := h0
      have hex : hexP (a :: b :: t) = (UInt8.ofNat (16 * dgL a + dgL b).toNat :: (hexP t).1, (hexP t).2) := by rw [hexP, if_pos ⟨ga, gb⟩]
      have ma' := ma H
      have mb' := mb H
      generalize dgL a = x at ga ra ma' hex
      generalize dgL b = y at gb rb mb' hex
      have e1 : ∀ ox oy, xbin Tryd.prog .mul T.int ox oy (.int .i64 16) (.int .i64 x) = some (.int .i64 (16 * x)) := fun ox oy => mul_i64 (by omega)
      have e2 : ∀ ox oy, xbin Tryd.prog .add T.int ox oy (.int .i64 (16 * x)) (.int .i64 y) = some (.int .i64 (16 * x + y)) := fun ox oy => add_i64 (by omega)
      have e3 : ∀ H : AHeap, xconv Tryd.prog T.int T.uint8 (.int .i64 (16 * x + y)) H = some (.int .u8 (16 * x + y), H) := fun H => by rw [x_int_uint8, wrapU8, Int.emod_eq_of_lt (by omega) (by omega)]
      have hu8 : (.int .u8 (16 * x + y) : Value) = .int .u8 ((((16 * x + y).toNat : Nat) : Int) % 256) := by congr 1; omega
      obtain ⟨H1, hH1⟩ : ∃ H1, H.push (.cells [.int .u8 (16 * x + y)] T.uint8 true) = H1 := ⟨_, rfl⟩
      have hH1' := hH1
      rw [hu8] at hH1'
      obtain ⟨s1, st⟩ := one_str (16 * x + y).toNat hH1'
      have st : xconv Tryd.prog T.sl_uint8 T.string (.slice (some ⟨H.n, 0, none⟩) 1 2) H1 = some (.string (mk [UInt8.ofNat (16 * x + y).toNat]), H1) := st
      have hb1 : H1.f b5 = .cells (psV ps) T.n2_string true := by rw [s1.f hbn (fun h => h)]; exact hb
      have ad : ∀ ox oy, xbin Tryd.prog .add T.string ox oy (.string (mk p)) (.string (mk [UInt8.ofNat (16 * x + y).toNat])) = some (.string (mk (p ++ [UInt8.ofNat (16 * x + y).toNat]))) := fun ox oy => str_add' (by simp; omega)
      generalize UInt8.ofNat (16 * x + y).toNat = z at hex st ad
      have hkl : k < ps.length := by omega
      have hia : ixA 2 1 (.pointer (some ⟨b5, 0, none⟩)) (.int .i64 (k : Int)) = some (.pointer (some ⟨b5, k, none⟩)) := by
        unfold ixA
        simp only
        rw [if_pos ⟨by omega, by omega⟩, Int.toNat_natCast, Nat.mul_one, Nat.zero_add]
      have hcell : cellB (.cells (psV ps) T.n2_string true) k = some (.string (mk p)) := by
        unfold cellB psV
        simp only
        rw [List.getElem?_map, hp]
        rfl
      have hwr : wr1 (.cells (psV ps) T.n2_string true) k (.string (mk (p ++ [z]))) = some (.cells (psV (ps.set k (p ++ [z]))) T.n2_string true) := by
        unfold wr1
        simp only
        rw [if_pos (by unfold psV; simpa using hkl), if_pos (show one (.string (mk (p ++ [z]))) = true from rfl), psV_set]
      obtain ⟨H2, hH2⟩ : ∃ H2, H1.set b5 (.cells (psV (ps.set k (p ++ [z]))) T.n2_string true) = H2 := ⟨_, rfl⟩
      have f2 : H2.f b5 = .cells (psV (ps.set k (p ++ [z]))) T.n2_string true := by rw [← hH2]; exact set_f_eq
      have fr2 : Fr (fun b => b = b5) H H2 := by rw [← hH2]; exact (s1.still (S := fun b => b = b5)).set _ _ fun _ => rfl
      obtain ⟨H', i', j1, j2, j3, j4, j6, j5⟩ := l_un1 s hs b5 k hk f t (i + 1 + 1) H2 (ps.set k (p ++ [z])) (p ++ [z]) (by simp at hf; omega) hd'' (by omega) f2 (Nat.lt_of_lt_of_le hbn fr2.n) (by simpa using hpl) (by rw [List.getElem?_set_self hkl]) (by simp; omega)
      refine ⟨H', i', ?_, fr2.trans j2, by rw [hex]; exact j3, j4, by rw [hex]; simp at j6 ⊢; omega, fun K => ?_⟩
      · rw [j1, hex, List.set_set]
        simp
      · have j5 := j5 K
        have hi2 : ((i + 1 + 1 : Nat) : Int) = (i : Int) + 2 := by omega
        rw [hi2] at j5
        rw [r_law_unmarked_1]
        simp (disch := first | with_reducible rfl | assumption | omega | rfl | (simp only [go_sem]; first | done | omega)) only [go_sem, ↓reduceIte, reduceCtorEq, Nat.reduceEqDiff, Nat.reduceAdd, Nat.reduceSub, Nat.reduceMul, Nat.reduceDiv, Nat.reduceMod, Nat.reduceLeDiff, Nat.reduceLT, Nat.reduceBEq, Int.reduceEq, Int.reduceBEq, Int.reduceBNe, Int.reduceLT, Int.reduceLE, Int.reduceAdd, Int.reduceSub, Int.reduceNeg, Int.reduceToNat, Int.reducePow, Nat.reducePow, Int.reduceMul, Int.reduceDiv, ↓s_law_unmarked_b1, bl_mk, hlt, ix, ix1, enterK_eq ma', enterK_eq mb', ga, gb, hia, hb, hcell, e1, e2, e3, hH1, st, ad, hb1, hwr, hH2]
        exact j5
    · have hex : hexP (a :: b :: t) = ([], a :: b :: t) := by rw [hexP, if_neg h0]
      refine ⟨H, i, by rw [hex]; simp [set_self hp, hb], Fr.refl H, by rw [hex]; exact hd, hi, by rw [hex]; simpa using hpi, fun K => ?_⟩
      have ma' := ma H
      have mb' := mb H
      rw [r_law_unmarked_1]
      by_cases ga : 0 ≤ dgL a
      · have gb : ¬ 0 ≤ dgL b := fun h => h0 ⟨ga, h⟩
        simp (disch := first | with_reducible rfl | assumption | omega | rfl | (simp only [go_sem]; first | done | omega)) only [go_sem, ↓reduceIte, reduceCtorEq, Nat.reduceEqDiff, Nat.reduceAdd, Nat.reduceSub, Nat.reduceMul, Nat.reduceDiv, Nat.reduceMod, Nat.reduceLeDiff, Nat.reduceLT, Nat.reduceBEq, Int.reduceEq, Int.reduceBEq, Int.reduceBNe, Int.reduceLT, Int.reduceLE, Int.reduceAdd, Int.reduceSub, Int.reduceNeg, Int.reduceToNat, Int.reducePow, Nat.reducePow, Int.reduceMul, Int.reduceDiv, ↓s_law_unmarked_b1, bl_mk, hlt, ix, ix1, enterK_eq ma', enterK_eq mb', ga, gb]
      · simp (disch := first | with_reducible rfl | assumption | omega | rfl | (simp only [go_sem]; first | done | omega)) only [go_sem, ↓reduceIte, reduceCtorEq, Nat.reduceEqDiff, Nat.reduceAdd, Nat.reduceSub, Nat.reduceMul, Nat.reduceDiv, Nat.reduceMod, Nat.reduceLeDiff, Nat.reduceLT, Nat.reduceBEq, Int.reduceEq, Int.reduceBEq, Int.reduceBNe, Int.reduceLT, Int.reduceLE, Int.reduceAdd, Int.reduceSub, Int.reduceNeg, Int.reduceToNat, Int.reducePow, Nat.reducePow, Int.reduceMul, Int.reduceDiv, ↓s_law_unmarked_b1, bl_mk, hlt, ix, ix1, enterK_eq ma', ga]

/-- What the law reads of a mark. -/
def unmV (m : List UInt8) : Value := match unmR m with | some (e, k) => .tuple #[.string (mk e), .string (mk k), .bool true] | none => .tuple #[.string (mk []), .string (mk []), .bool false]

theorem l_un0_end (s : List UInt8) (b5 i : Nat) (H : AHeap) (K : K) : l_law_unmarked_0 (.string (mk s)) (.pointer (some ⟨b5, 0, none⟩)) (.int .i64 (i : Int)) (.int .i64 2) H (blkK [0, 5] 0 K) = K .normal [(0, .string (mk s)), (5, .pointer (some ⟨b5, 0, none⟩))] H := by
  rw [r_law_unmarked_0]
  simp (disch := first | with_reducible rfl | assumption | omega | rfl | (simp only [go_sem]; first | done | omega)) only [go_sem, ↓reduceIte, reduceCtorEq, Nat.reduceEqDiff, Nat.reduceAdd, Nat.reduceSub, Nat.reduceMul, Nat.reduceDiv, Nat.reduceMod, Nat.reduceLeDiff, Nat.reduceLT, Nat.reduceBEq, Int.reduceEq, Int.reduceBEq, Int.reduceBNe, Int.reduceLT, Int.reduceLE, Int.reduceAdd, Int.reduceSub, Int.reduceNeg, Int.reduceToNat, Int.reducePow, Nat.reducePow, Int.reduceMul, Int.reduceDiv, ↓s_law_unmarked_b0]

/-- A round of the outer loop. -/
theorem l_un0 (s : List UInt8) (hs : s.length ≤ 10000) (b5 k : Nat) (hk : k < 2) (i : Nat) (H : AHeap) (ps : List (List UInt8)) (p : List UInt8) (hi : i ≤ s.length) (hb : H.f b5 = .cells (psV ps) T.n2_string true) (hbn : b5 < H.n) (hpl : ps.length = 2) (hp : ps[k]? = some p) (hpi : p.length ≤ i) :
    ∃ H', Fr (fun b => b = b5) H H' ∧ H'.f b5 = .cells (psV (ps.set k (p ++ (hexP (s.drop i)).1))) T.n2_string true ∧
      ((∃ r i', (hexP (s.drop i)).2 = 46 :: r ∧ s.drop i' = r ∧ i' ≤ s.length ∧ p.length + (hexP (s.drop i)).1.length ≤ i' ∧ ∀ K : K, l_law_unmarked_0 (.string (mk s)) (.pointer (some ⟨b5, 0, none⟩)) (.int .i64 (i : Int)) (.int .i64 (k : Int)) H (blkK [0, 5] 0 K)
          = l_law_unmarked_0 (.string (mk s)) (.pointer (some ⟨b5, 0, none⟩)) (.int .i64 (i' : Int)) (.int .i64 ((k : Int) + 1)) H' (blkK [0, 5] 0 K)) ∨
        ((∀ r, (hexP (s.drop i)).2 ≠ 46 :: r) ∧ ∀ K : K, l_law_unmarked_0 (.string (mk s)) (.pointer (some ⟨b5, 0, none⟩)) (.int .i64 (i : Int)) (.int .i64 (k : Int)) H (blkK [0, 5] 0 K) = K .ret [(2, .string (mk [])), (3, .string (mk [])), (4, .bool false)] H')) := by
  obtain ⟨H', i', j1, j2, j3, j4, j6, j5⟩ := l_un1 s hs b5 k hk _ (s.drop i) i H ps p (Nat.le_refl _) rfl hi hb hbn hpl hp hpi
  refine ⟨H', j2, j1, ?_⟩
  have hk2 : (k : Int) < 2 := by omega
  by_cases hlt : i' < s.length
  · have hge : ¬ ((s.length : Int) ≤ (i' : Int)) := by omega
    have ix := xix (s := mk s) (i := i') (by rw [bl_mk]; exact hlt)
    simp only [bl_mk] at ix
    have hdc := List.drop_eq_getElem_cons hlt
    generalize s[i'] = c at ix hdc
    rw [hdc] at j3
    by_cases hc : c = 46
    · subst hc
      refine .inl ⟨s.drop (i' + 1), i' + 1, j3.symm, rfl, by omega, by omega, fun K => ?_⟩
      have ix : xindex Tryd.prog T.string (.string (mk s)) (.int .i64 (i' : Int)) = some (.int .u8 46) := ix
      conv => lhs; rw [r_law_unmarked_0]
      simp (disch := first | with_reducible rfl | assumption | omega | rfl | (simp only [go_sem]; first | done | omega)) only [go_sem, ↓reduceIte, reduceCtorEq, Nat.reduceEqDiff, Nat.reduceAdd, Nat.reduceSub, Nat.reduceMul, Nat.reduceDiv, Nat.reduceMod, Nat.reduceLeDiff, Nat.reduceLT, Nat.reduceBEq, Int.reduceEq, Int.reduceBEq, Int.reduceBNe, Int.reduceLT, Int.reduceLE, Int.reduceAdd, Int.reduceSub, Int.reduceNeg, Int.reduceToNat, Int.reducePow, Nat.reducePow, Int.reduceMul, Int.reduceDiv, ↓s_law_unmarked_b0, hk2, j5, bl_mk, hge, ix]
    · have hne : ¬ ((c.toNat : Int) = 46) := fun e => hc (UInt8.toNat_inj.1 (by show c.toNat = 46; omega))
      refine .inr ⟨fun r e => ?_, fun K => ?_⟩
      · rw [← j3] at e; exact hc (List.cons.inj e).1
      · rw [r_law_unmarked_0]
        simp (disch := first | with_reducible rfl | assumption | omega | rfl | (simp only [go_sem]; first | done | omega)) only [go_sem, ↓reduceIte, reduceCtorEq, Nat.reduceEqDiff, Nat.reduceAdd, Nat.reduceSub, Nat.reduceMul, Nat.reduceDiv, Nat.reduceMod, Nat.reduceLeDiff, Nat.reduceLT, Nat.reduceBEq, Int.reduceEq, Int.reduceBEq, Int.reduceBNe, Int.reduceLT, Int.reduceLE, Int.reduceAdd, Int.reduceSub, Int.reduceNeg, Int.reduceToNat, Int.reducePow, Nat.reducePow, Int.reduceMul, Int.reduceDiv, ↓s_law_unmarked_b0, hk2, j5, bl_mk, hge, ix, hne]
  · have hge : ((s.length : Int) ≤ (i' : Int)) := by omega
    refine .inr ⟨fun r e => ?_, fun K => ?_⟩
    · rw [← j3, List.drop_eq_nil_of_le (by omega)] at e; cases e
    · rw [r_law_unmarked_0]
      simp (disch := first | with_reducible rfl | assumption | omega | rfl | (simp only [go_sem]; first | done | omega)) only [go_sem, ↓reduceIte, reduceCtorEq, Nat.reduceEqDiff, Nat.reduceAdd, Nat.reduceSub, Nat.reduceMul, Nat.reduceDiv, Nat.reduceMod, Nat.reduceLeDiff, Nat.reduceLT, Nat.reduceBEq, Int.reduceEq, Int.reduceBEq, Int.reduceBNe, Int.reduceLT, Int.reduceLE, Int.reduceAdd, Int.reduceSub, Int.reduceNeg, Int.reduceToNat, Int.reducePow, Nat.reducePow, Int.reduceMul, Int.reduceDiv, ↓s_law_unmarked_b0, hk2, j5, bl_mk, hge]

theorem q_unmarked (m : List UInt8) (H : AHeap) (hm : m.length ≤ 10000) : CC F.law_unmarked [.string (mk m)] H = some (unmV m, H) := by
  obtain ⟨H0, hH0⟩ : ∃ H0, H.push (.cells [.string (mk []), .string (mk [])] T.n2_string true) = H0 := ⟨_, rfl⟩
  have s0 : Still H H0 := by rw [← hH0]; exact (Fr.refl H).push _
  have n0 : H0.n = H.n + 1 := by rw [← hH0]; rfl
  have f0 : H0.f H.n = .cells (psV [[], []]) T.n2_string true := by rw [← hH0]; exact push_f_eq rfl
  obtain ⟨H1, fr1, f1, c1⟩ := l_un0 m hm H.n 0 (by decide) 0 H0 [[], []] [] (by omega) f0 (by omega) rfl rfl (by simp)
  have s1 : Still H H1 := s0.then fr1 fun b hb h => by omega
  have f1 : H1.f H.n = .cells (psV [(hexP m).1, []]) T.n2_string true := f1
  unfold unmV
  rcases c1 with ⟨r, i, h1, h2, h3, h5, h4⟩ | ⟨h1, h4⟩
  · have h4 : ∀ K : K, l_law_unmarked_0 (.string (mk m)) (.pointer (some ⟨H.n, 0, none⟩)) (.int .i64 0) (.int .i64 0) H0 (blkK [0, 5] 0 K) = l_law_unmarked_0 (.string (mk m)) (.pointer (some ⟨H.n, 0, none⟩)) (.int .i64 (i : Int)) (.int .i64 1) H1 (blkK [0, 5] 0 K) := h4
    have h1 : (hexP m).2 = 46 :: r := h1
    obtain ⟨H2, fr2, f2, c2⟩ := l_un0 m hm H.n 1 (by decide) i H1 [(hexP m).1, []] [] h3 f1 (by have := fr1.n; omega) rfl rfl (by simp)
    have s2 : Still H H2 := s1.then fr2 fun b hb h => by omega
    rw [h2] at f2 c2
    have f2 : H2.f H.n = .cells [.string (mk (hexP m).1), .string (mk (hexP r).1)] T.n2_string true := f2
    have he : (hexP m).1.length ≤ 10000 := by
      have h5 : ([] : List UInt8).length + (hexP m).1.length ≤ i := h5
      simp at h5; omega
    rcases c2 with ⟨r2, i2, g1, g2, g3, g5, g4⟩ | ⟨g1, g4⟩
    · have g4 : ∀ K : K, l_law_unmarked_0 (.string (mk m)) (.pointer (some ⟨H.n, 0, none⟩)) (.int .i64 (i : Int)) (.int .i64 1) H1 (blkK [0, 5] 0 K) = l_law_unmarked_0 (.string (mk m)) (.pointer (some ⟨H.n, 0, none⟩)) (.int .i64 (i2 : Int)) (.int .i64 2) H2 (blkK [0, 5] 0 K) := g4
      have hend : ∀ K : K, l_law_unmarked_0 (.string (mk m)) (.pointer (some ⟨H.n, 0, none⟩)) (.int .i64 0) (.int .i64 0) H0 (blkK [0, 5] 0 K) = K .normal [(0, .string (mk m)), (5, .pointer (some ⟨H.n, 0, none⟩))] H2 := fun K => by rw [h4, g4, l_un0_end]
      have hk : (hexP r).1.length ≤ 10000 := by
        simp only [List.length_nil, Nat.zero_add] at g5
        omega
      have hun : unmR m = if okEK (hexP m).1 (hexP r).1 = true ∧ marB (hexP m).1 (hexP r).1 = m then some ((hexP m).1, (hexP r).1) else none := by
        unfold unmR
        rw [h1]
        simp only
        rw [g1]
        rfl
      rw [hun]
      clear hun
      generalize (hexP m).1 = e at f2 he ⊢
      generalize (hexP r).1 = k at f2 hk ⊢
      have mm := q_lmarked e k H2 he hk
      have hsw : Lib.compareBytes k e = - Lib.compareBytes e k := cb_swap
      have hlq := leqB e k
      have i0 : ixA 2 1 (.pointer (some ⟨H.n, 0, none⟩)) (.int .i64 0) = some (.pointer (some ⟨H.n, 0, none⟩)) := rfl
      have i1 : ixA 2 1 (.pointer (some ⟨H.n, 0, none⟩)) (.int .i64 1) = some (.pointer (some ⟨H.n, 1, none⟩)) := rfl
      by_cases hok : okEK e k = true
      · have hok' := hok
        simp only [okEK, Bool.and_eq_true, decide_eq_true_eq, Bool.or_eq_true] at hok'
        obtain ⟨⟨⟨a1, a2⟩, a4⟩, a5⟩ := hok'
        have b1 : ¬ (k.length : Int) < 1 := by omega
        have b2 : ¬ (24 : Int) < (k.length : Int) := by omega
        have b3 : ¬ (24 : Int) < (e.length : Int) := by omega
        by_cases hmm : marB e k = m
        · rw [if_pos ⟨hok, hmm⟩]
          simp only
          by_cases hen : e = []
          · subst hen
            apply pure_of _ (d_law_unmarked _ H) rfl
            rotate_left 2
            · simp (disch := first | with_reducible rfl | assumption | omega | rfl | (simp only [go_sem]; first | done | omega)) only [go_sem, ↓reduceIte, reduceCtorEq, Nat.reduceEqDiff, Nat.reduceAdd, Nat.reduceSub, Nat.reduceMul, Nat.reduceDiv, Nat.reduceMod, Nat.reduceLeDiff, Nat.reduceLT, Nat.reduceBEq, Int.reduceEq, Int.reduceBEq, Int.reduceBNe, Int.reduceLT, Int.reduceLE, Int.reduceAdd, Int.reduceSub, Int.reduceNeg, Int.reduceToNat, Int.reducePow, Nat.reducePow, Int.reduceMul, Int.reduceDiv, ↓s_law_unmarked, hH0, hend, i0, i1, f2, bl_mk, b1, b2, b3, ↓enterK_eq mm, enterK_eq mm, hmm]
              rfl
            · exact s2
          · have b4 : (0 : Int) < (e.length : Int) := by have := List.length_pos_iff.2 hen; omega
            have hle : ¬ Lib.compareBytes e k ≤ 0 := by
              rcases a5 with h | h
              · exact absurd (List.isEmpty_iff.1 h) hen
              · omega
            rw [decide_eq_false hle] at hlq
            apply pure_of _ (d_law_unmarked _ H) rfl
            rotate_left 2
            · simp (disch := first | with_reducible rfl | assumption | omega | rfl | (simp only [go_sem]; first | done | omega)) only [go_sem, ↓reduceIte, reduceCtorEq, Nat.reduceEqDiff, Nat.reduceAdd, Nat.reduceSub, Nat.reduceMul, Nat.reduceDiv, Nat.reduceMod, Nat.reduceLeDiff, Nat.reduceLT, Nat.reduceBEq, Int.reduceEq, Int.reduceBEq, Int.reduceBNe, Int.reduceLT, Int.reduceLE, Int.reduceAdd, Int.reduceSub, Int.reduceNeg, Int.reduceToNat, Int.reducePow, Nat.reducePow, Int.reduceMul, Int.reduceDiv, ↓s_law_unmarked, hH0, hend, i0, i1, f2, bl_mk, b1, b2, b3, b4, hlq, ↓enterK_eq mm, enterK_eq mm, hmm]
              rfl
            · exact s2
        · rw [if_neg fun h => hmm h.2]
          simp only
          by_cases hen : e = []
          · subst hen
            apply pure_of _ (d_law_unmarked _ H) rfl
            rotate_left 2
            · simp (disch := first | with_reducible rfl | assumption | omega | rfl | (simp only [go_sem]; first | done | omega)) only [go_sem, ↓reduceIte, reduceCtorEq, Nat.reduceEqDiff, Nat.reduceAdd, Nat.reduceSub, Nat.reduceMul, Nat.reduceDiv, Nat.reduceMod, Nat.reduceLeDiff, Nat.reduceLT, Nat.reduceBEq, Int.reduceEq, Int.reduceBEq, Int.reduceBNe, Int.reduceLT, Int.reduceLE, Int.reduceAdd, Int.reduceSub, Int.reduceNeg, Int.reduceToNat, Int.reducePow, Nat.reducePow, Int.reduceMul, Int.reduceDiv, ↓s_law_unmarked, hH0, hend, i0, i1, f2, bl_mk, b1, b2, b3, ↓enterK_eq mm, enterK_eq mm, hmm]
              rfl
            · exact s2
          · have b4 : (0 : Int) < (e.length : Int) := by have := List.length_pos_iff.2 hen; omega
            have hle : ¬ Lib.compareBytes e k ≤ 0 := by
              rcases a5 with h | h
              · exact absurd (List.isEmpty_iff.1 h) hen
              · omega
            rw [decide_eq_false hle] at hlq
            apply pure_of _ (d_law_unmarked _ H) rfl
            rotate_left 2
            · simp (disch := first | with_reducible rfl | assumption | omega | rfl | (simp only [go_sem]; first | done | omega)) only [go_sem, ↓reduceIte, reduceCtorEq, Nat.reduceEqDiff, Nat.reduceAdd, Nat.reduceSub, Nat.reduceMul, Nat.reduceDiv, Nat.reduceMod, Nat.reduceLeDiff, Nat.reduceLT, Nat.reduceBEq, Int.reduceEq, Int.reduceBEq, Int.reduceBNe, Int.reduceLT, Int.reduceLE, Int.reduceAdd, Int.reduceSub, Int.reduceNeg, Int.reduceToNat, Int.reducePow, Nat.reducePow, Int.reduceMul, Int.reduceDiv, ↓s_law_unmarked, hH0, hend, i0, i1, f2, bl_mk, b1, b2, b3, b4, hlq, ↓enterK_eq mm, enterK_eq mm, hmm]
              rfl
            · exact s2
      · rw [if_neg fun h => hok h.1]
        simp only
        by_cases b1 : (k.length : Int) < 1
        · apply pure_of _ (d_law_unmarked _ H) rfl
          rotate_left 2
          · simp (disch := first | with_reducible rfl | assumption | omega | rfl | (simp only [go_sem]; first | done | omega)) only [go_sem, ↓reduceIte, reduceCtorEq, Nat.reduceEqDiff, Nat.reduceAdd, Nat.reduceSub, Nat.reduceMul, Nat.reduceDiv, Nat.reduceMod, Nat.reduceLeDiff, Nat.reduceLT, Nat.reduceBEq, Int.reduceEq, Int.reduceBEq, Int.reduceBNe, Int.reduceLT, Int.reduceLE, Int.reduceAdd, Int.reduceSub, Int.reduceNeg, Int.reduceToNat, Int.reducePow, Nat.reducePow, Int.reduceMul, Int.reduceDiv, ↓s_law_unmarked, hH0, hend, i0, i1, f2, bl_mk, b1]
            rfl
          · exact s2
        · by_cases b2 : (24 : Int) < (k.length : Int)
          · apply pure_of _ (d_law_unmarked _ H) rfl
            rotate_left 2
            · simp (disch := first | with_reducible rfl | assumption | omega | rfl | (simp only [go_sem]; first | done | omega)) only [go_sem, ↓reduceIte, reduceCtorEq, Nat.reduceEqDiff, Nat.reduceAdd, Nat.reduceSub, Nat.reduceMul, Nat.reduceDiv, Nat.reduceMod, Nat.reduceLeDiff, Nat.reduceLT, Nat.reduceBEq, Int.reduceEq, Int.reduceBEq, Int.reduceBNe, Int.reduceLT, Int.reduceLE, Int.reduceAdd, Int.reduceSub, Int.reduceNeg, Int.reduceToNat, Int.reducePow, Nat.reducePow, Int.reduceMul, Int.reduceDiv, ↓s_law_unmarked, hH0, hend, i0, i1, f2, bl_mk, b1, b2]
              rfl
            · exact s2
          · by_cases b3 : (24 : Int) < (e.length : Int)
            · apply pure_of _ (d_law_unmarked _ H) rfl
              rotate_left 2
              · simp (disch := first | with_reducible rfl | assumption | omega | rfl | (simp only [go_sem]; first | done | omega)) only [go_sem, ↓reduceIte, reduceCtorEq, Nat.reduceEqDiff, Nat.reduceAdd, Nat.reduceSub, Nat.reduceMul, Nat.reduceDiv, Nat.reduceMod, Nat.reduceLeDiff, Nat.reduceLT, Nat.reduceBEq, Int.reduceEq, Int.reduceBEq, Int.reduceBNe, Int.reduceLT, Int.reduceLE, Int.reduceAdd, Int.reduceSub, Int.reduceNeg, Int.reduceToNat, Int.reducePow, Nat.reducePow, Int.reduceMul, Int.reduceDiv, ↓s_law_unmarked, hH0, hend, i0, i1, f2, bl_mk, b1, b2, b3]
                rfl
              · exact s2
            · have c1 : 1 ≤ k.length := by omega
              have c2 : k.length ≤ 24 := by omega
              have c3 : e.length ≤ 24 := by omega
              have hen : e ≠ [] := fun h => by subst h; simp [okEK, c1, c2] at hok
              have b4 : (0 : Int) < (e.length : Int) := by have := List.length_pos_iff.2 hen; omega
              have hle : Lib.compareBytes e k ≤ 0 := by
                simp [okEK, c1, c2, c3, hen] at hok
                omega
              rw [decide_eq_true hle] at hlq
              apply pure_of _ (d_law_unmarked _ H) rfl
              rotate_left 2
              · simp (disch := first | with_reducible rfl | assumption | omega | rfl | (simp only [go_sem]; first | done | omega)) only [go_sem, ↓reduceIte, reduceCtorEq, Nat.reduceEqDiff, Nat.reduceAdd, Nat.reduceSub, Nat.reduceMul, Nat.reduceDiv, Nat.reduceMod, Nat.reduceLeDiff, Nat.reduceLT, Nat.reduceBEq, Int.reduceEq, Int.reduceBEq, Int.reduceBNe, Int.reduceLT, Int.reduceLE, Int.reduceAdd, Int.reduceSub, Int.reduceNeg, Int.reduceToNat, Int.reducePow, Nat.reducePow, Int.reduceMul, Int.reduceDiv, ↓s_law_unmarked, hH0, hend, i0, i1, f2, bl_mk, b1, b2, b3, b4, hlq]
                rfl
              · exact s2
    · have hr : unmR m = none := by
        unfold unmR
        rw [h1]
        simp only
      rw [hr]
      have hend : ∀ K : K, l_law_unmarked_0 (.string (mk m)) (.pointer (some ⟨H.n, 0, none⟩)) (.int .i64 0) (.int .i64 0) H0 (blkK [0, 5] 0 K) = K .ret [(2, .string (mk [])), (3, .string (mk [])), (4, .bool false)] H2 := fun K => by
        rw [h4]; exact g4 K
      simp only
      apply pure_of _ (d_law_unmarked _ H) rfl
      rotate_left 2
      · simp (disch := first | with_reducible rfl | assumption | omega | rfl | (simp only [go_sem]; first | done | omega)) only [go_sem, ↓reduceIte, reduceCtorEq, Nat.reduceEqDiff, Nat.reduceAdd, Nat.reduceSub, Nat.reduceMul, Nat.reduceDiv, Nat.reduceMod, Nat.reduceLeDiff, Nat.reduceLT, Nat.reduceBEq, Int.reduceEq, Int.reduceBEq, Int.reduceBNe, Int.reduceLT, Int.reduceLE, Int.reduceAdd, Int.reduceSub, Int.reduceNeg, Int.reduceToNat, Int.reducePow, Nat.reducePow, Int.reduceMul, Int.reduceDiv, ↓s_law_unmarked, hH0, hend]
        rfl
      · exact s2
  · have hr : unmR m = none := by
      unfold unmR
      split
      · rename_i h; exact absurd h (h1 _)
      · rfl
    rw [hr]
    have h4 : ∀ K : K, l_law_unmarked_0 (.string (mk m)) (.pointer (some ⟨H.n, 0, none⟩)) (.int .i64 0) (.int .i64 0) H0 (blkK [0, 5] 0 K) = K .ret [(2, .string (mk [])), (3, .string (mk [])), (4, .bool false)] H1 := h4
    simp only
    apply pure_of _ (d_law_unmarked _ H) rfl
    rotate_left 2
    · simp (disch := first | with_reducible rfl | assumption | omega | rfl | (simp only [go_sem]; first | done | omega)) only [go_sem, ↓reduceIte, reduceCtorEq, Nat.reduceEqDiff, Nat.reduceAdd, Nat.reduceSub, Nat.reduceMul, Nat.reduceDiv, Nat.reduceMod, Nat.reduceLeDiff, Nat.reduceLT, Nat.reduceBEq, Int.reduceEq, Int.reduceBEq, Int.reduceBNe, Int.reduceLT, Int.reduceLE, Int.reduceAdd, Int.reduceSub, Int.reduceNeg, Int.reduceToNat, Int.reducePow, Nat.reducePow, Int.reduceMul, Int.reduceDiv, ↓s_law_unmarked, hH0, h4]
      rfl
    · exact s1

end Go.Proofs.YtlkgfbcencoahaaDoor

/-
  Chapter 44: small, filled, same; the pairs of a range; cut.
  Conditions: none. By an AI agent.
-/
set_option maxRecDepth 10000
set_option linter.unusedSimpArgs false
set_option linter.unusedVariables false
namespace Go.Proofs.YtlkgfbcencoahaaDoor
open Go Eng

@[go_sem] theorem mpn_nil {ox oy : Operand} : xbin Tryd.prog .neq T.p_model_Model ox oy (.pointer none) (.pointer none) = some (.bool false) := by kernel_rfl
@[go_sem] theorem mpn_some {ox oy : Operand} {a : Addr} : xbin Tryd.prog .neq T.p_model_Model ox oy (.pointer (some a)) (.pointer none) = some (.bool true) := by kernel_rfl

/-! ### small -/
def smallA (a : Pr) : Bool := decide ((bl a.key).length ≤ 30) && decide ((bl a.value).length ≤ 44)
def smallP (l : List Pr) : Bool := (l.take 41).all smallA && decide (l.length ≤ 40)
theorem l_small (l : List Pr) (v : Value) (H : AHeap) (hr : Rd EPr H v l) : ∀ (t : List Pr) (i : Nat), (l.take 41).drop i = t → i ≤ 41 →
    (t.all smallA = true → ∀ K : K, l_law_small_0 v (.int .i64 (i : Int)) H (blkK [0] 0 K) = K .normal [(0, v)] H) ∧
    (t.all smallA = false → ∀ K : K, l_law_small_0 v (.int .i64 (i : Int)) H (blkK [0] 0 K) = K .ret [(2, .bool false)] H)
  | [], i, hx, h41 => by
    have h : (l.take 41).length ≤ i := List.drop_eq_nil_iff.1 hx
    have hlen := hr.lenS
    refine ⟨fun _ K => ?_, fun h => by simp at h⟩
    by_cases h1 : i < l.length
    · have hlt : (i : Int) < (l.length : Int) := by omega
      have h2 : ¬ (i : Int) < 41 := by simp at h; omega
      rw [r_law_small_0]
      simp (disch := first | with_reducible rfl | assumption | omega | rfl | (simp only [go_sem]; first | done | omega)) only [go_sem, ↓reduceIte, reduceCtorEq, Nat.reduceEqDiff, Nat.reduceAdd, Nat.reduceSub, Nat.reduceMul, Nat.reduceDiv, Nat.reduceMod, Nat.reduceLeDiff, Nat.reduceLT, Nat.reduceBEq, Int.reduceEq, Int.reduceBEq, Int.reduceBNe, Int.reduceLT, Int.reduceLE, Int.reduceAdd, Int.reduceSub, Int.reduceNeg, Int.reduceToNat, Int.reducePow, Nat.reducePow, Int.reduceMul, Int.reduceDiv, ↓s_law_small_b0, hlen, hlt, h2]
    · have hlt : ¬ (i : Int) < (l.length : Int) := by omega
      rw [r_law_small_0]
      simp (disch := first | with_reducible rfl | assumption | omega | rfl | (simp only [go_sem]; first | done | omega)) only [go_sem, ↓reduceIte, reduceCtorEq, Nat.reduceEqDiff, Nat.reduceAdd, Nat.reduceSub, Nat.reduceMul, Nat.reduceDiv, Nat.reduceMod, Nat.reduceLeDiff, Nat.reduceLT, Nat.reduceBEq, Int.reduceEq, Int.reduceBEq, Int.reduceBNe, Int.reduceLT, Int.reduceLE, Int.reduceAdd, Int.reduceSub, Int.reduceNeg, Int.reduceToNat, Int.reducePow, Nat.reducePow, Int.reduceMul, Int.reduceDiv, ↓s_law_small_b0, hlen, hlt]
  | a :: t, i, hx, h41 => by
    obtain ⟨h, hxa, hx'⟩ := drop_cons hx
    have hi : i < l.length ∧ i < 41 := by simp at h; omega
    have hlen := hr.lenS
    have hlt : (i : Int) < (l.length : Int) := by omega
    have h2 : (i : Int) < 41 := by omega
    obtain ⟨b1, o1, ix, c0, c1, _⟩ := rd_pair hr hi.1 (iv := (i : Int)) rfl
    have hla : l[i] = a := by rw [← hxa]; simp
    rw [hla] at c0 c1
    obtain ⟨k1, k2⟩ := l_small l v H hr t (i + 1) hx' (by omega)
    rw [List.all_cons]
    by_cases s1 : 30 < (bl a.key).length
    · have s1' : 30 < ((bl a.key).length : Int) := by omega
      have e : smallA a = false := by unfold smallA; simp; omega
      rw [e]
      refine ⟨fun h => by simp at h, fun _ K => ?_⟩
      rw [r_law_small_0]
      simp (disch := first | with_reducible rfl | assumption | omega | rfl | (simp only [go_sem]; first | done | omega)) only [go_sem, ↓reduceIte, reduceCtorEq, Nat.reduceEqDiff, Nat.reduceAdd, Nat.reduceSub, Nat.reduceMul, Nat.reduceDiv, Nat.reduceMod, Nat.reduceLeDiff, Nat.reduceLT, Nat.reduceBEq, Int.reduceEq, Int.reduceBEq, Int.reduceBNe, Int.reduceLT, Int.reduceLE, Int.reduceAdd, Int.reduceSub, Int.reduceNeg, Int.reduceToNat, Int.reducePow, Nat.reducePow, Int.reduceMul, Int.reduceDiv, ↓s_law_small_b0, hlen, hlt, h2, ix, c0, s1']
    · have s1' : ¬ 30 < ((bl a.key).length : Int) := by omega
      by_cases s2 : 44 < (bl a.value).length
      · have s2' : 44 < ((bl a.value).length : Int) := by omega
        have e : smallA a = false := by unfold smallA; simp; omega
        rw [e]
        refine ⟨fun h => by simp at h, fun _ K => ?_⟩
        rw [r_law_small_0]
        simp (disch := first | with_reducible rfl | assumption | omega | rfl | (simp only [go_sem]; first | done | omega)) only [go_sem, ↓reduceIte, reduceCtorEq, Nat.reduceEqDiff, Nat.reduceAdd, Nat.reduceSub, Nat.reduceMul, Nat.reduceDiv, Nat.reduceMod, Nat.reduceLeDiff, Nat.reduceLT, Nat.reduceBEq, Int.reduceEq, Int.reduceBEq, Int.reduceBNe, Int.reduceLT, Int.reduceLE, Int.reduceAdd, Int.reduceSub, Int.reduceNeg, Int.reduceToNat, Int.reducePow, Nat.reducePow, Int.reduceMul, Int.reduceDiv, ↓s_law_small_b0, hlen, hlt, h2, ix, c0, s1', c1, s2']
      · have s2' : ¬ 44 < ((bl a.value).length : Int) := by omega
        have e : smallA a = true := by unfold smallA; simp; omega
        rw [e]
        refine ⟨fun h3 K => ?_, fun h3 K => ?_⟩
        · have := k1 (by simpa using h3) K
          rw [r_law_small_0]
          simp (disch := first | with_reducible rfl | assumption | omega | rfl | (simp only [go_sem]; first | done | omega)) only [go_sem, ↓reduceIte, reduceCtorEq, Nat.reduceEqDiff, Nat.reduceAdd, Nat.reduceSub, Nat.reduceMul, Nat.reduceDiv, Nat.reduceMod, Nat.reduceLeDiff, Nat.reduceLT, Nat.reduceBEq, Int.reduceEq, Int.reduceBEq, Int.reduceBNe, Int.reduceLT, Int.reduceLE, Int.reduceAdd, Int.reduceSub, Int.reduceNeg, Int.reduceToNat, Int.reducePow, Nat.reducePow, Int.reduceMul, Int.reduceDiv, ↓s_law_small_b0, hlen, hlt, h2, ix, c0, s1', c1, s2']
          exact this
        · have := k2 (by simpa using h3) K
          rw [r_law_small_0]
          simp (disch := first | with_reducible rfl | assumption | omega | rfl | (simp only [go_sem]; first | done | omega)) only [go_sem, ↓reduceIte, reduceCtorEq, Nat.reduceEqDiff, Nat.reduceAdd, Nat.reduceSub, Nat.reduceMul, Nat.reduceDiv, Nat.reduceMod, Nat.reduceLeDiff, Nat.reduceLT, Nat.reduceBEq, Int.reduceEq, Int.reduceBEq, Int.reduceBNe, Int.reduceLT, Int.reduceLE, Int.reduceAdd, Int.reduceSub, Int.reduceNeg, Int.reduceToNat, Int.reducePow, Nat.reducePow, Int.reduceMul, Int.reduceDiv, ↓s_law_small_b0, hlen, hlt, h2, ix, c0, s1', c1, s2']
          exact this
theorem q_small (l : List Pr) (v : Value) (H : AHeap) (hr : Rd EPr H v l) : CC F.law_small [v] H = some (.bool (smallP l), H) := by
  obtain ⟨z1, z2⟩ := l_small l v H hr (l.take 41) 0 (by simp) (by decide)
  have hlen := hr.lenS
  unfold smallP
  cases h : (l.take 41).all smallA with
  | true =>
    have z1 : ∀ K : K, l_law_small_0 v (.int .i64 0) H (blkK [0] 0 K) = K .normal [(0, v)] H := z1 h
    have e : (decide (l.length ≤ 40)) = decide ((l.length : Int) ≤ 40) := by congr 1; apply propext; omega
    rw [Bool.true_and, e]
    apply pure_of _ (d_law_small _ H) rfl
    rotate_left 2
    · simp (disch := first | with_reducible rfl | assumption | omega | rfl | (simp only [go_sem]; first | done | omega)) only [go_sem, ↓reduceIte, reduceCtorEq, Nat.reduceEqDiff, Nat.reduceAdd, Nat.reduceSub, Nat.reduceMul, Nat.reduceDiv, Nat.reduceMod, Nat.reduceLeDiff, Nat.reduceLT, Nat.reduceBEq, Int.reduceEq, Int.reduceBEq, Int.reduceBNe, Int.reduceLT, Int.reduceLE, Int.reduceAdd, Int.reduceSub, Int.reduceNeg, Int.reduceToNat, Int.reducePow, Nat.reducePow, Int.reduceMul, Int.reduceDiv, ↓s_law_small, z1, hlen]
      rfl
    · (repeat (first | exact Fr.refl _ | refine Fr.push ?_ _ | refine Fr.set ?_ _ _ (by intro h; first | omega | (simp only [go_sem] at h; omega))))
  | false =>
    have z2 : ∀ K : K, l_law_small_0 v (.int .i64 0) H (blkK [0] 0 K) = K .ret [(2, .bool false)] H := z2 h
    rw [Bool.false_and]
    apply pure_of _ (d_law_small _ H) rfl
    rotate_left 2
    · simp (disch := first | with_reducible rfl | assumption | omega | rfl | (simp only [go_sem]; first | done | omega)) only [go_sem, ↓reduceIte, reduceCtorEq, Nat.reduceEqDiff, Nat.reduceAdd, Nat.reduceSub, Nat.reduceMul, Nat.reduceDiv, Nat.reduceMod, Nat.reduceLeDiff, Nat.reduceLT, Nat.reduceBEq, Int.reduceEq, Int.reduceBEq, Int.reduceBNe, Int.reduceLT, Int.reduceLE, Int.reduceAdd, Int.reduceSub, Int.reduceNeg, Int.reduceToNat, Int.reducePow, Nat.reducePow, Int.reduceMul, Int.reduceDiv, ↓s_law_small, z2]
      rfl
    · (repeat (first | exact Fr.refl _ | refine Fr.push ?_ _ | refine Fr.set ?_ _ _ (by intro h; first | omega | (simp only [go_sem] at h; omega))))
theorem smallP_ok {l : List Pr} (h : smallP l = true) : l.length ≤ 40 := by
  unfold smallP at h
  simp only [Bool.and_eq_true, decide_eq_true_eq] at h
  exact h.2

/-! ### filled -/
def fillP (l : List Pr) : List Pr := l.foldl (fun m a => (putE m a).2) []
theorem l_filled (l : List Pr) (v : Value) (bm : Nat) (H0 : AHeap) (hr : Rd EPr H0 v l) (hl : l.length ≤ 20000) : ∀ (t : List Pr) (i : Nat) (H : AHeap) (m : List Pr), l.drop i = t → Fresh H0 H bm m →
    ∃ H', (∀ K : K, l_law_filled_0 v (.pointer (some ⟨bm, 0, none⟩)) (.int .i64 (i : Int)) H (blkK [3] 0 K) = K .normal [(3, .pointer (some ⟨bm, 0, none⟩))] H') ∧ Fresh H0 H' bm (t.foldl (fun m a => (putE m a).2) m)
  | [], i, H, m, hx, fr => by
    have h : l.length ≤ i := List.drop_eq_nil_iff.1 hx
    have hlt : ¬ (i : Int) < (l.length : Int) := by omega
    have hlen := hr.lenS
    refine ⟨H, fun K => ?_, fr⟩
    rw [r_law_filled_0]
    simp (disch := first | with_reducible rfl | assumption | omega | rfl | (simp only [go_sem]; first | done | omega)) only [go_sem, ↓reduceIte, reduceCtorEq, Nat.reduceEqDiff, Nat.reduceAdd, Nat.reduceSub, Nat.reduceMul, Nat.reduceDiv, Nat.reduceMod, Nat.reduceLeDiff, Nat.reduceLT, Nat.reduceBEq, Int.reduceEq, Int.reduceBEq, Int.reduceBNe, Int.reduceLT, Int.reduceLE, Int.reduceAdd, Int.reduceSub, Int.reduceNeg, Int.reduceToNat, Int.reducePow, Nat.reducePow, Int.reduceMul, Int.reduceDiv, ↓s_law_filled_b0, hlen, hlt]
  | a :: t, i, H, m, hx, fr => by
    obtain ⟨hi, hxa, hx'⟩ := drop_cons hx
    have hlt : (i : Int) < (l.length : Int) := by omega
    have hlen := hr.lenS
    obtain ⟨b1, o1, ix, c0, c1, _⟩ := rd_pair (hr.still fr.still) hi (iv := (i : Int)) rfl
    rw [hxa] at c0 c1
    obtain ⟨H1, m1, fr1, _⟩ := fr.put a
    obtain ⟨H2, e2, fr2⟩ := l_filled l v bm H0 hr hl t (i + 1) H1 _ hx' fr1
    refine ⟨H2, fun K => ?_, fr2⟩
    have := e2 K
    rw [r_law_filled_0]
    simp (disch := first | with_reducible rfl | assumption | omega | rfl | (simp only [go_sem]; first | done | omega)) only [go_sem, ↓reduceIte, reduceCtorEq, Nat.reduceEqDiff, Nat.reduceAdd, Nat.reduceSub, Nat.reduceMul, Nat.reduceDiv, Nat.reduceMod, Nat.reduceLeDiff, Nat.reduceLT, Nat.reduceBEq, Int.reduceEq, Int.reduceBEq, Int.reduceBNe, Int.reduceLT, Int.reduceLE, Int.reduceAdd, Int.reduceSub, Int.reduceNeg, Int.reduceToNat, Int.reducePow, Nat.reducePow, Int.reduceMul, Int.reduceDiv, ↓s_law_filled_b0, hlen, hlt, ix, c0, c1, ↓enterK_eq m1, enterK_eq m1]
    exact this
theorem q_filled (l : List Pr) (v : Value) (H : AHeap) (ok : Ok H) (hr : Rd EPr H v l) (hl : l.length ≤ 20000) : ∃ bm H', CC F.law_filled [v] H = some (.pointer (some ⟨bm, 0, none⟩), H') ∧ Fresh H H' bm (fillP l) := by
  obtain ⟨H1, hH1⟩ : ∃ H1, H.push (.cells [.slice none 0 0] T.model_Model true) = H1 := ⟨_, rfl⟩
  have fr1 := Fresh.start ok hH1
  obtain ⟨H2, e2, fr2⟩ := l_filled l v H.n H hr hl l 0 H1 [] rfl fr1
  have e2 : ∀ K : K, l_law_filled_0 v (.pointer (some ⟨H.n, 0, none⟩)) (.int .i64 0) H1 (blkK [3] 0 K) = K .normal [(3, .pointer (some ⟨H.n, 0, none⟩))] H2 := e2
  refine ⟨H.n, H2, (d_law_filled _ H ?_).trans (congrArg some (tidy_mem rfl)), fr2⟩
  simp (disch := first | with_reducible rfl | assumption | omega | rfl | (simp only [go_sem]; first | done | omega)) only [go_sem, ↓reduceIte, reduceCtorEq, Nat.reduceEqDiff, Nat.reduceAdd, Nat.reduceSub, Nat.reduceMul, Nat.reduceDiv, Nat.reduceMod, Nat.reduceLeDiff, Nat.reduceLT, Nat.reduceBEq, Int.reduceEq, Int.reduceBEq, Int.reduceBNe, Int.reduceLT, Int.reduceLE, Int.reduceAdd, Int.reduceSub, Int.reduceNeg, Int.reduceToNat, Int.reducePow, Nat.reducePow, Int.reduceMul, Int.reduceDiv, ↓s_law_filled, hH1, e2]


end Go.Proofs.YtlkgfbcencoahaaDoor

/-
  Chapter 44: same; the pairs of a range; cut; page.
  Conditions: none. By an AI agent.
-/
set_option maxRecDepth 10000
set_option linter.unusedSimpArgs false
set_option linter.unusedVariables false
namespace Go.Proofs.YtlkgfbcencoahaaDoor
open Go Eng

/-! ### same -/
theorem l_same (l m : List Pr) (v w : Value) (H : AHeap) (hv : Rd EPr H v l) (hw : Rd EPr H w m) (hlm : l.length = m.length) (hl : l.length ≤ 1000000) (K : K) : ∀ (x y : List Pr) (i : Nat), l.drop i = x → m.drop i = y →
    (x = y → l_law_same_0 v w (.int .i64 (i : Int)) H (blkK [] 0 K) = K .normal [] H) ∧ (x ≠ y → l_law_same_0 v w (.int .i64 (i : Int)) H (blkK [] 0 K) = K .ret [(4, .bool false)] H)
  | [], y, i, hx, hy => by
    have h : l.length ≤ i := List.drop_eq_nil_iff.1 hx
    have hlt : ¬ (i : Int) < (l.length : Int) := by omega
    have hlen := hv.lenS
    have hy0 : y = [] := by rw [← hy]; exact List.drop_eq_nil_of_le (by omega)
    refine ⟨fun _ => ?_, fun h => absurd hy0.symm h⟩
    rw [r_law_same_0]
    simp (disch := first | with_reducible rfl | assumption | omega | rfl | (simp only [go_sem]; first | done | omega)) only [go_sem, ↓reduceIte, reduceCtorEq, Nat.reduceEqDiff, Nat.reduceAdd, Nat.reduceSub, Nat.reduceMul, Nat.reduceDiv, Nat.reduceMod, Nat.reduceLeDiff, Nat.reduceLT, Nat.reduceBEq, Int.reduceEq, Int.reduceBEq, Int.reduceBNe, Int.reduceLT, Int.reduceLE, Int.reduceAdd, Int.reduceSub, Int.reduceNeg, Int.reduceToNat, Int.reducePow, Nat.reducePow, Int.reduceMul, Int.reduceDiv, ↓s_law_same_b0, hlen, hlt]
  | a :: x, [], i, hx, hy => by
    obtain ⟨h, _⟩ := drop_cons hx
    have h2 : m.length ≤ i := List.drop_eq_nil_iff.1 hy
    omega
  | a :: x, b :: y, i, hx, hy => by
    obtain ⟨h, hxa, hx'⟩ := drop_cons hx
    obtain ⟨h2, hyb, hy'⟩ := drop_cons hy
    have hlt : (i : Int) < (l.length : Int) := by omega
    have hlen := hv.lenS
    obtain ⟨b1, o1, hix1, _, hc1, _⟩ := hv.ix (q := .i64) h
    obtain ⟨b2, o2, hix2, _, hc2, _⟩ := hw.ix (q := .i64) h2
    rw [hxa] at hc1
    rw [hyb] at hc2
    have hix1 : ixS 2 v (.int .i64 i) = some (.pointer (some ⟨b1, o1, none⟩)) := hix1
    have hix2 : ixS 2 w (.int .i64 i) = some (.pointer (some ⟨b2, o2, none⟩)) := hix2
    have hc1 : cutB (H.f b1) o1 2 = some [.string a.key, .string a.value] := hc1
    have hc2 : cutB (H.f b2) o2 2 = some [.string b.key, .string b.value] := hc2
    obtain ⟨k1, k2⟩ := l_same l m v w H hv hw hlm hl K x y (i + 1) hx' hy'
    rw [Int.natCast_add] at k1 k2
    rw [r_law_same_0]
    by_cases he : a = b
    · have hd : decide (a = b) = true := decide_eq_true he
      refine ⟨fun hxy => ?_, fun hxy => ?_⟩
      · have k1 := k1 (List.cons.inj hxy).2
        simp (disch := first | with_reducible rfl | assumption | omega | rfl | (simp only [go_sem]; first | done | omega)) only [go_sem, ↓reduceIte, reduceCtorEq, Nat.reduceEqDiff, Nat.reduceAdd, Nat.reduceSub, Nat.reduceMul, Nat.reduceDiv, Nat.reduceMod, Nat.reduceLeDiff, Nat.reduceLT, Nat.reduceBEq, Int.reduceEq, Int.reduceBEq, Int.reduceBNe, Int.reduceLT, Int.reduceLE, Int.reduceAdd, Int.reduceSub, Int.reduceNeg, Int.reduceToNat, Int.reducePow, Nat.reducePow, Int.reduceMul, Int.reduceDiv, ↓s_law_same_b0, hlen, hlt, hix1, hc1, hix2, hc2, pair_ne', hd]
        exact k1
      · have k2 := k2 fun e => hxy (by rw [he, e])
        simp (disch := first | with_reducible rfl | assumption | omega | rfl | (simp only [go_sem]; first | done | omega)) only [go_sem, ↓reduceIte, reduceCtorEq, Nat.reduceEqDiff, Nat.reduceAdd, Nat.reduceSub, Nat.reduceMul, Nat.reduceDiv, Nat.reduceMod, Nat.reduceLeDiff, Nat.reduceLT, Nat.reduceBEq, Int.reduceEq, Int.reduceBEq, Int.reduceBNe, Int.reduceLT, Int.reduceLE, Int.reduceAdd, Int.reduceSub, Int.reduceNeg, Int.reduceToNat, Int.reducePow, Nat.reducePow, Int.reduceMul, Int.reduceDiv, ↓s_law_same_b0, hlen, hlt, hix1, hc1, hix2, hc2, pair_ne', hd]
        exact k2
    · have hd : decide (a = b) = false := decide_eq_false he
      refine ⟨fun hxy => absurd (List.cons.inj hxy).1 he, fun _ => ?_⟩
      simp (disch := first | with_reducible rfl | assumption | omega | rfl | (simp only [go_sem]; first | done | omega)) only [go_sem, ↓reduceIte, reduceCtorEq, Nat.reduceEqDiff, Nat.reduceAdd, Nat.reduceSub, Nat.reduceMul, Nat.reduceDiv, Nat.reduceMod, Nat.reduceLeDiff, Nat.reduceLT, Nat.reduceBEq, Int.reduceEq, Int.reduceBEq, Int.reduceBNe, Int.reduceLT, Int.reduceLE, Int.reduceAdd, Int.reduceSub, Int.reduceNeg, Int.reduceToNat, Int.reducePow, Nat.reducePow, Int.reduceMul, Int.reduceDiv, ↓s_law_same_b0, hlen, hlt, hix1, hc1, hix2, hc2, pair_ne', hd]

theorem q_same (l m : List Pr) (v w : Value) (H : AHeap) (hv : Rd EPr H v l) (hw : Rd EPr H w m) (hl : l.length ≤ 1000000) : CC F.law_same [v, w] H = some (.bool (decide (l = m)), H) := by
  have h1 := hv.lenS
  have h2 := hw.lenS
  by_cases hlm : l.length = m.length
  · have hd : (l.length : Int) = (m.length : Int) := by omega
    obtain ⟨k1, k2⟩ := l_same l m v w H hv hw hlm hl (seqK (fun _ h5 => endK Tryd.prog [.tmp 4] .ret [(4, .bool true)] h5) (endK Tryd.prog [.tmp 4])) l m 0 rfl rfl
    have hd : decide ((l.length : Int) = (m.length : Int)) = true := decide_eq_true hd
    by_cases he : l = m
    · have k1 := k1 he
      rw [decide_eq_true he]
      apply pure_of _ (d_law_same _ _ H) rfl
      rotate_left 2
      · simp (disch := first | with_reducible rfl | assumption | omega | rfl | (simp only [go_sem]; first | done | omega)) only [go_sem, ↓reduceIte, reduceCtorEq, Nat.reduceEqDiff, Nat.reduceAdd, Nat.reduceSub, Nat.reduceMul, Nat.reduceDiv, Nat.reduceMod, Nat.reduceLeDiff, Nat.reduceLT, Nat.reduceBEq, Int.reduceEq, Int.reduceBEq, Int.reduceBNe, Int.reduceLT, Int.reduceLE, Int.reduceAdd, Int.reduceSub, Int.reduceNeg, Int.reduceToNat, Int.reducePow, Nat.reducePow, Int.reduceMul, Int.reduceDiv, ↓s_law_same, h1, h2, hd]
        exact k1
      · (repeat (first | exact Fr.refl _ | refine Fr.push ?_ _ | refine Fr.set ?_ _ _ (by intro h; first | omega | (simp only [go_sem] at h; omega))))
    · have k2 := k2 he
      rw [decide_eq_false he]
      apply pure_of _ (d_law_same _ _ H) rfl
      rotate_left 2
      · simp (disch := first | with_reducible rfl | assumption | omega | rfl | (simp only [go_sem]; first | done | omega)) only [go_sem, ↓reduceIte, reduceCtorEq, Nat.reduceEqDiff, Nat.reduceAdd, Nat.reduceSub, Nat.reduceMul, Nat.reduceDiv, Nat.reduceMod, Nat.reduceLeDiff, Nat.reduceLT, Nat.reduceBEq, Int.reduceEq, Int.reduceBEq, Int.reduceBNe, Int.reduceLT, Int.reduceLE, Int.reduceAdd, Int.reduceSub, Int.reduceNeg, Int.reduceToNat, Int.reducePow, Nat.reducePow, Int.reduceMul, Int.reduceDiv, ↓s_law_same, h1, h2, hd]
        exact k2
      · (repeat (first | exact Fr.refl _ | refine Fr.push ?_ _ | refine Fr.set ?_ _ _ (by intro h; first | omega | (simp only [go_sem] at h; omega))))
  · have hd : decide ((l.length : Int) = (m.length : Int)) = false := decide_eq_false (by omega)
    rw [decide_eq_false fun h => hlm (by rw [h])]
    apply pure_of _ (d_law_same _ _ H) rfl
    rotate_left 2
    · simp (disch := first | with_reducible rfl | assumption | omega | rfl | (simp only [go_sem]; first | done | omega)) only [go_sem, ↓reduceIte, reduceCtorEq, Nat.reduceEqDiff, Nat.reduceAdd, Nat.reduceSub, Nat.reduceMul, Nat.reduceDiv, Nat.reduceMod, Nat.reduceLeDiff, Nat.reduceLT, Nat.reduceBEq, Int.reduceEq, Int.reduceBEq, Int.reduceBNe, Int.reduceLT, Int.reduceLE, Int.reduceAdd, Int.reduceSub, Int.reduceNeg, Int.reduceToNat, Int.reducePow, Nat.reducePow, Int.reduceMul, Int.reduceDiv, ↓s_law_same, h1, h2, hd]
      rfl
    · (repeat (first | exact Fr.refl _ | refine Fr.push ?_ _ | refine Fr.set ?_ _ _ (by intro h; first | omega | (simp only [go_sem] at h; omega))))

/-! ### ranges -/
theorem inF_b (k : ByteArray) (w : Bool) (e : ByteArray) (a : Pr) : inF k w e a = ((!(Op.bytesLess (bl a.key) (bl k) || bl a.key == bl k) || (w && decide (bl a.key = bl k))) && (decide (bl e = []) || Op.bytesLess (bl a.key) (bl e))) := by
  unfold inF
  rw [leq_cmpS, less_cmpS]
  congr 1
  have hq : (bl a.key = bl k) ↔ cmpS a.key k = 0 := ⟨fun h => cmpS_eq.2 (bl_inj h), fun h => by rw [cmpS_eq.1 h]⟩
  have hq' : decide (bl a.key = bl k) = decide (cmpS a.key k = 0) := decide_eq_decide.2 hq
  have h1 : decide (cmpS a.key k ≤ 0) = (decide (cmpS a.key k < 0) || decide (cmpS a.key k = 0)) := by rw [Bool.eq_iff_iff]; simp; omega
  have h2 : decide (0 < cmpS a.key k) = (!decide (cmpS a.key k < 0) && !decide (cmpS a.key k = 0)) := by rw [Bool.eq_iff_iff]; simp; omega
  have h3 : ¬ (cmpS a.key k < 0 ∧ cmpS a.key k = 0) := by omega
  rw [hq', h1, h2]
  by_cases p : cmpS a.key k < 0 <;> by_cases q : cmpS a.key k = 0
  · exact absurd ⟨p, q⟩ h3
  · cases w <;> simp [p, q]
  · cases w <;> simp [q]
  · cases w <;> simp [p, q]
theorem inF_p (k : ByteArray) (b : Bool) (e : ByteArray) (a : Pr) : inF k (!b) e a = !(Op.bytesLess (bl a.key) (bl k) || (b && decide (bl a.key = bl k)) || (!decide (bl e = []) && !Op.bytesLess (bl a.key) (bl e))) := by
  unfold inF
  rw [less_cmpS, less_cmpS]
  have hq : (bl a.key = bl k) ↔ cmpS a.key k = 0 := ⟨fun h => cmpS_eq.2 (bl_inj h), fun h => by rw [cmpS_eq.1 h]⟩
  rw [decide_eq_decide.2 hq]
  have hz : decide (0 < cmpS a.key k) = (!decide (cmpS a.key k < 0) && !decide (cmpS a.key k = 0)) := by
    rw [Bool.eq_iff_iff]; simp; omega
  rw [hz]
  cases decide (cmpS a.key k < 0) <;> cases decide (cmpS a.key k = 0) <;> cases decide (bl e = []) <;> cases decide (cmpS a.key e < 0) <;> cases b <;> rfl

theorem l_in (l : List Pr) (v : Value) (k e : ByteArray) (w : Bool) (Hz : AHeap) (hr0 : Rd EPr Hz v l) (hl : l.length ≤ 20000) : ∀ (x : List Pr) (i : Nat) (H : AHeap) (o : Value) (acc : List Pr), l.drop i = x → Still Hz H → Own EPr H T.api_Pair o acc → (∀ d, blockOf o = some d → Hz.n ≤ d) → acc.length ≤ i →
    ∃ o' H', Still Hz H' ∧ Own EPr H' T.api_Pair o' (acc ++ x.filter (inF k w e)) ∧ (∀ d, blockOf o' = some d → Hz.n ≤ d) ∧ ∀ K : K, l_law_in_0 (.string k) (.bool w) (.string e) o v (.int .i64 (i : Int)) H (blkK [9] 0 K) = K .normal [(9, o')] H'
  | [], i, H, o, acc, hx, hs, ho, hob, hacc => by
    have h : l.length ≤ i := List.drop_eq_nil_iff.1 hx
    have hlt : ¬ (i : Int) < (l.length : Int) := by omega
    have hlen := hr0.lenS
    refine ⟨o, H, hs, by simpa using ho, hob, fun K => ?_⟩
    rw [r_law_in_0]
    simp (disch := first | with_reducible rfl | assumption | omega | rfl | (simp only [go_sem]; first | done | omega)) only [go_sem, ↓reduceIte, reduceCtorEq, Nat.reduceEqDiff, Nat.reduceAdd, Nat.reduceSub, Nat.reduceMul, Nat.reduceDiv, Nat.reduceMod, Nat.reduceLeDiff, Nat.reduceLT, Nat.reduceBEq, Int.reduceEq, Int.reduceBEq, Int.reduceBNe, Int.reduceLT, Int.reduceLE, Int.reduceAdd, Int.reduceSub, Int.reduceNeg, Int.reduceToNat, Int.reducePow, Nat.reducePow, Int.reduceMul, Int.reduceDiv, ↓s_law_in_b0, hlen, hlt]
  | a :: x, i, H, o, acc, hx, hs, ho, hob, hacc => by
    obtain ⟨h, hxa, hx'⟩ := drop_cons hx
    have hlt : (i : Int) < (l.length : Int) := by omega
    have hlen := hr0.lenS
    obtain ⟨b1, o1, hix1, hb1, hc1, _⟩ := (hr0.still hs).ix (q := .i64) h
    rw [hxa] at hc1
    have hix1 : ixS 2 v (.int .i64 i) = some (.pointer (some ⟨b1, o1, none⟩)) := hix1
    have hck : cellB (H.f b1) o1 = some (.string a.key) := cutB_cell hc1 (i := 0) (by decide)
    have hc1 : cutB (H.f b1) o1 2 = some [.string a.key, .string a.value] := hc1
    have hf := inF_b k w e a
    obtain ⟨c1, g1⟩ : ∃ c, (Op.bytesLess (bl a.key) (bl k) || bl a.key == bl k) = c := ⟨_, rfl⟩
    obtain ⟨c2, g2⟩ : ∃ c, decide (bl a.key = bl k) = c := ⟨_, rfl⟩
    obtain ⟨c3, g3⟩ : ∃ c, decide (bl e = []) = c := ⟨_, rfl⟩
    obtain ⟨c4, g4⟩ : ∃ c, Op.bytesLess (bl a.key) (bl e) = c := ⟨_, rfl⟩
    rw [g1, g2, g3, g4] at hf
    cases hin : inF k w e a with
    | true =>
      rw [hin] at hf
      obtain ⟨H1, hH1⟩ : ∃ H1, H.push (.cells [.string a.key, .string a.value] T.api_Pair true) = H1 := ⟨_, rfl⟩
      have s1 : Still H H1 := by rw [← hH1]; exact (Fr.refl H).push _
      have n1 : H1.n = H.n + 1 := by rw [← hH1]; rfl
      have hlit := rdLit a H
      rw [hH1] at hlit
      have n0 : Hz.n ≤ H.n := hs.n
      obtain ⟨o', H2, happ, ho2, fr2, hb2⟩ := (ho.still s1).appE (m := [a]) (sz := 2) (bytes := 32) rfl (by simp; omega) (by simp; omega) (hlit.src (sz := 2) rfl)
      have hob' : ∀ d, blockOf o' = some d → Hz.n ≤ d := fun d hd => by
        rcases hb2 with hb | hb
        · rw [hb] at hd; exact hob d hd
        · rw [hb] at hd; cases hd; omega
      have s2 : Still Hz H2 := (hs.then s1 fun _ _ h => h).still.then fr2 fun d hd h => by have := hob d h; omega
      obtain ⟨o'', H', q1, q2, q3, ih⟩ := l_in l v k e w Hz hr0 hl x (i + 1) H2 o' (acc ++ [a]) hx' s2 ho2 hob' (by simp; omega)
      refine ⟨o'', H', q1, by rw [List.filter_cons_of_pos hin]; simpa using q2, q3, fun K => ?_⟩
      have ih := ih K
      rw [Int.natCast_add] at ih
      rw [r_law_in_0]
      cases c1 <;> cases w <;> cases c2 <;> cases c3 <;> cases c4 <;> first
        | exact absurd hf (by decide)
        | (simp (disch := first | with_reducible rfl | assumption | omega | rfl | (simp only [go_sem]; first | done | omega)) only [go_sem, ↓reduceIte, reduceCtorEq, Nat.reduceEqDiff, Nat.reduceAdd, Nat.reduceSub, Nat.reduceMul, Nat.reduceDiv, Nat.reduceMod, Nat.reduceLeDiff, Nat.reduceLT, Nat.reduceBEq, Int.reduceEq, Int.reduceBEq, Int.reduceBNe, Int.reduceLT, Int.reduceLE, Int.reduceAdd, Int.reduceSub, Int.reduceNeg, Int.reduceToNat, Int.reducePow, Nat.reducePow, Int.reduceMul, Int.reduceDiv, ↓s_law_in_b0, hlen, hlt, hix1, hck, bl_mk, g1, g2, g3, g4, hc1, hH1, happ]; exact ih)
    | false =>
      rw [hin] at hf
      obtain ⟨o'', H', q1, q2, q3, ih⟩ := l_in l v k e w Hz hr0 hl x (i + 1) H o acc hx' hs ho hob (by omega)
      refine ⟨o'', H', q1, by rw [List.filter_cons_of_neg (by simp [hin])]; exact q2, q3, fun K => ?_⟩
      have ih := ih K
      rw [Int.natCast_add] at ih
      rw [r_law_in_0]
      cases c1 <;> cases w <;> cases c2 <;> cases c3 <;> cases c4 <;> first
        | exact absurd hf (by decide)
        | (simp (disch := first | with_reducible rfl | assumption | omega | rfl | (simp only [go_sem]; first | done | omega)) only [go_sem, ↓reduceIte, reduceCtorEq, Nat.reduceEqDiff, Nat.reduceAdd, Nat.reduceSub, Nat.reduceMul, Nat.reduceDiv, Nat.reduceMod, Nat.reduceLeDiff, Nat.reduceLT, Nat.reduceBEq, Int.reduceEq, Int.reduceBEq, Int.reduceBNe, Int.reduceLT, Int.reduceLE, Int.reduceAdd, Int.reduceSub, Int.reduceNeg, Int.reduceToNat, Int.reducePow, Nat.reducePow, Int.reduceMul, Int.reduceDiv, ↓s_law_in_b0, hlen, hlt, hix1, hck, bl_mk, g1, g2, g3, g4]; exact ih)

theorem q_in (bm : Nat) (l : List Pr) (k e : ByteArray) (w : Bool) (H : AHeap) (r : Mdl H bm l) (hl : l.length ≤ 20000) :
    ∃ v' H', CC F.law_in [.pointer (some ⟨bm, 0, none⟩), .string k, .bool w, .string e] H = some (v', H') ∧ Own EPr H' T.api_Pair v' (l.filter (inF k w e)) ∧ Still H H' ∧ New H v' := by
  obtain ⟨v, H1, hp, ho, s1, hn1⟩ := q_Pairs bm l H r (by omega)
  obtain ⟨o, H', hs, ho', hob, hloop⟩ := l_in l v k e w H1 ho.rd hl l 0 H1 (.slice none 0 0) [] rfl (Fr.refl H1) Eng.Own.nil (fun c h => by cases h) (by simp)
  rw [List.nil_append] at ho'
  have n1 : H.n ≤ H1.n := s1.n
  have hloop : ∀ K : K, l_law_in_0 (.string k) (.bool w) (.string e) (.slice none 0 0) v (.int .i64 0) H1 (blkK [9] 0 K) = K .normal [(9, o)] H' := hloop
  obtain ⟨H'', h⟩ := own_tidied ho' (s1.still.then hs fun _ _ h => h) (fun d hd => by have := hob d hd; omega) (d_law_in (.pointer (some ⟨bm, 0, none⟩)) (.string k) (.bool w) (.string e) H (r := (o, H')) (by
    simp (disch := first | with_reducible rfl | assumption | omega | rfl | (simp only [go_sem]; first | done | omega)) only [go_sem, ↓reduceIte, reduceCtorEq, Nat.reduceEqDiff, Nat.reduceAdd, Nat.reduceSub, Nat.reduceMul, Nat.reduceDiv, Nat.reduceMod, Nat.reduceLeDiff, Nat.reduceLT, Nat.reduceBEq, Int.reduceEq, Int.reduceBEq, Int.reduceBNe, Int.reduceLT, Int.reduceLE, Int.reduceAdd, Int.reduceSub, Int.reduceNeg, Int.reduceToNat, Int.reducePow, Nat.reducePow, Int.reduceMul, Int.reduceDiv, ↓s_law_in, ↓enterK_eq hp, enterK_eq hp, hloop]))
  exact ⟨o, H'', h⟩

/-! ### marks of strings -/
theorem q_pmarkS (e k : ByteArray) (H : AHeap) (he : (bl e).length ≤ 10000) (hk : (bl k).length ≤ 10000) : CC F.pages_marked [.string e, .string k] H = some (.string (marS e k), H) := by
  have := q_pmarked (bl e) (bl k) H he hk
  rwa [mk_bl, mk_bl] at this
theorem q_lmarkS (e k : ByteArray) (H : AHeap) (he : (bl e).length ≤ 10000) (hk : (bl k).length ≤ 10000) : CC F.law_marked [.string e, .string k] H = some (.string (marS e k), H) := by
  have := q_lmarked (bl e) (bl k) H he hk
  rwa [mk_bl, mk_bl] at this

end Go.Proofs.YtlkgfbcencoahaaDoor

/-
  Chapter 44: page, allowed, First, Next; cut.
  Conditions: none. By an AI agent.
-/
set_option maxRecDepth 10000
set_option linter.unusedSimpArgs false
set_option linter.unusedVariables false
namespace Go.Proofs.YtlkgfbcencoahaaDoor
open Go Eng

theorem lastK_app {l m : List Pr} (n : Nat) (h : l.length = n) (hn : 1 ≤ n) : lastK (l ++ m) n = lastK l n := by
  unfold lastK
  rw [List.getElem?_append_left (by omega)]

set_option maxHeartbeats 4000000 in
theorem l_page (l : List Pr) (v : Value) (k e : ByteArray) (b : Bool) (n : Nat) (hn : 1 ≤ n) (Hz : AHeap) (hr0 : Rd EPr Hz v l) (hl : l.length ≤ 20000) (hk : ∀ a ∈ l, (bl a.key).length ≤ 24) (he : (bl e).length ≤ 24) : ∀ (x : List Pr) (i : Nat) (H : AHeap) (o : Value) (acc : List Pr), l.drop i = x → Still Hz H → Own EPr H T.api_Pair o acc → (∀ d, blockOf o = some d → Hz.n ≤ d) → acc.length ≤ i → acc.length ≤ n → (∀ a ∈ acc, (bl a.key).length ≤ 24) →
    ∃ o' H', Still Hz H' ∧ Own EPr H' T.api_Pair o' ((acc ++ x.filter (inF k (!b) e)).take n) ∧ (∀ d, blockOf o' = some d → Hz.n ≤ d) ∧
      ∀ K : K, l_pages_page_0 (.string k) (.bool b) (.string e) (.int .i64 (n : Int)) o v (.int .i64 (l.length : Int)) (.int .i64 (i : Int)) H (blkK [12] 0 K)
        = if (acc ++ x.filter (inF k (!b) e)).length ≤ n then K .normal [(12, o')] H' else K .ret [(10, o'), (11, .string (marS e (lastK (acc ++ x.filter (inF k (!b) e)) n)))] H'
  | [], i, H, o, acc, hx, hs, ho, hob, hacc, han, hkk => by
    have h : l.length ≤ i := List.drop_eq_nil_iff.1 hx
    have hlt : ¬ (i : Int) < (l.length : Int) := by omega
    refine ⟨o, H, hs, by rw [List.filter_nil, List.append_nil, List.take_of_length_le han]; exact ho, hob, fun K => ?_⟩
    rw [List.filter_nil, List.append_nil, if_pos han, r_pages_page_0]
    simp (disch := first | with_reducible rfl | assumption | omega | rfl | (simp only [go_sem]; first | done | omega)) only [go_sem, ↓reduceIte, reduceCtorEq, Nat.reduceEqDiff, Nat.reduceAdd, Nat.reduceSub, Nat.reduceMul, Nat.reduceDiv, Nat.reduceMod, Nat.reduceLeDiff, Nat.reduceLT, Nat.reduceBEq, Int.reduceEq, Int.reduceBEq, Int.reduceBNe, Int.reduceLT, Int.reduceLE, Int.reduceAdd, Int.reduceSub, Int.reduceNeg, Int.reduceToNat, Int.reducePow, Nat.reducePow, Int.reduceMul, Int.reduceDiv, ↓s_pages_page_b0, hlt]
  | a :: x, i, H, o, acc, hx, hs, ho, hob, hacc, han, hkk => by
    obtain ⟨h, hxa, hx'⟩ := drop_cons hx
    have hlt : (i : Int) < (l.length : Int) := by omega
    have hka : (bl a.key).length ≤ 24 := hk a (by rw [← hxa]; exact List.getElem_mem h)
    obtain ⟨b1, o1, hix1, hb1, hc1, _⟩ := (hr0.still hs).ix (q := .i64) h
    rw [hxa] at hc1
    have hix1 : ixS 2 v (.int .i64 i) = some (.pointer (some ⟨b1, o1, none⟩)) := hix1
    have hc1 : cutB (H.f b1) o1 2 = some [.string a.key, .string a.value] := hc1
    obtain ⟨H1, hH1⟩ : ∃ H1, (H.push (.cells [.string (mk []), .string (mk [])] T.api_Pair true)).set H.n (.cells [.string a.key, .string a.value] T.api_Pair true) = H1 := ⟨_, rfl⟩
    have s1 : Still H H1 := by rw [← hH1]; exact Fr.set ((Fr.refl H).push _) _ _ (fun h => by omega)
    have n1 : H1.n = H.n + 1 := by rw [← hH1]; rfl
    have f1 : H1.f H.n = .cells [.string a.key, .string a.value] T.api_Pair true := by rw [← hH1]; exact set_f_eq
    have n0 : Hz.n ≤ H.n := hs.n
    have hf := inF_p k b e a
    obtain ⟨c1, g1⟩ : ∃ c, Op.bytesLess (bl a.key) (bl k) = c := ⟨_, rfl⟩
    obtain ⟨c2, g2⟩ : ∃ c, decide (bl a.key = bl k) = c := ⟨_, rfl⟩
    obtain ⟨c3, g3⟩ : ∃ c, decide (bl e = []) = c := ⟨_, rfl⟩
    obtain ⟨c4, g4⟩ : ∃ c, Op.bytesLess (bl a.key) (bl e) = c := ⟨_, rfl⟩
    rw [g1, g2, g3, g4] at hf
    have sz1 : Still Hz H1 := hs.then s1 fun _ _ h => h
    cases hin : inF k (!b) e a with
    | false =>
      rw [hin] at hf
      obtain ⟨o'', H', q1, q2, q3, ih⟩ := l_page l v k e b n hn Hz hr0 hl hk he x (i + 1) H1 o acc hx' sz1 (ho.still s1) hob (by omega) han hkk
      rw [List.filter_cons_of_neg (by simp [hin])]
      refine ⟨o'', H', q1, q2, q3, fun K => ?_⟩
      rw [← ih K, r_pages_page_0, Int.natCast_add]
      cases c1 <;> cases b <;> cases c2 <;> cases c3 <;> cases c4 <;> first
        | exact absurd hf (by decide)
        | (simp (disch := first | with_reducible rfl | assumption | omega | rfl | (simp only [go_sem]; first | done | omega)) only [go_sem, ↓reduceIte, reduceCtorEq, Nat.reduceEqDiff, Nat.reduceAdd, Nat.reduceSub, Nat.reduceMul, Nat.reduceDiv, Nat.reduceMod, Nat.reduceLeDiff, Nat.reduceLT, Nat.reduceBEq, Int.reduceEq, Int.reduceBEq, Int.reduceBNe, Int.reduceLT, Int.reduceLE, Int.reduceAdd, Int.reduceSub, Int.reduceNeg, Int.reduceToNat, Int.reducePow, Nat.reducePow, Int.reduceMul, Int.reduceDiv, ↓s_pages_page_b0, hlt, hix1, hc1, hH1, f1, bl_mk, g1, g2, g3, g4])
    | true =>
      rw [hin] at hf
      rw [List.filter_cons_of_pos hin]
      have hleno := ho.rd.lenS
      by_cases hfull : acc.length = n
      · have hlen : ¬ (acc ++ a :: x.filter (inF k (!b) e)).length ≤ n := by simp; omega
        have hdn : (acc.length : Int) = (n : Int) := by omega
        have hlt1 : n - 1 < acc.length := by omega
        obtain ⟨b2, o2, ix2, d0, _, _⟩ := rd_pair (ho.still s1).rd hlt1 (iv := (n : Int) - 1) (by omega)
        have hkl : (bl acc[n - 1].key).length ≤ 24 := hkk _ (List.getElem_mem hlt1)
        have hlk : lastK (acc ++ a :: x.filter (inF k (!b) e)) n = acc[n - 1].key := by rw [lastK_app n hfull hn, lastK_eq hlt1]
        have mm := q_pmarkS e acc[n - 1].key H1 (by omega) (by omega)
        have htk : (acc ++ a :: x.filter (inF k (!b) e)).take n = acc := by rw [← hfull, List.take_left]
        refine ⟨o, H1, sz1, by rw [htk]; exact ho.still s1, hob, fun K => ?_⟩
        rw [if_neg hlen, hlk, r_pages_page_0]
        cases c1 <;> cases b <;> cases c2 <;> cases c3 <;> cases c4 <;> first
          | exact absurd hf (by decide)
          | (simp (disch := first | with_reducible rfl | assumption | omega | rfl | (simp only [go_sem]; first | done | omega)) only [go_sem, ↓reduceIte, reduceCtorEq, Nat.reduceEqDiff, Nat.reduceAdd, Nat.reduceSub, Nat.reduceMul, Nat.reduceDiv, Nat.reduceMod, Nat.reduceLeDiff, Nat.reduceLT, Nat.reduceBEq, Int.reduceEq, Int.reduceBEq, Int.reduceBNe, Int.reduceLT, Int.reduceLE, Int.reduceAdd, Int.reduceSub, Int.reduceNeg, Int.reduceToNat, Int.reducePow, Nat.reducePow, Int.reduceMul, Int.reduceDiv, ↓s_pages_page_b0, hlt, hix1, hc1, hH1, f1, bl_mk, g1, g2, g3, g4, hleno, hdn, ix2, d0, ↓enterK_eq mm, enterK_eq mm])
      · have hdn : ¬ (acc.length : Int) = (n : Int) := by omega
        obtain ⟨H2, hH2⟩ : ∃ H2, H1.push (.cells [.string a.key, .string a.value] T.api_Pair true) = H2 := ⟨_, rfl⟩
        have s2 : Still H1 H2 := by rw [← hH2]; exact (Fr.refl H1).push _
        have n2 : H2.n = H1.n + 1 := by rw [← hH2]; rfl
        have hlit := rdLit a H1
        rw [hH2] at hlit
        obtain ⟨o', H3, happ, ho2, fr2, hb2⟩ := ((ho.still s1).still s2).appE (m := [a]) (sz := 2) (bytes := 32) rfl (by simp; omega) (by simp; omega) (hlit.src (sz := 2) rfl)
        have hob' : ∀ d, blockOf o' = some d → Hz.n ≤ d := fun d hd => by
          rcases hb2 with hb | hb
          · rw [hb] at hd; exact hob d hd
          · rw [hb] at hd; cases hd; omega
        have s3 : Still Hz H3 := (sz1.then s2 fun _ _ h => h).still.then fr2 fun d hd h => by have := hob d h; omega
        obtain ⟨o'', H', q1, q2, q3, ih⟩ := l_page l v k e b n hn Hz hr0 hl hk he x (i + 1) H3 o' (acc ++ [a]) hx' s3 ho2 hob' (by simp; omega) (by simp; omega) (fun y hy => by
          rcases List.mem_append.1 hy with hy | hy
          · exact hkk y hy
          · simp at hy; subst hy; exact hka)
        have hap : acc ++ [a] ++ x.filter (inF k (!b) e) = acc ++ a :: x.filter (inF k (!b) e) := by simp
        rw [hap] at q2 ih
        refine ⟨o'', H', q1, q2, q3, fun K => ?_⟩
        rw [← ih K, r_pages_page_0, Int.natCast_add]
        cases c1 <;> cases b <;> cases c2 <;> cases c3 <;> cases c4 <;> first
          | exact absurd hf (by decide)
          | (simp (disch := first | with_reducible rfl | assumption | omega | rfl | (simp only [go_sem]; first | done | omega)) only [go_sem, ↓reduceIte, reduceCtorEq, Nat.reduceEqDiff, Nat.reduceAdd, Nat.reduceSub, Nat.reduceMul, Nat.reduceDiv, Nat.reduceMod, Nat.reduceLeDiff, Nat.reduceLT, Nat.reduceBEq, Int.reduceEq, Int.reduceBEq, Int.reduceBNe, Int.reduceLT, Int.reduceLE, Int.reduceAdd, Int.reduceSub, Int.reduceNeg, Int.reduceToNat, Int.reducePow, Nat.reducePow, Int.reduceMul, Int.reduceDiv, ↓s_pages_page_b0, hlt, hix1, hc1, hH1, f1, bl_mk, g1, g2, g3, g4, hleno, hdn, hH2, happ])

/-- What a call hands back: pairs and further values. -/
theorem keep_tup {H H' : AHeap} {v : Value} {l : List Pr} {r : List Value} (hs : Still H H') (ho : Own EPr H' T.api_Pair v l) (hv : New H v) :
    ∃ H2, tidy H (.tuple ⟨v :: r⟩, H') = (.tuple ⟨v :: r⟩, H2) ∧ Own EPr H2 T.api_Pair v l ∧ Still H H2 := by
  obtain ⟨H2, h2, h3⟩ := tidy_fr (v := .tuple ⟨v :: r⟩) hs
  refine ⟨H2, h2, ?_, h3⟩
  unfold tidy at h2
  split at h2
  · rename_i hg
    cases h2
    have hv : gr 8 v = true := by
      have hg := (Bool.and_eq_true _ _ ▸ hg : _ ∧ _).1
      simp only [gr, List.all_cons, Bool.and_eq_true] at hg
      exact hg.1
    rcases ho with h | ⟨_, a, rfl, _⟩ | ⟨b, o', c, xs, rfl, _⟩
    · exact .inl h
    · simp [gr] at hv
    · simp [gr] at hv
  · cases h2
    exact ho

theorem q_page (bm : Nat) (l : List Pr) (k e : ByteArray) (b : Bool) (n : Nat) (hn : 1 ≤ n) (H : AHeap) (r : Mdl H bm l) (hl : l.length ≤ 20000) (hk : ∀ a ∈ l, (bl a.key).length ≤ 24) (he : (bl e).length ≤ 24) :
    ∃ v' H', CC F.pages_page [.pointer (some ⟨bm, 0, none⟩), .string k, .bool b, .string e, .int .i64 (n : Int)] H = some (.tuple #[v', .string (pgM (l.filter (inF k (!b) e)) n e)], H') ∧ Own EPr H' T.api_Pair v' (pgL (l.filter (inF k (!b) e)) n) ∧ Still H H' ∧ New H v' := by
  obtain ⟨v, H1, hp, ho, s1, hn1⟩ := q_Pairs bm l H r (by omega)
  have hlen := ho.rd.lenS
  obtain ⟨o, H', hs, ho', hob, hloop⟩ := l_page l v k e b n hn H1 ho.rd hl hk he l 0 H1 (.slice none 0 0) [] rfl (Fr.refl H1) Eng.Own.nil (fun c h => by cases h) (by simp) (by simp) (fun a h => by simp at h)
  rw [List.nil_append] at ho' hloop
  have n1 : H.n ≤ H1.n := s1.n
  have hnew : New H o := fun d hd => by have := hob d hd; omega
  obtain ⟨H2, t1, t2, t3⟩ := keep_tup (r := [.string (pgM (l.filter (inF k (!b) e)) n e)]) (s1.still.then hs fun _ _ h => h) ho' hnew
  refine ⟨o, H2, (d_pages_page (.pointer (some ⟨bm, 0, none⟩)) (.string k) (.bool b) (.string e) (.int .i64 (n : Int)) H (r := (.tuple #[o, .string (pgM (l.filter (inF k (!b) e)) n e)], H')) ?_).trans (congrArg some t1), t2, t3, hnew⟩
  unfold pgM
  by_cases hle : (l.filter (inF k (!b) e)).length ≤ n
  · have hloop : ∀ K : K, l_pages_page_0 (.string k) (.bool b) (.string e) (.int .i64 (n : Int)) (.slice none 0 0) v (.int .i64 (l.length : Int)) (.int .i64 0) H1 (blkK [12] 0 K) = K .normal [(12, o)] H' := fun K => by
      have := hloop K; rw [if_pos hle] at this; exact this
    rw [if_pos hle]
    simp (disch := first | with_reducible rfl | assumption | omega | rfl | (simp only [go_sem]; first | done | omega)) only [go_sem, ↓reduceIte, reduceCtorEq, Nat.reduceEqDiff, Nat.reduceAdd, Nat.reduceSub, Nat.reduceMul, Nat.reduceDiv, Nat.reduceMod, Nat.reduceLeDiff, Nat.reduceLT, Nat.reduceBEq, Int.reduceEq, Int.reduceBEq, Int.reduceBNe, Int.reduceLT, Int.reduceLE, Int.reduceAdd, Int.reduceSub, Int.reduceNeg, Int.reduceToNat, Int.reducePow, Nat.reducePow, Int.reduceMul, Int.reduceDiv, ↓s_pages_page, ↓enterK_eq hp, enterK_eq hp, hlen, hloop]
  · have hloop : ∀ K : K, l_pages_page_0 (.string k) (.bool b) (.string e) (.int .i64 (n : Int)) (.slice none 0 0) v (.int .i64 (l.length : Int)) (.int .i64 0) H1 (blkK [12] 0 K) = K .ret [(10, o), (11, .string (marS e (lastK (l.filter (inF k (!b) e)) n)))] H' := fun K => by
      have := hloop K; rw [if_neg hle] at this; exact this
    rw [if_neg hle]
    simp (disch := first | with_reducible rfl | assumption | omega | rfl | (simp only [go_sem]; first | done | omega)) only [go_sem, ↓reduceIte, reduceCtorEq, Nat.reduceEqDiff, Nat.reduceAdd, Nat.reduceSub, Nat.reduceMul, Nat.reduceDiv, Nat.reduceMod, Nat.reduceLeDiff, Nat.reduceLT, Nat.reduceBEq, Int.reduceEq, Int.reduceBEq, Int.reduceBNe, Int.reduceLT, Int.reduceLE, Int.reduceAdd, Int.reduceSub, Int.reduceNeg, Int.reduceToNat, Int.reducePow, Nat.reducePow, Int.reduceMul, Int.reduceDiv, ↓s_pages_page, ↓enterK_eq hp, enterK_eq hp, hlen, hloop]

/-! ### allowed -/
theorem q_allowed_nil (n : Int) (H : AHeap) : CC F.pages_allowed [.pointer none, .int .i64 n] H = some (.int .i64 1, H) := by
  apply pure_of _ (d_pages_allowed _ _ H) rfl
  rotate_left 2
  · simp (disch := first | with_reducible rfl | assumption | omega | rfl | (simp only [go_sem]; first | done | omega)) only [go_sem, ↓reduceIte, reduceCtorEq, Nat.reduceEqDiff, Nat.reduceAdd, Nat.reduceSub, Nat.reduceMul, Nat.reduceDiv, Nat.reduceMod, Nat.reduceLeDiff, Nat.reduceLT, Nat.reduceBEq, Int.reduceEq, Int.reduceBEq, Int.reduceBNe, Int.reduceLT, Int.reduceLE, Int.reduceAdd, Int.reduceSub, Int.reduceNeg, Int.reduceToNat, Int.reducePow, Nat.reducePow, Int.reduceMul, Int.reduceDiv, ↓s_pages_allowed, mp_nil]
    rfl
  · (repeat (first | exact Fr.refl _ | refine Fr.push ?_ _ | refine Fr.set ?_ _ _ (by intro h; first | omega | (simp only [go_sem] at h; omega))))
theorem q_allowed_bad (a : Addr) (n : Int) (H : AHeap) (h : n < 1 ∨ 32 < n) : CC F.pages_allowed [.pointer (some a), .int .i64 n] H = some (.int .i64 2, H) := by
  by_cases h1 : n < 1
  · apply pure_of _ (d_pages_allowed _ _ H) rfl
    rotate_left 2
    · simp (disch := first | with_reducible rfl | assumption | omega | rfl | (simp only [go_sem]; first | done | omega)) only [go_sem, ↓reduceIte, reduceCtorEq, Nat.reduceEqDiff, Nat.reduceAdd, Nat.reduceSub, Nat.reduceMul, Nat.reduceDiv, Nat.reduceMod, Nat.reduceLeDiff, Nat.reduceLT, Nat.reduceBEq, Int.reduceEq, Int.reduceBEq, Int.reduceBNe, Int.reduceLT, Int.reduceLE, Int.reduceAdd, Int.reduceSub, Int.reduceNeg, Int.reduceToNat, Int.reducePow, Nat.reducePow, Int.reduceMul, Int.reduceDiv, ↓s_pages_allowed, mp_some, h1]
      rfl
    · (repeat (first | exact Fr.refl _ | refine Fr.push ?_ _ | refine Fr.set ?_ _ _ (by intro h; first | omega | (simp only [go_sem] at h; omega))))
  · have h2 : 32 < n := by omega
    apply pure_of _ (d_pages_allowed _ _ H) rfl
    rotate_left 2
    · simp (disch := first | with_reducible rfl | assumption | omega | rfl | (simp only [go_sem]; first | done | omega)) only [go_sem, ↓reduceIte, reduceCtorEq, Nat.reduceEqDiff, Nat.reduceAdd, Nat.reduceSub, Nat.reduceMul, Nat.reduceDiv, Nat.reduceMod, Nat.reduceLeDiff, Nat.reduceLT, Nat.reduceBEq, Int.reduceEq, Int.reduceBEq, Int.reduceBNe, Int.reduceLT, Int.reduceLE, Int.reduceAdd, Int.reduceSub, Int.reduceNeg, Int.reduceToNat, Int.reducePow, Nat.reducePow, Int.reduceMul, Int.reduceDiv, ↓s_pages_allowed, mp_some, h1, h2]
      rfl
    · (repeat (first | exact Fr.refl _ | refine Fr.push ?_ _ | refine Fr.set ?_ _ _ (by intro h; first | omega | (simp only [go_sem] at h; omega))))
theorem q_allowed (a : Addr) (n : Int) (H : AHeap) (h1 : ¬ n < 1) (h2 : ¬ 32 < n) : CC F.pages_allowed [.pointer (some a), .int .i64 n] H = some (.int .i64 0, H) := by
  apply pure_of _ (d_pages_allowed _ _ H) rfl
  rotate_left 2
  · simp (disch := first | with_reducible rfl | assumption | omega | rfl | (simp only [go_sem]; first | done | omega)) only [go_sem, ↓reduceIte, reduceCtorEq, Nat.reduceEqDiff, Nat.reduceAdd, Nat.reduceSub, Nat.reduceMul, Nat.reduceDiv, Nat.reduceMod, Nat.reduceLeDiff, Nat.reduceLT, Nat.reduceBEq, Int.reduceEq, Int.reduceBEq, Int.reduceBNe, Int.reduceLT, Int.reduceLE, Int.reduceAdd, Int.reduceSub, Int.reduceNeg, Int.reduceToNat, Int.reducePow, Nat.reducePow, Int.reduceMul, Int.reduceDiv, ↓s_pages_allowed, mp_some, h1, h2]
    rfl
  · (repeat (first | exact Fr.refl _ | refine Fr.push ?_ _ | refine Fr.set ?_ _ _ (by intro h; first | omega | (simp only [go_sem] at h; omega))))

/-! ### First -/
/-- The error of a range and a limit. -/
def fErr (k e : ByteArray) (n : Int) : Int := if n < 1 ∨ 32 < n then 2 else if 24 < (bl k).length ∨ 24 < (bl e).length then 5 else if bl e ≠ [] ∧ cmpS e k ≤ 0 then 13 else 0
theorem q_First_nil (k e : ByteArray) (n : Int) (H : AHeap) : CC F.pages_First [.pointer none, .string k, .string e, .int .i64 n] H = some (.tuple #[.slice none 0 0, .string (mk []), .int .i64 1], H) := by
  have m1 := q_allowed_nil n H
  apply pure_of _ (d_pages_First _ _ _ _ H) rfl
  rotate_left 2
  · simp (disch := first | with_reducible rfl | assumption | omega | rfl | (simp only [go_sem]; first | done | omega)) only [go_sem, ↓reduceIte, reduceCtorEq, Nat.reduceEqDiff, Nat.reduceAdd, Nat.reduceSub, Nat.reduceMul, Nat.reduceDiv, Nat.reduceMod, Nat.reduceLeDiff, Nat.reduceLT, Nat.reduceBEq, Int.reduceEq, Int.reduceBEq, Int.reduceBNe, Int.reduceLT, Int.reduceLE, Int.reduceAdd, Int.reduceSub, Int.reduceNeg, Int.reduceToNat, Int.reducePow, Nat.reducePow, Int.reduceMul, Int.reduceDiv, ↓s_pages_First, ↓enterK_eq m1, enterK_eq m1]
    rfl
  · (repeat (first | exact Fr.refl _ | refine Fr.push ?_ _ | refine Fr.set ?_ _ _ (by intro h; first | omega | (simp only [go_sem] at h; omega))))
theorem q_First_bad (a : Addr) (k e : ByteArray) (n : Int) (H : AHeap) (h : fErr k e n ≠ 0) : CC F.pages_First [.pointer (some a), .string k, .string e, .int .i64 n] H = some (.tuple #[.slice none 0 0, .string (mk []), .int .i64 (fErr k e n)], H) := by
  unfold fErr at h ⊢
  by_cases h1 : n < 1 ∨ 32 < n
  · have m1 := q_allowed_bad a n H h1
    rw [if_pos h1]
    apply pure_of _ (d_pages_First _ _ _ _ H) rfl
    rotate_left 2
    · simp (disch := first | with_reducible rfl | assumption | omega | rfl | (simp only [go_sem]; first | done | omega)) only [go_sem, ↓reduceIte, reduceCtorEq, Nat.reduceEqDiff, Nat.reduceAdd, Nat.reduceSub, Nat.reduceMul, Nat.reduceDiv, Nat.reduceMod, Nat.reduceLeDiff, Nat.reduceLT, Nat.reduceBEq, Int.reduceEq, Int.reduceBEq, Int.reduceBNe, Int.reduceLT, Int.reduceLE, Int.reduceAdd, Int.reduceSub, Int.reduceNeg, Int.reduceToNat, Int.reducePow, Nat.reducePow, Int.reduceMul, Int.reduceDiv, ↓s_pages_First, ↓enterK_eq m1, enterK_eq m1]
      rfl
    · (repeat (first | exact Fr.refl _ | refine Fr.push ?_ _ | refine Fr.set ?_ _ _ (by intro h; first | omega | (simp only [go_sem] at h; omega))))
  · have m1 := q_allowed a n H (fun h => h1 (.inl h)) (fun h => h1 (.inr h))
    rw [if_neg h1] at h ⊢
    by_cases h2 : 24 < (bl k).length ∨ 24 < (bl e).length
    · rw [if_pos h2]
      by_cases h3 : (24 : Int) < ((bl k).length : Int)
      · apply pure_of _ (d_pages_First _ _ _ _ H) rfl
        rotate_left 2
        · simp (disch := first | with_reducible rfl | assumption | omega | rfl | (simp only [go_sem]; first | done | omega)) only [go_sem, ↓reduceIte, reduceCtorEq, Nat.reduceEqDiff, Nat.reduceAdd, Nat.reduceSub, Nat.reduceMul, Nat.reduceDiv, Nat.reduceMod, Nat.reduceLeDiff, Nat.reduceLT, Nat.reduceBEq, Int.reduceEq, Int.reduceBEq, Int.reduceBNe, Int.reduceLT, Int.reduceLE, Int.reduceAdd, Int.reduceSub, Int.reduceNeg, Int.reduceToNat, Int.reducePow, Nat.reducePow, Int.reduceMul, Int.reduceDiv, ↓s_pages_First, ↓enterK_eq m1, enterK_eq m1, h3]
          rfl
        · (repeat (first | exact Fr.refl _ | refine Fr.push ?_ _ | refine Fr.set ?_ _ _ (by intro h; first | omega | (simp only [go_sem] at h; omega))))
      · have h4 : (24 : Int) < ((bl e).length : Int) := by omega
        apply pure_of _ (d_pages_First _ _ _ _ H) rfl
        rotate_left 2
        · simp (disch := first | with_reducible rfl | assumption | omega | rfl | (simp only [go_sem]; first | done | omega)) only [go_sem, ↓reduceIte, reduceCtorEq, Nat.reduceEqDiff, Nat.reduceAdd, Nat.reduceSub, Nat.reduceMul, Nat.reduceDiv, Nat.reduceMod, Nat.reduceLeDiff, Nat.reduceLT, Nat.reduceBEq, Int.reduceEq, Int.reduceBEq, Int.reduceBNe, Int.reduceLT, Int.reduceLE, Int.reduceAdd, Int.reduceSub, Int.reduceNeg, Int.reduceToNat, Int.reducePow, Nat.reducePow, Int.reduceMul, Int.reduceDiv, ↓s_pages_First, ↓enterK_eq m1, enterK_eq m1, h3, h4]
          rfl
        · (repeat (first | exact Fr.refl _ | refine Fr.push ?_ _ | refine Fr.set ?_ _ _ (by intro h; first | omega | (simp only [go_sem] at h; omega))))
    · rw [if_neg h2] at h ⊢
      by_cases h5 : bl e ≠ [] ∧ cmpS e k ≤ 0
      · rw [if_pos h5]
        have h3 : ¬ (24 : Int) < ((bl k).length : Int) := by omega
        have h4 : ¬ (24 : Int) < ((bl e).length : Int) := by omega
        have h6 : ¬ bl e = [] := h5.1
        have h7 : (Op.bytesLess (bl e) (bl k) || bl e == bl k) = true := by rw [leq_cmpS]; exact decide_eq_true h5.2
        apply pure_of _ (d_pages_First _ _ _ _ H) rfl
        rotate_left 2
        · simp (disch := first | with_reducible rfl | assumption | omega | rfl | (simp only [go_sem]; first | done | omega)) only [go_sem, ↓reduceIte, reduceCtorEq, Nat.reduceEqDiff, Nat.reduceAdd, Nat.reduceSub, Nat.reduceMul, Nat.reduceDiv, Nat.reduceMod, Nat.reduceLeDiff, Nat.reduceLT, Nat.reduceBEq, Int.reduceEq, Int.reduceBEq, Int.reduceBNe, Int.reduceLT, Int.reduceLE, Int.reduceAdd, Int.reduceSub, Int.reduceNeg, Int.reduceToNat, Int.reducePow, Nat.reducePow, Int.reduceMul, Int.reduceDiv, ↓s_pages_First, ↓enterK_eq m1, enterK_eq m1, h3, h4, bl_mk, h6, h7]
          rfl
        · (repeat (first | exact Fr.refl _ | refine Fr.push ?_ _ | refine Fr.set ?_ _ _ (by intro h; first | omega | (simp only [go_sem] at h; omega))))
      · rw [if_neg h5] at h; exact absurd rfl h
theorem fErr_ok {k e : ByteArray} {n : Int} (h : fErr k e n = 0) : ¬ n < 1 ∧ ¬ 32 < n ∧ (bl k).length ≤ 24 ∧ (bl e).length ≤ 24 ∧ (bl e = [] ∨ cmpS k e < 0) := by
  unfold fErr at h
  split at h
  · cases h
  · rename_i h1
    split at h
    · cases h
    · rename_i h2
      split at h
      · cases h
      · rename_i h3
        refine ⟨fun h => h1 (.inl h), fun h => h1 (.inr h), by omega, by omega, ?_⟩
        by_cases h4 : bl e = []
        · exact .inl h4
        · right
          have := cmpS_swap k e
          have : ¬ cmpS e k ≤ 0 := fun h => h3 ⟨h4, h⟩
          omega

theorem q_First (bm : Nat) (l : List Pr) (k e : ByteArray) (n : Nat) (H : AHeap) (r : Mdl H bm l) (hl : l.length ≤ 20000) (hk : ∀ a ∈ l, (bl a.key).length ≤ 24) (h0 : fErr k e (n : Int) = 0) :
    ∃ v' H', CC F.pages_First [.pointer (some ⟨bm, 0, none⟩), .string k, .string e, .int .i64 (n : Int)] H = some (.tuple #[v', .string (pgM (l.filter (inF k true e)) n e), .int .i64 0], H') ∧ Own EPr H' T.api_Pair v' (pgL (l.filter (inF k true e)) n) ∧ Still H H' ∧ New H v' := by
  obtain ⟨h1, h2, h3, h4, h5⟩ := fErr_ok h0
  have m1 := q_allowed ⟨bm, 0, none⟩ (n : Int) H h1 h2
  obtain ⟨v, H1, m2, ho, s1, hn⟩ := q_page bm l k e false n (by omega) H r hl hk h4
  have g3 : ¬ (24 : Int) < ((bl k).length : Int) := by omega
  have g4 : ¬ (24 : Int) < ((bl e).length : Int) := by omega
  obtain ⟨H2, t1, t2, t3⟩ := keep_tup (r := [.string (pgM (l.filter (inF k true e)) n e), .int .i64 0]) s1 ho hn
  refine ⟨v, H2, (d_pages_First (.pointer (some ⟨bm, 0, none⟩)) (.string k) (.string e) (.int .i64 (n : Int)) H (r := (.tuple #[v, .string (pgM (l.filter (inF k true e)) n e), .int .i64 0], H1)) ?_).trans (congrArg some t1), t2, t3, hn⟩
  have m2 : CC F.pages_page [.pointer (some ⟨bm, 0, none⟩), .string k, .bool false, .string e, .int .i64 (n : Int)] H = some (.tuple #[v, .string (pgM (l.filter (inF k true e)) n e)], H1) := m2
  rcases h5 with h5 | h5
  · simp (disch := first | with_reducible rfl | assumption | omega | rfl | (simp only [go_sem]; first | done | omega)) only [go_sem, ↓reduceIte, reduceCtorEq, Nat.reduceEqDiff, Nat.reduceAdd, Nat.reduceSub, Nat.reduceMul, Nat.reduceDiv, Nat.reduceMod, Nat.reduceLeDiff, Nat.reduceLT, Nat.reduceBEq, Int.reduceEq, Int.reduceBEq, Int.reduceBNe, Int.reduceLT, Int.reduceLE, Int.reduceAdd, Int.reduceSub, Int.reduceNeg, Int.reduceToNat, Int.reducePow, Nat.reducePow, Int.reduceMul, Int.reduceDiv, ↓s_pages_First, ↓enterK_eq m1, enterK_eq m1, g3, g4, bl_mk, h5, ↓enterK_eq m2, enterK_eq m2]
  · by_cases h6 : bl e = []
    · simp (disch := first | with_reducible rfl | assumption | omega | rfl | (simp only [go_sem]; first | done | omega)) only [go_sem, ↓reduceIte, reduceCtorEq, Nat.reduceEqDiff, Nat.reduceAdd, Nat.reduceSub, Nat.reduceMul, Nat.reduceDiv, Nat.reduceMod, Nat.reduceLeDiff, Nat.reduceLT, Nat.reduceBEq, Int.reduceEq, Int.reduceBEq, Int.reduceBNe, Int.reduceLT, Int.reduceLE, Int.reduceAdd, Int.reduceSub, Int.reduceNeg, Int.reduceToNat, Int.reducePow, Nat.reducePow, Int.reduceMul, Int.reduceDiv, ↓s_pages_First, ↓enterK_eq m1, enterK_eq m1, g3, g4, bl_mk, h6, ↓enterK_eq m2, enterK_eq m2]
    · have h7 : (Op.bytesLess (bl e) (bl k) || bl e == bl k) = false := by
        rw [leq_cmpS]; exact decide_eq_false (by have := cmpS_swap k e; omega)
      simp (disch := first | with_reducible rfl | assumption | omega | rfl | (simp only [go_sem]; first | done | omega)) only [go_sem, ↓reduceIte, reduceCtorEq, Nat.reduceEqDiff, Nat.reduceAdd, Nat.reduceSub, Nat.reduceMul, Nat.reduceDiv, Nat.reduceMod, Nat.reduceLeDiff, Nat.reduceLT, Nat.reduceBEq, Int.reduceEq, Int.reduceBEq, Int.reduceBNe, Int.reduceLT, Int.reduceLE, Int.reduceAdd, Int.reduceSub, Int.reduceNeg, Int.reduceToNat, Int.reducePow, Nat.reducePow, Int.reduceMul, Int.reduceDiv, ↓s_pages_First, ↓enterK_eq m1, enterK_eq m1, g3, g4, bl_mk, h6, h7, ↓enterK_eq m2, enterK_eq m2]

/-! ### Next -/
theorem q_Next_nil (m : List UInt8) (n : Int) (H : AHeap) : CC F.pages_Next [.pointer none, .string (mk m), .int .i64 n] H = some (.tuple #[.slice none 0 0, .string (mk []), .int .i64 1], H) := by
  have m1 := q_allowed_nil n H
  apply pure_of _ (d_pages_Next _ _ _ H) rfl
  rotate_left 2
  · simp (disch := first | with_reducible rfl | assumption | omega | rfl | (simp only [go_sem]; first | done | omega)) only [go_sem, ↓reduceIte, reduceCtorEq, Nat.reduceEqDiff, Nat.reduceAdd, Nat.reduceSub, Nat.reduceMul, Nat.reduceDiv, Nat.reduceMod, Nat.reduceLeDiff, Nat.reduceLT, Nat.reduceBEq, Int.reduceEq, Int.reduceBEq, Int.reduceBNe, Int.reduceLT, Int.reduceLE, Int.reduceAdd, Int.reduceSub, Int.reduceNeg, Int.reduceToNat, Int.reducePow, Nat.reducePow, Int.reduceMul, Int.reduceDiv, ↓s_pages_Next, ↓enterK_eq m1, enterK_eq m1]
    rfl
  · (repeat (first | exact Fr.refl _ | refine Fr.push ?_ _ | refine Fr.set ?_ _ _ (by intro h; first | omega | (simp only [go_sem] at h; omega))))
theorem q_Next_arg (a : Addr) (m : List UInt8) (n : Int) (H : AHeap) (h : n < 1 ∨ 32 < n) : CC F.pages_Next [.pointer (some a), .string (mk m), .int .i64 n] H = some (.tuple #[.slice none 0 0, .string (mk []), .int .i64 2], H) := by
  have m1 := q_allowed_bad a n H h
  apply pure_of _ (d_pages_Next _ _ _ H) rfl
  rotate_left 2
  · simp (disch := first | with_reducible rfl | assumption | omega | rfl | (simp only [go_sem]; first | done | omega)) only [go_sem, ↓reduceIte, reduceCtorEq, Nat.reduceEqDiff, Nat.reduceAdd, Nat.reduceSub, Nat.reduceMul, Nat.reduceDiv, Nat.reduceMod, Nat.reduceLeDiff, Nat.reduceLT, Nat.reduceBEq, Int.reduceEq, Int.reduceBEq, Int.reduceBNe, Int.reduceLT, Int.reduceLE, Int.reduceAdd, Int.reduceSub, Int.reduceNeg, Int.reduceToNat, Int.reducePow, Nat.reducePow, Int.reduceMul, Int.reduceDiv, ↓s_pages_Next, ↓enterK_eq m1, enterK_eq m1]
    rfl
  · (repeat (first | exact Fr.refl _ | refine Fr.push ?_ _ | refine Fr.set ?_ _ _ (by intro h; first | omega | (simp only [go_sem] at h; omega))))
theorem q_Next_bad (a : Addr) (m : List UInt8) (hm : m.length ≤ 10000) (n : Int) (H : AHeap) (h1 : ¬ n < 1) (h2 : ¬ 32 < n) (h : readR m = none) : CC F.pages_Next [.pointer (some a), .string (mk m), .int .i64 n] H = some (.tuple #[.slice none 0 0, .string (mk []), .int .i64 6], H) := by
  have m1 := q_allowed a n H h1 h2
  have m2 := q_Read m H hm
  unfold readV at m2
  rw [h] at m2
  simp only at m2
  apply pure_of _ (d_pages_Next _ _ _ H) rfl
  rotate_left 2
  · simp (disch := first | with_reducible rfl | assumption | omega | rfl | (simp only [go_sem]; first | done | omega)) only [go_sem, ↓reduceIte, reduceCtorEq, Nat.reduceEqDiff, Nat.reduceAdd, Nat.reduceSub, Nat.reduceMul, Nat.reduceDiv, Nat.reduceMod, Nat.reduceLeDiff, Nat.reduceLT, Nat.reduceBEq, Int.reduceEq, Int.reduceBEq, Int.reduceBNe, Int.reduceLT, Int.reduceLE, Int.reduceAdd, Int.reduceSub, Int.reduceNeg, Int.reduceToNat, Int.reducePow, Nat.reducePow, Int.reduceMul, Int.reduceDiv, ↓s_pages_Next, ↓enterK_eq m1, enterK_eq m1, ↓enterK_eq m2, enterK_eq m2]
    rfl
  · (repeat (first | exact Fr.refl _ | refine Fr.push ?_ _ | refine Fr.set ?_ _ _ (by intro h; first | omega | (simp only [go_sem] at h; omega))))
theorem q_Next (bm : Nat) (l : List Pr) (m : List UInt8) (hm : m.length ≤ 10000) (e k : List UInt8) (n : Nat) (H : AHeap) (r : Mdl H bm l) (hl : l.length ≤ 20000) (hk : ∀ a ∈ l, (bl a.key).length ≤ 24) (h1 : ¬ (n : Int) < 1) (h2 : ¬ 32 < (n : Int)) (h : readR m = some (e, k)) :
    ∃ v' H', CC F.pages_Next [.pointer (some ⟨bm, 0, none⟩), .string (mk m), .int .i64 (n : Int)] H = some (.tuple #[v', .string (pgM (l.filter (inF (mk k) false (mk e))) n (mk e)), .int .i64 0], H') ∧ Own EPr H' T.api_Pair v' (pgL (l.filter (inF (mk k) false (mk e))) n) ∧ Still H H' ∧ New H v' := by
  have m1 := q_allowed ⟨bm, 0, none⟩ (n : Int) H h1 h2
  have m2 := q_Read m H hm
  have hok := ((readR_iff m e k).1 h).2
  have he : e.length ≤ 24 := by
    simp only [okEK, Bool.and_eq_true, decide_eq_true_eq] at hok
    exact hok.1.2
  unfold readV at m2
  rw [h] at m2
  simp only at m2
  obtain ⟨v, H1, m3, ho, s1, hn⟩ := q_page bm l (mk k) (mk e) true n (by omega) H r hl hk (by rw [bl_mk]; exact he)
  obtain ⟨H2, t1, t2, t3⟩ := keep_tup (r := [.string (pgM (l.filter (inF (mk k) false (mk e))) n (mk e)), .int .i64 0]) s1 ho hn
  refine ⟨v, H2, (d_pages_Next (.pointer (some ⟨bm, 0, none⟩)) (.string (mk m)) (.int .i64 (n : Int)) H (r := (.tuple #[v, .string (pgM (l.filter (inF (mk k) false (mk e))) n (mk e)), .int .i64 0], H1)) ?_).trans (congrArg some t1), t2, t3, hn⟩
  have m3 : CC F.pages_page [.pointer (some ⟨bm, 0, none⟩), .string (mk k), .bool true, .string (mk e), .int .i64 (n : Int)] H = some (.tuple #[v, .string (pgM (l.filter (inF (mk k) false (mk e))) n (mk e))], H1) := m3
  simp (disch := first | with_reducible rfl | assumption | omega | rfl | (simp only [go_sem]; first | done | omega)) only [go_sem, ↓reduceIte, reduceCtorEq, Nat.reduceEqDiff, Nat.reduceAdd, Nat.reduceSub, Nat.reduceMul, Nat.reduceDiv, Nat.reduceMod, Nat.reduceLeDiff, Nat.reduceLT, Nat.reduceBEq, Int.reduceEq, Int.reduceBEq, Int.reduceBNe, Int.reduceLT, Int.reduceLE, Int.reduceAdd, Int.reduceSub, Int.reduceNeg, Int.reduceToNat, Int.reducePow, Nat.reducePow, Int.reduceMul, Int.reduceDiv, ↓s_pages_Next, ↓enterK_eq m1, enterK_eq m1, ↓enterK_eq m2, enterK_eq m2, ↓enterK_eq m3, enterK_eq m3]

end Go.Proofs.YtlkgfbcencoahaaDoor

/-
  Chapter 44: what the law asks of First and Next; cut; the law's map.
  Conditions: none. By an AI agent.
-/
set_option maxRecDepth 10000
set_option linter.unusedSimpArgs false
set_option linter.unusedVariables false
namespace Go.Proofs.YtlkgfbcencoahaaDoor
open Go Eng

theorem q_first (p : Value) (k e s : ByteArray) (n en : Int) (l : List Pr) (v w : Value) (H H' : AHeap) (h : CC F.pages_First [p, .string k, .string e, .int .i64 n] H = some (.tuple #[v, .string s, .int .i64 en], H')) (st : Still H H') (hv : Rd EPr H' v l) (hw : Rd EPr H w l) (hl : l.length ≤ 1000000) :
    CC F.law_first [p, .string k, .string e, .int .i64 n, w, .string s, .int .i64 en] H = some (.bool true, H) := by
  have m2 := q_same l l v w H' hv (hw.still st) hl
  rw [decide_eq_true rfl] at m2
  apply pure_of _ (d_law_first _ _ _ _ _ _ _ H) rfl
  rotate_left 2
  · simp (disch := first | with_reducible rfl | assumption | omega | rfl | (simp only [go_sem]; first | done | omega)) only [go_sem, ↓reduceIte, reduceCtorEq, Nat.reduceEqDiff, Nat.reduceAdd, Nat.reduceSub, Nat.reduceMul, Nat.reduceDiv, Nat.reduceMod, Nat.reduceLeDiff, Nat.reduceLT, Nat.reduceBEq, Int.reduceEq, Int.reduceBEq, Int.reduceBNe, Int.reduceLT, Int.reduceLE, Int.reduceAdd, Int.reduceSub, Int.reduceNeg, Int.reduceToNat, Int.reducePow, Nat.reducePow, Int.reduceMul, Int.reduceDiv, ↓s_law_first, ↓enterK_eq h, enterK_eq h, ↓enterK_eq m2, enterK_eq m2]
    rfl
  · exact st
theorem q_next (p : Value) (m s : ByteArray) (n en : Int) (l : List Pr) (v w : Value) (H H' : AHeap) (h : CC F.pages_Next [p, .string m, .int .i64 n] H = some (.tuple #[v, .string s, .int .i64 en], H')) (st : Still H H') (hv : Rd EPr H' v l) (hw : Rd EPr H w l) (hl : l.length ≤ 1000000) :
    CC F.law_next [p, .string m, .int .i64 n, w, .string s, .int .i64 en] H = some (.bool true, H) := by
  have m2 := q_same l l v w H' hv (hw.still st) hl
  rw [decide_eq_true rfl] at m2
  apply pure_of _ (d_law_next _ _ _ _ _ _ H) rfl
  rotate_left 2
  · simp (disch := first | with_reducible rfl | assumption | omega | rfl | (simp only [go_sem]; first | done | omega)) only [go_sem, ↓reduceIte, reduceCtorEq, Nat.reduceEqDiff, Nat.reduceAdd, Nat.reduceSub, Nat.reduceMul, Nat.reduceDiv, Nat.reduceMod, Nat.reduceLeDiff, Nat.reduceLT, Nat.reduceBEq, Int.reduceEq, Int.reduceBEq, Int.reduceBNe, Int.reduceLT, Int.reduceLE, Int.reduceAdd, Int.reduceSub, Int.reduceNeg, Int.reduceToNat, Int.reducePow, Nat.reducePow, Int.reduceMul, Int.reduceDiv, ↓s_law_next, ↓enterK_eq h, enterK_eq h, ↓enterK_eq m2, enterK_eq m2]
    rfl
  · exact st
theorem rdNil {H : AHeap} : Rd EPr H (.slice none 0 0) [] := .inl ⟨rfl, rfl⟩

/-! ### cut -/
theorem tidy_H {H : AHeap} {v : Value} : tidy H (v, H) = (v, H) := by unfold tidy; split <;> rfl
theorem q_cut (l : List Pr) (v : Value) (e : ByteArray) (n : Nat) (hn : 1 ≤ n) (H : AHeap) (hv : RdS EPr T.api_Pair H v l) (hl : l.length ≤ 20000) (hk : ∀ a ∈ l, (bl a.key).length ≤ 24) (he : (bl e).length ≤ 24) :
    ∃ v', CC F.law_cut [v, .int .i64 (n : Int), .string e] H = some (.tuple #[v', .string (pgM l n e)], H) ∧ RdS EPr T.api_Pair H v' (pgL l n) := by
  have hlen := hv.1.lenS
  unfold pgM pgL
  by_cases h : l.length ≤ n
  · have hle : (l.length : Int) ≤ (n : Int) := by omega
    rw [if_pos h, List.take_of_length_le h]
    refine ⟨v, (d_law_cut v (.int .i64 (n : Int)) (.string e) H (r := (.tuple #[v, .string (mk [])], H)) ?_).trans (congrArg some tidy_H), hv⟩
    simp (disch := first | with_reducible rfl | assumption | omega | rfl | (simp only [go_sem]; first | done | omega)) only [go_sem, ↓reduceIte, reduceCtorEq, Nat.reduceEqDiff, Nat.reduceAdd, Nat.reduceSub, Nat.reduceMul, Nat.reduceDiv, Nat.reduceMod, Nat.reduceLeDiff, Nat.reduceLT, Nat.reduceBEq, Int.reduceEq, Int.reduceBEq, Int.reduceBNe, Int.reduceLT, Int.reduceLE, Int.reduceAdd, Int.reduceSub, Int.reduceNeg, Int.reduceToNat, Int.reducePow, Nat.reducePow, Int.reduceMul, Int.reduceDiv, ↓s_law_cut, hlen, hle]
  · have hle : ¬ (l.length : Int) ≤ (n : Int) := by omega
    have hlt : n - 1 < l.length := by omega
    rw [if_neg h, lastK_eq hlt]
    obtain ⟨v', a1, r1, b1⟩ := hv.mid (sz := 2) rfl (i := 0) (j := n) (q := .i64) (q' := .i64) (by omega) (by omega)
    obtain ⟨b2, o2, ix, c0, _, hb⟩ := rd_pair hv.1 hlt (iv := (n : Int) - 1) (by omega)
    have mm := q_lmarkS e l[n - 1].key H (by omega) (by have := hk _ (List.getElem_mem hlt); omega)
    refine ⟨v', (d_law_cut v (.int .i64 (n : Int)) (.string e) H (r := (.tuple #[v', .string (marS e l[n - 1].key)], H)) ?_).trans (congrArg some tidy_H), by simpa using r1⟩
    have a1' : slS T.api_Pair 2 v none (some (.int .i64 (n : Int))) none H = some v' := a1
    simp (disch := first | with_reducible rfl | assumption | omega | rfl | (simp only [go_sem]; first | done | omega)) only [go_sem, ↓reduceIte, reduceCtorEq, Nat.reduceEqDiff, Nat.reduceAdd, Nat.reduceSub, Nat.reduceMul, Nat.reduceDiv, Nat.reduceMod, Nat.reduceLeDiff, Nat.reduceLT, Nat.reduceBEq, Int.reduceEq, Int.reduceBEq, Int.reduceBNe, Int.reduceLT, Int.reduceLE, Int.reduceAdd, Int.reduceSub, Int.reduceNeg, Int.reduceToNat, Int.reducePow, Nat.reducePow, Int.reduceMul, Int.reduceDiv, ↓s_law_cut, hlen, hle, a1', ix, c0, ↓enterK_eq mm, enterK_eq mm]

/-! ### Two keys, one behind the other -/
theorem fill2 {a b : Pr} (h : cmpS a.key b.key < 0) (ha : chk a.key [a.value] = 0) (hb : chk b.key [b.value] = 0) : fillP [a, b] = [a, b] := by
  have e1 : (putE [] a).2 = [a] := by unfold putE; rw [if_pos ha]; rfl
  show (putE (putE [] a).2 b).2 = [a, b]
  rw [e1]
  unfold putE
  rw [if_pos hb]
  have hp : posP [a] b.key = 1 := by unfold posP; rw [if_pos h]; rfl
  rw [hp]
  rfl
theorem cb_app0 : ∀ k : List UInt8, Lib.compareBytes k (k ++ [0]) < 0 := fun k => by
  refine cb_lt.1 ?_
  induction k with
  | nil => rfl
  | cons a k ih => simp [Op.bytesLess, ih]

end Go.Proofs.YtlkgfbcencoahaaDoor

/-
  Chapter 44: lists of pages; All, and what the law asks of it.
  Conditions: none. By an AI agent.
-/
set_option maxRecDepth 10000
set_option linter.unusedSimpArgs false
set_option linter.unusedVariables false
namespace Go.Proofs.YtlkgfbcencoahaaDoor
open Go Eng

/-- A slice as an element. -/
structure Sl where
  a : Option Addr
  n : Nat
  c : Nat
def Sl.v (s : Sl) : Value := .slice s.a s.n s.c
def ESl : Enc Sl := ⟨1, fun s => [s.v], fun _ => rfl, by decide, fun _ => rfl⟩

abbrev PR (H : AHeap) (v : Value) (l : List Pr) : Prop := RdS EPr T.api_Pair H v l

/-- The elements read as lists of bytes. -/
def Els (H : AHeap) : List Sl → List (List Pr) → Prop
  | [], [] => True
  | s :: sl, l :: ls => PR H s.v l ∧ Els H sl ls
  | _, _ => False
theorem Els.keep {S : Nat → Prop} {H H' : AHeap} (h : Fr S H H') : ∀ {sl : List Sl} {ls : List (List Pr)}, Els H sl ls → (∀ s ∈ sl, Off S s.v) → Els H' sl ls
  | [], [], _, _ => trivial
  | s :: sl, l :: ls, e, ho => ⟨e.1.keep h (ho s (by simp)), Els.keep h e.2 fun x hx => ho x (by simp [hx])⟩
  | [], _ :: _, e, _ => e
  | _ :: _, [], e, _ => e
theorem Els.still {H H' : AHeap} (h : Still H H') {sl : List Sl} {ls : List (List Pr)} (e : Els H sl ls) : Els H' sl ls := e.keep h fun _ _ _ _ h => h
theorem Els.len {H : AHeap} : ∀ {sl : List Sl} {ls : List (List Pr)}, Els H sl ls → sl.length = ls.length
  | [], [], _ => rfl
  | _ :: _, _ :: _, e => by simp [Els.len e.2]
  | [], _ :: _, e => e.elim
  | _ :: _, [], e => e.elim
theorem Els.at {H : AHeap} : ∀ {sl : List Sl} {ls : List (List Pr)}, Els H sl ls → ∀ {i : Nat} (h : i < sl.length) (h' : i < ls.length), PR H sl[i].v ls[i]
  | s :: sl, l :: ls, e, 0, _, _ => e.1
  | s :: sl, l :: ls, e, i + 1, h, h' => Els.at e.2 (by simpa using h) (by simpa using h')
  | [], _, _, _, h, _ => by simp at h
  | _ :: _, [], e, _, _, _ => e.elim
theorem Els.app {H : AHeap} : ∀ {sl sm : List Sl} {ls ms : List (List Pr)}, Els H sl ls → Els H sm ms → Els H (sl ++ sm) (ls ++ ms)
  | [], _, [], _, _, e => e
  | _ :: _, _, _ :: _, _, e, e' => ⟨e.1, Els.app e.2 e'⟩
  | [], _, _ :: _, _, e, _ => e.elim
  | _ :: _, _, [], _, e, _ => e.elim
theorem Els.blk {H : AHeap} : ∀ {sl : List Sl} {ls : List (List Pr)}, Els H sl ls → ∀ s ∈ sl, ∀ b, blockOf s.v = some b → b < H.n
  | s :: sl, l :: ls, e, x, hx, b, hb => by
    rcases List.mem_cons.1 hx with rfl | hx
    · rcases e.1.2 with h | ⟨b', o, n, code, h, _, _, h3⟩
      · rw [h] at hb; cases hb
      · rw [h] at hb; cases hb; exact h3
    · exact Els.blk e.2 x hx b hb
  | [], _, _, _, hx, _, _ => by simp at hx
  | _ :: _, [], e, _, _, _, _ => e.elim

/-- A slice of slices that reads as a list of lists of bytes. -/
def Rds (H : AHeap) (v : Value) (ls : List (List Pr)) : Prop := ∃ sl : List Sl, RdS ESl T.sl_api_Pair H v sl ∧ Els H sl ls
theorem Rds.still {H H' : AHeap} {v : Value} {ls : List (List Pr)} (r : Rds H v ls) (h : Still H H') : Rds H' v ls := let ⟨sl, h1, h2⟩ := r; ⟨sl, h1.still h, h2.still h⟩
theorem Rds.lenS {H : AHeap} {v : Value} {ls : List (List Pr)} (r : Rds H v ls) : lenS v = some (.int .i64 (ls.length : Int)) := by
  obtain ⟨sl, h1, h2⟩ := r
  rw [← h2.len]; exact h1.1.lenS
theorem Rds.at {H : AHeap} {v : Value} {ls : List (List Pr)} (r : Rds H v ls) {i : Nat} (hi : i < ls.length) :
    ∃ b o x, ixS 1 v (.int .i64 (i : Int)) = some (.pointer (some ⟨b, o, none⟩)) ∧ cellB (H.f b) o = some x ∧ PR H x ls[i] ∧ b < H.n ∧ blockOf v = some b := by
  obtain ⟨sl, h1, h2⟩ := r
  have hi' : i < sl.length := by rw [h2.len]; exact hi
  obtain ⟨b, o, k1, k2, k3, k4⟩ := h1.1.ix (q := .i64) hi'
  exact ⟨b, o, sl[i].v, k1, cutB_cell k3 (i := 0) (by decide), h2.at hi' hi, k2, k4⟩

/-- A row of slices of its own; no element lies in the row's own block. -/
def OwnS (H : AHeap) (v : Value) (ls : List (List Pr)) : Prop :=
  ∃ sl : List Sl, Own ESl H T.sl_api_Pair v sl ∧ Els H sl ls ∧ ∀ s ∈ sl, Off (OnlyOf v) s.v
theorem OwnS.rds {H : AHeap} {v : Value} {ls : List (List Pr)} (r : OwnS H v ls) : Rds H v ls := let ⟨sl, h1, h2, _⟩ := r; ⟨sl, h1.sl, h2⟩
theorem OwnS.nil {H : AHeap} : OwnS H (.slice none 0 0) [] := ⟨[], .inl ⟨rfl, rfl⟩, trivial, fun _ h => by simp at h⟩
theorem OwnS.still {H H' : AHeap} {v : Value} {ls : List (List Pr)} (r : OwnS H v ls) (h : Still H H') : OwnS H' v ls := let ⟨sl, h1, h2, h3⟩ := r; ⟨sl, h1.still h, h2.still h, h3⟩
theorem OwnS.len {H : AHeap} {v : Value} {ls : List (List Pr)} (r : OwnS H v ls) : Eng.lenS v = some (.int .i64 (ls.length : Int)) := r.rds.lenS

theorem PR.shape {H : AHeap} {v : Value} {l : List Pr} (r : PR H v l) : ∃ s : Sl, v = s.v := by
  obtain ⟨a, c, rfl⟩ := r.1.shape
  exact ⟨⟨a, _, c⟩, rfl⟩

/-- One more element. -/
theorem OwnS.app {H : AHeap} {v x : Value} {ls : List (List Pr)} {l : List Pr} (r : OwnS H v ls) (rx : PR H x l) (hx : Off (OnlyOf v) x) (hn : ls.length ≤ 1000000000) :
    ∃ v' H', Eng.app T.sl_api_Pair 1 24 v (srcS 1 (.slice (some ⟨H.n, 0, none⟩) 1 2) (H.push (.cells [x] T.sl_api_Pair true))) (H.push (.cells [x] T.sl_api_Pair true)) = some (v', H') ∧ OwnS H' v' (ls ++ [l]) ∧ Fr (OnlyOf v) H H' ∧
      (blockOf v' = blockOf v ∨ ∃ b, blockOf v' = some b ∧ H.n ≤ b) := by
  obtain ⟨sl, h1, h2, h3⟩ := r
  obtain ⟨s, rfl⟩ := rx.shape
  obtain ⟨H1, hH1⟩ : ∃ H1, H.push (.cells [s.v] T.sl_api_Pair true) = H1 := ⟨_, rfl⟩
  have s1 : Still H H1 := by rw [← hH1]; exact (Fr.refl H).push _
  have n1 : H1.n = H.n + 1 := by rw [← hH1]; rfl
  have f1 : H1.f H.n = .cells [s.v] T.sl_api_Pair true := by rw [← hH1]; exact push_f_eq rfl
  have hrd : Rd ESl H1 (.slice (some ⟨H.n, 0, none⟩) 1 2) [s] := .inr (.inr ⟨H.n, 0, 2, rfl, by simp, by omega, by rw [f1]; rfl⟩)
  have hll : sl.length = ls.length := h2.len
  obtain ⟨v', H', e1, e2, e3, e4⟩ := (h1.still s1).appA [s] (sz := 1) (bytes := 24) rfl (by simp; omega) (by simp; omega) (hrd.src (sz := 1) rfl)
  have hfr : Fr (OnlyOf v) H H' := s1.still.then e3 fun b hb h => h
  have hblk' : blockOf v' = blockOf v ∨ ∃ b, blockOf v' = some b ∧ H.n ≤ b := e4.imp id fun h => ⟨_, h, by omega⟩
  refine ⟨v', H', by rw [hH1]; exact e1, ⟨sl ++ [s], e2, ?_, ?_⟩, hfr, hblk'⟩
  · exact Els.app (h2.keep hfr h3) ⟨rx.keep hfr hx, trivial⟩
  · intro y hy b hb h
    have hyb : b < H.n ∧ Off (OnlyOf v) y.v := by
      rcases List.mem_append.1 hy with hy | hy
      · exact ⟨h2.blk y hy b hb, h3 y hy⟩
      · simp at hy; subst hy
        refine ⟨?_, hx⟩
        have e : Els H [y] [l] := ⟨rx, trivial⟩
        exact e.blk y (by simp) b hb
    unfold OnlyOf at h
    rcases hblk' with h4 | ⟨b', h4, h5⟩
    · exact hyb.2 b hb (by unfold OnlyOf; rw [← h4]; exact h)
    · rw [h4] at h; cases h; omega


theorem OwnS.blk {H : AHeap} {v : Value} {ls : List (List Pr)} (r : OwnS H v ls) {b : Nat} (h : blockOf v = some b) : b < H.n := by
  obtain ⟨sl, k1, _⟩ := r
  exact k1.blk h
theorem OwnS.rd_nil {H : AHeap} {v : Value} {ls : List (List Pr)} (r : OwnS H v ls) (hv : gr 8 v = true) (H' : AHeap) : OwnS H' v ls := by
  obtain ⟨sl, h1, h2, h3⟩ := r
  rcases h1 with h | ⟨_, a, rfl, _⟩ | ⟨b, o', c, xs, rfl, _⟩
  · obtain ⟨rfl, rfl⟩ := h
    cases ls with
    | nil => exact OwnS.nil
    | cons _ _ => exact h2.elim
  · simp [gr] at hv
  · simp [gr] at hv
theorem keep_tupS {H H' : AHeap} {v : Value} {ls : List (List Pr)} {r : List Value} (hs : Still H H') (ho : OwnS H' v ls) :
    ∃ H2, tidy H (.tuple ⟨v :: r⟩, H') = (.tuple ⟨v :: r⟩, H2) ∧ OwnS H2 v ls ∧ Still H H2 := by
  obtain ⟨H2, h2, h3⟩ := tidy_fr (v := .tuple ⟨v :: r⟩) hs
  refine ⟨H2, h2, ?_, h3⟩
  unfold tidy at h2
  split at h2
  · rename_i hg
    cases h2
    have hg := (Bool.and_eq_true _ _ ▸ hg : _ ∧ _).1
    simp only [gr, List.all_cons, Bool.and_eq_true] at hg
    exact ho.rd_nil hg.1 _
  · cases h2
    exact ho

/-! ### All -/
theorem okEK_of {e k : List UInt8} (h1 : k ≠ []) (h2 : k.length ≤ 24) (h3 : e.length ≤ 24) (h4 : e = [] ∨ Lib.compareBytes k e < 0) : okEK e k = true := by
  have h5 : 1 ≤ k.length := List.length_pos_iff.2 h1
  have : (e.isEmpty || decide (Lib.compareBytes k e < 0)) = true := by
    rcases h4 with h | h
    · rw [h]; rfl
    · simp [h]
  unfold okEK
  rw [this]
  simp; omega
theorem mar_len {e k : List UInt8} (he : e.length ≤ 24) (hk : k.length ≤ 24) : (marB e k).length ≤ 10000 := by
  unfold marB preB
  simp only [List.length_append, hexB_len, List.length_cons, List.length_nil]
  omega
/-- The mark of a page's last key is read as its end and that key. -/
theorem mark_rd {M : List Pr} (vk : VOk M) {k e : ByteArray} {w : Bool} {a : Pr} (ha : a ∈ M.filter (inF k w e)) (he : (bl e).length ≤ 24) : readR (marB (bl e) (bl a.key)) = some (bl e, bl a.key) ∧ (marB (bl e) (bl a.key)).length ≤ 10000 := by
  obtain ⟨h1, h2⟩ := List.mem_filter.1 ha
  obtain ⟨c1, c2, _⟩ := chk_len (vk a h1)
  have h3 : bl e = [] ∨ cmpS a.key e < 0 := by
    unfold inF at h2
    rw [Bool.and_eq_true, Bool.or_eq_true] at h2
    exact h2.2.imp of_decide_eq_true of_decide_eq_true
  exact ⟨(readR_iff _ _ _).2 ⟨rfl, okEK_of c1 c2 he h3⟩, mar_len he c2⟩
/-- The page behind a page's mark. -/
theorem next_page (bm : Nat) (M : List Pr) (sr : Srt M) (vk : VOk M) (hl : M.length ≤ 20000) (n : Nat) (hn : 1 ≤ n) (hn2 : n ≤ 32) (e : ByteArray) (he : (bl e).length ≤ 24) (H : AHeap) (r : Mdl H bm M) (a : Pr) (hr : readR (marB (bl e) (bl a.key)) = some (bl e, bl a.key) ∧ (marB (bl e) (bl a.key)).length ≤ 10000) :
    ∃ v' H', CC F.pages_Next [.pointer (some ⟨bm, 0, none⟩), .string (marS e a.key), .int .i64 (n : Int)] H = some (.tuple #[v', .string (pgM (M.filter (inF a.key false e)) n e), .int .i64 0], H') ∧ Own EPr H' T.api_Pair v' (pgL (M.filter (inF a.key false e)) n) ∧ Still H H' ∧ New H v' := by
  have := q_Next bm M (marB (bl e) (bl a.key)) hr.2 (bl e) (bl a.key) n H r hl (fun b hb => (chk_len (vk b hb)).2.1) (by omega) (by omega) hr.1
  rw [mk_bl, mk_bl] at this
  exact this

set_option maxHeartbeats 1000000 in
theorem l_All (bm : Nat) (M : List Pr) (sr : Srt M) (vk : VOk M) (hl : M.length ≤ 20000) (n : Nat) (hn : 1 ≤ n) (hn2 : n ≤ 32) (e : ByteArray) (he : (bl e).length ≤ 24) (Hz : AHeap) (rz : Mdl Hz bm M) : ∀ (f : Nat) (G : List Pr) (k : ByteArray) (w : Bool) (H : AHeap) (l out : Value) (acc : List (List Pr)), G = M.filter (inF k w e) → G.length ≤ f → Still Hz H → PR H l (pgL G n) → OwnS H out acc → (∀ d, blockOf out = some d → Hz.n ≤ d) → Off (OnlyOf out) l → acc.length + G.length ≤ 20000 →
    ∃ out' H', Still Hz H' ∧ OwnS H' out' (acc ++ chunks n f G) ∧ (∀ d, blockOf out' = some d → Hz.n ≤ d) ∧ ∀ K : K, l_pages_All_0 (.pointer (some ⟨bm, 0, none⟩)) (.int .i64 (n : Int)) l (.string (pgM G n e)) out H (blkK [13] 0 K) = K .normal [(13, out')] H'
  | f, [], k, w, H, l, out, acc, hG, hf, hs, hp, ho, hob, hoff, hlen => by
    have hlS := hp.1.lenS
    have h0 : (pgL [] n).length = 0 := by simp [pgL]
    rw [h0] at hlS
    have hc : chunks n f [] = [] := by cases f <;> simp [chunks]
    refine ⟨out, H, hs, by rw [hc, List.append_nil]; exact ho, hob, fun K => ?_⟩
    rw [r_pages_All_0]
    simp (disch := first | with_reducible rfl | assumption | omega | rfl | (simp only [go_sem]; first | done | omega)) only [go_sem, ↓reduceIte, reduceCtorEq, Nat.reduceEqDiff, Nat.reduceAdd, Nat.reduceSub, Nat.reduceMul, Nat.reduceDiv, Nat.reduceMod, Nat.reduceLeDiff, Nat.reduceLT, Nat.reduceBEq, Int.reduceEq, Int.reduceBEq, Int.reduceBNe, Int.reduceLT, Int.reduceLE, Int.reduceAdd, Int.reduceSub, Int.reduceNeg, Int.reduceToNat, Int.reducePow, Nat.reducePow, Int.reduceMul, Int.reduceDiv, ↓s_pages_All_b0, hlS, Int.natCast_zero]
  | 0, a :: G, k, w, H, l, out, acc, hG, hf, hs, hp, ho, hob, hoff, hlen => by simp at hf
  | f + 1, a :: G, k, w, H, l, out, acc, hG, hf, hs, hp, ho, hob, hoff, hlen => by
    obtain ⟨la, lc, rfl⟩ := hp.1.shape
    have hlS := hp.1.lenS
    have hpos : 0 < ((pgL (a :: G) n).length : Int) := by unfold pgL; simp; omega
    obtain ⟨o1, H1, a1, ho1, fr1, hb1⟩ := ho.app hp hoff (by omega)
    obtain ⟨H0, hH0⟩ : ∃ H0, H.push (.cells [.slice la (pgL (a :: G) n).length lc] T.sl_api_Pair true) = H0 := ⟨_, rfl⟩
    rw [hH0] at a1
    have n0 : Hz.n ≤ H.n := hs.n
    have s1 : Still Hz H1 := hs.then fr1 fun d hd h => by have := hob d h; omega
    have hob1 : ∀ d, blockOf o1 = some d → Hz.n ≤ d := fun d hd => by
      rcases hb1 with h | ⟨b, h, h2⟩
      · rw [h] at hd; exact hob d hd
      · rw [h] at hd; cases hd; omega
    have hch : chunks n (f + 1) (a :: G) = (a :: G).take n :: chunks n f ((a :: G).drop n) := by rw [chunks, if_neg (by simp)]
    have hpg : pgL (a :: G) n = (a :: G).take n := rfl
    rw [hpg] at ho1
    by_cases hle : (a :: G).length ≤ n
    · have hm : pgM (a :: G) n e = mk [] := by unfold pgM; rw [if_pos hle]
      have hd : chunks n f ((a :: G).drop n) = [] := by
        rw [List.drop_eq_nil_of_le hle]; cases f <;> simp [chunks]
      refine ⟨o1, H1, s1, by rw [hch, hd]; exact ho1, hob1, fun K => ?_⟩
      rw [hm, r_pages_All_0]
      simp (disch := first | with_reducible rfl | assumption | omega | rfl | (simp only [go_sem]; first | done | omega)) only [go_sem, ↓reduceIte, reduceCtorEq, Nat.reduceEqDiff, Nat.reduceAdd, Nat.reduceSub, Nat.reduceMul, Nat.reduceDiv, Nat.reduceMod, Nat.reduceLeDiff, Nat.reduceLT, Nat.reduceBEq, Int.reduceEq, Int.reduceBEq, Int.reduceBNe, Int.reduceLT, Int.reduceLE, Int.reduceAdd, Int.reduceSub, Int.reduceNeg, Int.reduceToNat, Int.reducePow, Nat.reducePow, Int.reduceMul, Int.reduceDiv, ↓s_pages_All_b0, hlS, hpos, hH0, a1, bl_mk]
    · have hlt : n - 1 < (a :: G).length := by omega
      have hlk : lastK (a :: G) n = (a :: G)[n - 1].key := lastK_eq hlt
      have hm : pgM (a :: G) n e = marS e (a :: G)[n - 1].key := by unfold pgM; rw [if_neg hle, hlk]
      have hmem : (a :: G)[n - 1] ∈ M.filter (inF k w e) := by rw [← hG]; exact List.getElem_mem hlt
      have hst := inF_step sr hG (n - 1) hlt
      rw [show n - 1 + 1 = n by omega] at hst
      have hrd := mark_rd vk hmem he
      generalize (a :: G)[n - 1] = z at hm hmem hst hrd
      obtain ⟨v', H2, m2, o2, s2, nw2⟩ := next_page bm M sr vk hl n hn hn2 e he H1 (rz.still s1) z hrd
      have hne : ¬ bl (marS e z.key) = [] := fun h => by
        have : (marB (bl e) (bl z.key)).length = 0 := by unfold marS at h; rw [bl_mk] at h; rw [h]; rfl
        unfold marB preB at this
        simp at this
      rw [hst] at m2 o2
      have hoff2 : Off (OnlyOf o1) v' := fun b hb h => by
        unfold OnlyOf at h
        have h1 := nw2 b hb
        have h2 := ho1.blk h
        omega
      obtain ⟨out', H', q1, q2, q3, ih⟩ := l_All bm M sr vk hl n hn hn2 e he Hz rz f ((a :: G).drop n) z.key false H2 v' o1 _ hst.symm (by simp at hf ⊢; omega) (s1.then s2 fun _ _ h => h) o2.sl (ho1.still s2) hob1 hoff2 (by simp at hlen ⊢; omega)
      refine ⟨out', H', q1, by rw [hch]; simpa using q2, q3, fun K => ?_⟩
      rw [← ih K, hm, r_pages_All_0]
      simp (disch := first | with_reducible rfl | assumption | omega | rfl | (simp only [go_sem]; first | done | omega)) only [go_sem, ↓reduceIte, reduceCtorEq, Nat.reduceEqDiff, Nat.reduceAdd, Nat.reduceSub, Nat.reduceMul, Nat.reduceDiv, Nat.reduceMod, Nat.reduceLeDiff, Nat.reduceLT, Nat.reduceBEq, Int.reduceEq, Int.reduceBEq, Int.reduceBNe, Int.reduceLT, Int.reduceLE, Int.reduceAdd, Int.reduceSub, Int.reduceNeg, Int.reduceToNat, Int.reducePow, Nat.reducePow, Int.reduceMul, Int.reduceDiv, ↓s_pages_All_b0, hlS, hpos, hH0, a1, hne, bl_mk, ↓enterK_eq m2, enterK_eq m2]

theorem q_All_bad (p : Value) (k e : ByteArray) (n en : Int) (H : AHeap) (h : CC F.pages_First [p, .string k, .string e, .int .i64 n] H = some (.tuple #[.slice none 0 0, .string (mk []), .int .i64 en], H)) (hen : ¬ en = 0) :
    CC F.pages_All [p, .string k, .string e, .int .i64 n] H = some (.tuple #[.slice none 0 0, .int .i64 en], H) := by
  apply pure_of _ (d_pages_All _ _ _ _ H) rfl
  rotate_left 2
  · simp (disch := first | with_reducible rfl | assumption | omega | rfl | (simp only [go_sem]; first | done | omega)) only [go_sem, ↓reduceIte, reduceCtorEq, Nat.reduceEqDiff, Nat.reduceAdd, Nat.reduceSub, Nat.reduceMul, Nat.reduceDiv, Nat.reduceMod, Nat.reduceLeDiff, Nat.reduceLT, Nat.reduceBEq, Int.reduceEq, Int.reduceBEq, Int.reduceBNe, Int.reduceLT, Int.reduceLE, Int.reduceAdd, Int.reduceSub, Int.reduceNeg, Int.reduceToNat, Int.reducePow, Nat.reducePow, Int.reduceMul, Int.reduceDiv, ↓s_pages_All, ↓enterK_eq h, enterK_eq h, hen]
    rfl
  · (repeat (first | exact Fr.refl _ | refine Fr.push ?_ _ | refine Fr.set ?_ _ _ (by intro h; first | omega | (simp only [go_sem] at h; omega))))

theorem q_All (bm : Nat) (M : List Pr) (sr : Srt M) (vk : VOk M) (hl : M.length ≤ 10000) (k e : ByteArray) (n : Nat) (H : AHeap) (r : Mdl H bm M) (h0 : fErr k e (n : Int) = 0) :
    ∃ v' H', CC F.pages_All [.pointer (some ⟨bm, 0, none⟩), .string k, .string e, .int .i64 (n : Int)] H = some (.tuple #[v', .int .i64 0], H') ∧ OwnS H' v' (chunks n (M.filter (inF k true e)).length (M.filter (inF k true e))) ∧ Still H H' := by
  obtain ⟨h1, h2, _, h4, _⟩ := fErr_ok h0
  obtain ⟨v, H1, m1, o1, s1, nw⟩ := q_First bm M k e n H r (by omega) (fun b hb => (chk_len (vk b hb)).2.1) h0
  have hfl := List.length_filter_le (inF k true e) M
  obtain ⟨out', H', q1, q2, q3, ih⟩ := l_All bm M sr vk (by omega) n (by omega) (by omega) e h4 H1 (r.still s1) _ _ k true H1 v (.slice none 0 0) [] rfl (Nat.le_refl _) (Fr.refl H1) o1.sl OwnS.nil (fun d h => by cases h) (fun b hb h => by unfold OnlyOf at h; cases h) (by simp; omega)
  rw [List.nil_append] at q2
  obtain ⟨H2, t1, t2, t3⟩ := keep_tupS (r := [.int .i64 0]) (s1.then q1 fun _ _ h => h) q2
  refine ⟨out', H2, (d_pages_All (.pointer (some ⟨bm, 0, none⟩)) (.string k) (.string e) (.int .i64 (n : Int)) H (r := (.tuple #[out', .int .i64 0], H')) ?_).trans (congrArg some t1), t2, t3⟩
  simp (disch := first | with_reducible rfl | assumption | omega | rfl | (simp only [go_sem]; first | done | omega)) only [go_sem, ↓reduceIte, reduceCtorEq, Nat.reduceEqDiff, Nat.reduceAdd, Nat.reduceSub, Nat.reduceMul, Nat.reduceDiv, Nat.reduceMod, Nat.reduceLeDiff, Nat.reduceLT, Nat.reduceBEq, Int.reduceEq, Int.reduceBEq, Int.reduceBNe, Int.reduceLT, Int.reduceLE, Int.reduceAdd, Int.reduceSub, Int.reduceNeg, Int.reduceToNat, Int.reducePow, Nat.reducePow, Int.reduceMul, Int.reduceDiv, ↓s_pages_All, ↓enterK_eq m1, enterK_eq m1, ih]

/-! ### alls -/
theorem l_alls (ls : List (List Pr)) (a b : Value) (H : AHeap) (ra : Rds H a ls) (rb : Rds H b ls) (hb : ∀ l ∈ ls, l.length ≤ 1000000) (hln : ls.length ≤ 1000000) : ∀ (t : List (List Pr)) (i : Nat), ls.drop i = t → ∀ K : K, l_law_alls_0 b a (.int .i64 (i : Int)) H (blkK [] 0 K) = K .normal [] H
  | [], i, hx, K => by
    have h : ls.length ≤ i := List.drop_eq_nil_iff.1 hx
    have hlt : ¬ (i : Int) < (ls.length : Int) := by omega
    have hlen := ra.lenS
    rw [r_law_alls_0]
    simp (disch := first | with_reducible rfl | assumption | omega | rfl | (simp only [go_sem]; first | done | omega)) only [go_sem, ↓reduceIte, reduceCtorEq, Nat.reduceEqDiff, Nat.reduceAdd, Nat.reduceSub, Nat.reduceMul, Nat.reduceDiv, Nat.reduceMod, Nat.reduceLeDiff, Nat.reduceLT, Nat.reduceBEq, Int.reduceEq, Int.reduceBEq, Int.reduceBNe, Int.reduceLT, Int.reduceLE, Int.reduceAdd, Int.reduceSub, Int.reduceNeg, Int.reduceToNat, Int.reducePow, Nat.reducePow, Int.reduceMul, Int.reduceDiv, ↓s_law_alls_b0, hlen, hlt]
  | x :: t, i, hx, K => by
    obtain ⟨h, hxa, hx'⟩ := drop_cons hx
    have hlt : (i : Int) < (ls.length : Int) := by omega
    have hlen := ra.lenS
    obtain ⟨b1, o1, y1, i1, c1, r1, _⟩ := ra.at h
    obtain ⟨b2, o2, y2, i2, c2, r2, _⟩ := rb.at h
    have mm := q_same _ _ y1 y2 H r1.1 r2.1 (hb _ (List.getElem_mem h))
    rw [decide_eq_true rfl] at mm
    have ih := l_alls ls a b H ra rb hb hln t (i + 1) hx' K
    rw [Int.natCast_add] at ih
    rw [← ih, r_law_alls_0]
    simp (disch := first | with_reducible rfl | assumption | omega | rfl | (simp only [go_sem]; first | done | omega)) only [go_sem, ↓reduceIte, reduceCtorEq, Nat.reduceEqDiff, Nat.reduceAdd, Nat.reduceSub, Nat.reduceMul, Nat.reduceDiv, Nat.reduceMod, Nat.reduceLeDiff, Nat.reduceLT, Nat.reduceBEq, Int.reduceEq, Int.reduceBEq, Int.reduceBNe, Int.reduceLT, Int.reduceLE, Int.reduceAdd, Int.reduceSub, Int.reduceNeg, Int.reduceToNat, Int.reducePow, Nat.reducePow, Int.reduceMul, Int.reduceDiv, ↓s_law_alls_b0, hlen, hlt, i1, c1, i2, c2, ↓enterK_eq mm, enterK_eq mm]

theorem q_alls (p : Value) (k e : ByteArray) (n en : Int) (ls : List (List Pr)) (v w : Value) (H H' : AHeap) (h : CC F.pages_All [p, .string k, .string e, .int .i64 n] H = some (.tuple #[v, .int .i64 en], H')) (st : Still H H') (hv : Rds H' v ls) (hw : Rds H w ls) (hb : ∀ l ∈ ls, l.length ≤ 1000000) (hln : ls.length ≤ 1000000) :
    CC F.law_alls [p, .string k, .string e, .int .i64 n, w, .int .i64 en] H = some (.bool true, H) := by
  have hl1 := hv.lenS
  have hl2 := (hw.still st).lenS
  have hloop := l_alls ls v w H' hv (hw.still st) hb hln ls 0 rfl
  have hloop : ∀ K : K, l_law_alls_0 w v (.int .i64 0) H' (blkK [] 0 K) = K .normal [] H' := hloop
  apply pure_of _ (d_law_alls _ _ _ _ _ _ H) rfl
  rotate_left 2
  · simp (disch := first | with_reducible rfl | assumption | omega | rfl | (simp only [go_sem]; first | done | omega)) only [go_sem, ↓reduceIte, reduceCtorEq, Nat.reduceEqDiff, Nat.reduceAdd, Nat.reduceSub, Nat.reduceMul, Nat.reduceDiv, Nat.reduceMod, Nat.reduceLeDiff, Nat.reduceLT, Nat.reduceBEq, Int.reduceEq, Int.reduceBEq, Int.reduceBNe, Int.reduceLT, Int.reduceLE, Int.reduceAdd, Int.reduceSub, Int.reduceNeg, Int.reduceToNat, Int.reducePow, Nat.reducePow, Int.reduceMul, Int.reduceDiv, ↓s_law_alls, ↓enterK_eq h, enterK_eq h, hl1, hl2, hloop]
    rfl
  · exact st
theorem rdsNil {H : AHeap} : Rds H (.slice none 0 0) [] := OwnS.nil.rds

end Go.Proofs.YtlkgfbcencoahaaDoor

/-
  The seat's functions as terms over the engine's combinators (a program of ours printed it).
  Conditions: none. By an AI agent.
-/
set_option linter.unusedVariables false
namespace Go.Proofs.YtlkgfbcencoahaaDoor
open Go Eng

/-! ticketline.ticketlinelaw44.PagesNext -/

noncomputable def s_law_PagesNext (mg : GT) (mc : CT) (ms : ST) (P : Program) (C : CallF) (L0 : Value → Value → Value → Value → Value → AHeap → K → Res) (a0 : Value) (a1 : Value) (a2 : Value) (a3 : Value) (a4 : Value) (a5 : Value) (a6 : Value) (H : AHeap) (K0 : K) : Res :=
enterK C F.law_small [a0] H fun t25 h1 =>
bareK (xun P .not t25) h1 fun t26 h2 =>
mg t26 false (fun o1 => o1 a1 h2) h2 fun t28 h3 =>
mg t26 false (fun o2 => bareK (lenT t28) h3 o2) h3 fun t29 h4 =>
mg t26 false (fun o3 => bareK (xbin P .gtr T.int (.tmp 29) (.const (.int .i64 120)) t29 (.int .i64 120)) h4 o3) h4 fun t30 h5 =>
pickK t26 (.bool true) t30 fun t31 =>
mg t31 false (fun o4 => o4 a2 h5) h5 fun t33 h6 =>
mg t31 false (fun o5 => bareK (lenT t33) h6 o5) h6 fun t34 h7 =>
mg t31 false (fun o6 => bareK (xbin P .gtr T.int (.tmp 34) (.const (.int .i64 30)) t34 (.int .i64 30)) h7 o6) h7 fun t35 h8 =>
pickK t31 (.bool true) t35 fun t36 =>
mg t36 false (fun o7 => o7 a3 h8) h8 fun t38 h9 =>
mg t36 false (fun o8 => bareK (lenT t38) h9 o8) h9 fun t39 h10 =>
mg t36 false (fun o9 => bareK (xbin P .gtr T.int (.tmp 39) (.const (.int .i64 30)) t39 (.int .i64 30)) h10 o9) h10 fun t40 h11 =>
pickK t36 (.bool true) t40 fun t41 =>
mc t41 (fun k10 => enterK C F.law_known [] h11 fun t42 h12 =>
k10 .ret [(14, t42)] h12) (fun k10 =>
k10 .normal [(0, a0), (1, a1), (2, a2), (3, a3), (4, a4), (5, a5), (6, a6)] h11) (seqK (fun tT h13 =>
enterK C F.law_filled [(get tT 0)] h13 fun t44 h14 =>
enterK C F.law_marked [(get tT 2), (get tT 3)] h14 fun t47 h15 =>
bothK (xconv P T.string T.sl_uint8 t47 h15) fun t48 h16 =>
bareK (xbin P .neq T.uint8 (.tmp 49) (.const (.int .u8 0)) (get tT 6) (.int .u8 0)) h16 fun t50 h17 =>
mc t50 (fun k11 => bothK (xconv P T.uint8 T.int (get tT 5) h17) fun t53 h18 =>
bareK (lenS t48) h18 fun t55 h19 =>
bareK (xbin P .rem T.int (.tmp 53) (.tmp 55) t53 t55) h19 fun t56 h20 =>
bareK (ixS 1 t48 t56) h20 fun t58 h21 =>
quietK (st1 h21 t58 (get tT 6)) fun _ h22 =>
k11 .normal [(1, (get tT 1)), (4, (get tT 4)), (15, t44), (16, t48)] h22) (fun k11 =>
k11 .normal [(1, (get tT 1)), (4, (get tT 4)), (15, t44), (16, t48)] h17) (seqK (fun tT_1 h23 =>
bothK (xconv P T.sl_uint8 T.string (get tT_1 16) h23) fun t61 h24 =>
bothK (bldL T.string [(.string (mk []))] 2 [(0, (get tT_1 1)), (1, t61)] h24) fun t62 h25 =>
bareK (lenS t62) h25 fun t63 h26 =>
ms (fun k12 =>
L0 (get tT_1 4) (get tT_1 15) t62 t63 (.int .i64 0) h26 (blkK [] 0 k12)) (seqK (fun tT_2 h27 =>
enterK C F.law_known [] h27 fun t135 h28 =>
K0 .ret [(14, t135)] h28) K0)) K0)) K0)

noncomputable def s_law_PagesNext_b0 (mg : GT) (mc : CT) (ms : ST) (P : Program) (C : CallF) (L0 : Value → Value → Value → Value → Value → AHeap → K → Res) (v4 : Value) (v15 : Value) (v62 : Value) (v63 : Value) (v64 : Value) (H : AHeap) (k : K) : Res :=
bareK (xbin P .lss T.int (.tmp 64) (.tmp 63) v64 v63) H fun t65 h27 =>
mc t65 (fun k13 => k13 .normal [(4, v4), (15, v15), (62, v62), (63, v63), (64, v64)] h27) (fun k13 =>
k13 (.exit 0) [(65, t65), (4, v4), (15, v15), (62, v62), (63, v63), (64, v64)] h27) (seqK (fun tT h28 =>
ms (fun k14 =>
bareK (ixS 1 (get tT 62) (get tT 64)) h28 fun t66 h29 =>
bareK (ld1 h29 t66) h29 fun t67 h30 =>
enterK C F.law_unmarked [t67] h30 fun t70 h31 =>
bareK (xextract t70 0) h31 fun t71 h32 =>
bareK (xextract t70 1) h32 fun t72 h33 =>
bareK (xextract t70 2) h33 fun t73 h34 =>
mg t73 true (fun o15 => o15 t67 h34) h34 fun t76 h35 =>
mg t73 true (fun o16 => o16 t71 h35) h35 fun t77 h36 =>
mg t73 true (fun o17 => o17 t72 h36) h36 fun t78 h37 =>
mg t73 true (fun o18 => enterK C F.law_read [t76, t77, t78, (.int .i64 0)] h37 o18) h37 fun t79 h38 =>
mg t73 true (fun o19 => bareK (xun P .not t79) h38 o19) h38 fun t80 h39 =>
pickK t73 t80 (.bool false) fun t81 =>
mg t81 false (fun o20 => o20 t73 h39) h39 fun t83 h40 =>
mg t81 false (fun o21 => bareK (xun P .not t83) h40 o21) h40 fun t84 h41 =>
mg t81 false (fun o22 => o22 t84 h41) h41 fun t85 h42 =>
mg t85 true (fun o23 => o23 t67 h42) h42 fun t86 h43 =>
mg t85 true (fun o24 => enterK C F.law_read [t86, (.string (mk [])), (.string (mk [])), (.int .i64 6)] h43 o24) h43 fun t87 h44 =>
mg t85 true (fun o25 => bareK (xun P .not t87) h44 o25) h44 fun t88 h45 =>
mg t81 false (fun o26 => pickK t85 t88 (.bool false) fun v => o26 v h45) h45 fun t89 h46 =>
pickK t81 (.bool true) t89 fun t90 =>
mg t90 false (fun o27 => o27 t67 h46) h46 fun t92 h47 =>
mg t90 false (fun o28 => o28 (get tT 4) h47) h47 fun t93 h48 =>
mg t90 false (fun o29 => enterK C F.law_next [(.pointer none), t92, t93, (.slice none 0 0), (.string (mk [])), (.int .i64 1)] h48 o29) h48 fun t94 h49 =>
mg t90 false (fun o30 => bareK (xun P .not t94) h49 o30) h49 fun t95 h50 =>
pickK t90 (.bool true) t95 fun t96 =>
mc t96 (fun k31 => k31 .ret [(14, (.bool false))] h50) (fun k31 =>
k31 .normal [(4, (get tT 4)), (15, (get tT 15)), (18, t67), (19, t71), (20, t72), (21, t73), (62, (get tT 62)), (63, (get tT 63)), (64, (get tT 64))] h50) (seqK (fun tT_1 h51 =>
ms (fun k32 =>
bareK (xbin P .lss T.int (.tmp 115) (.const (.int .i64 1)) (get tT_1 4) (.int .i64 1)) h51 fun t116 h52 =>
mg t116 false (fun o33 => o33 (get tT_1 4) h52) h52 fun t118 h53 =>
mg t116 false (fun o34 => bareK (xbin P .gtr T.int (.tmp 118) (.const (.int .i64 32)) t118 (.int .i64 32)) h53 o34) h53 fun t119 h54 =>
pickK t116 (.bool true) t119 fun t120 =>
mc t120 (fun k35 => enterK C F.law_next [(get tT_1 15), (get tT_1 18), (get tT_1 4), (.slice none 0 0), (.string (mk [])), (.int .i64 2)] h54 fun t124 h55 =>
bareK (xun P .not t124) h55 fun t125 h56 =>
mc t125 (fun k36 => k36 .ret [(14, (.bool false))] h56) (fun k36 =>
k36 .normal [(4, (get tT_1 4)), (15, (get tT_1 15)), (62, (get tT_1 62)), (63, (get tT_1 63)), (64, (get tT_1 64))] h56) (afterK [4, 15, 62, 63, 64] k35)) (fun k35 =>
bareK (xun P .not (get tT_1 21)) h54 fun t128 h57 =>
mc t128 (fun k37 => enterK C F.law_next [(get tT_1 15), (get tT_1 18), (get tT_1 4), (.slice none 0 0), (.string (mk [])), (.int .i64 6)] h57 fun t132 h58 =>
bareK (xun P .not t132) h58 fun t133 h59 =>
mc t133 (fun k38 => k38 .ret [(14, (.bool false))] h59) (fun k38 =>
k38 .normal [(4, (get tT_1 4)), (15, (get tT_1 15)), (62, (get tT_1 62)), (63, (get tT_1 63)), (64, (get tT_1 64))] h59) (afterK [4, 15, 62, 63, 64] k37)) (fun k37 =>
enterK C F.law_in [(get tT_1 15), (get tT_1 20), (.bool false), (get tT_1 19)] h57 fun t101 h60 =>
enterK C F.law_cut [t101, (get tT_1 4), (get tT_1 19)] h60 fun t104 h61 =>
bareK (xextract t104 0) h61 fun t105 h62 =>
bareK (xextract t104 1) h62 fun t106 h63 =>
enterK C F.law_next [(get tT_1 15), (get tT_1 18), (get tT_1 4), t105, t106, (.int .i64 0)] h63 fun t112 h64 =>
bareK (xun P .not t112) h64 fun t113 h65 =>
mc t113 (fun k39 => k39 .ret [(14, (.bool false))] h65) (fun k39 =>
k39 .normal [(4, (get tT_1 4)), (15, (get tT_1 15)), (62, (get tT_1 62)), (63, (get tT_1 63)), (64, (get tT_1 64))] h65) (afterK [4, 15, 62, 63, 64] k37)) (afterK [4, 15, 62, 63, 64] k35)) (blkK [4, 15, 62, 63, 64] 2 k32)) (blkK [4, 15, 62, 63, 64] 1 k14)) (blkK [4, 15, 62, 63, 64] 1 k14))) (seqK (fun tT_2 h66 =>
bareK (xbin P .add T.int (.tmp 64) (.const (.int .i64 1)) (get tT_2 64) (.int .i64 1)) h66 fun t134 h67 =>
k .normal [(4, (get tT_2 4)), (15, (get tT_2 15)), (62, (get tT_2 62)), (63, (get tT_2 63)), (64, t134)] h67) (afterK [4, 15, 62, 63, 64] k))) (afterK [4, 15, 62, 63, 64] k))

theorem s_law_PagesNext_eq (M : CombL) (C : CallF) (LP : LoopH) (a0 : Value) (a1 : Value) (a2 : Value) (a3 : Value) (a4 : Value) (a5 : Value) (a6 : Value) (H : AHeap) : dBodyL M Tryd.prog hints C LP F.law_PagesNext [a0, a1, a2, a3, a4, a5, a6] H = s_law_PagesNext M.b.g M.c M.s Tryd.prog C (fun v4 v15 v62 v63 v64 H k => loopL M Tryd.prog hints C LP F.law_PagesNext 0 [(4, v4), (15, v15), (62, v62), (63, v63), (64, v64)] H k) a0 a1 a2 a3 a4 a5 a6 H (endK Tryd.prog [.tmp 14]) := by kernel_rfl

theorem s_law_PagesNext_b0_eq (M : CombL) (C : CallF) (LP : LoopH) (v4 : Value) (v15 : Value) (v62 : Value) (v63 : Value) (v64 : Value) (H : AHeap) (k : K) : bodyL M Tryd.prog hints C LP F.law_PagesNext 0 [(4, v4), (15, v15), (62, v62), (63, v63), (64, v64)] H (afterK [4, 15, 62, 63, 64] k) = s_law_PagesNext_b0 M.b.g M.c M.s Tryd.prog C (fun v4 v15 v62 v63 v64 H k => loopL M Tryd.prog hints C LP F.law_PagesNext 0 [(4, v4), (15, v15), (62, v62), (63, v63), (64, v64)] H k) v4 v15 v62 v63 v64 H k := by kernel_rfl

end Go.Proofs.YtlkgfbcencoahaaDoor

/-
  The equations of the seat's functions over calls in the limit (a program of ours printed it).
  Conditions: none. By an AI agent.
-/
set_option linter.unusedVariables false
namespace Go.Proofs.YtlkgfbcencoahaaDoor
open Go Eng



noncomputable def l_law_PagesNext_0 (v4 : Value) (v15 : Value) (v62 : Value) (v63 : Value) (v64 : Value) (H : AHeap) (k : K) : Res := loopL stdL Tryd.prog hints CC limLP F.law_PagesNext 0 [(4, v4), (15, v15), (62, v62), (63, v63), (64, v64)] H k
theorem r_law_PagesNext_0 (v4 : Value) (v15 : Value) (v62 : Value) (v63 : Value) (v64 : Value) (H : AHeap) (k : K) : l_law_PagesNext_0 v4 v15 v62 v63 v64 H k = s_law_PagesNext_b0 guardK condL shareL Tryd.prog CC l_law_PagesNext_0 v4 v15 v62 v63 v64 H (seqK (fun T H => l_law_PagesNext_0 (get T 4) (get T 15) (get T 62) (get T 63) (get T 64) H k) k) := ((loopL_next (by kernel_rfl) rfl H k).trans (s_law_PagesNext_b0_eq stdL CC limLP v4 v15 v62 v63 v64 H _)).trans (by kernel_rfl)
theorem d_law_PagesNext (a0 : Value) (a1 : Value) (a2 : Value) (a3 : Value) (a4 : Value) (a5 : Value) (a6 : Value) (H : AHeap) {r : Value × AHeap} (h : s_law_PagesNext guardK condL shareL Tryd.prog CC l_law_PagesNext_0 a0 a1 a2 a3 a4 a5 a6 H (endK Tryd.prog [.tmp 14]) = some r) : CC F.law_PagesNext [a0, a1, a2, a3, a4, a5, a6] H = some (tidy H r) := D_body (by kernel_rfl) ((s_law_PagesNext_eq stdL CC limLP a0 a1 a2 a3 a4 a5 a6 H).trans (Eq.trans (show s_law_PagesNext stdL.b.g stdL.c stdL.s Tryd.prog CC (fun v4 v15 v62 v63 v64 H k => loopL stdL Tryd.prog hints CC limLP F.law_PagesNext 0 [(4, v4), (15, v15), (62, v62), (63, v63), (64, v64)] H k) a0 a1 a2 a3 a4 a5 a6 H (endK Tryd.prog [.tmp 14]) = s_law_PagesNext guardK condL shareL Tryd.prog CC l_law_PagesNext_0 a0 a1 a2 a3 a4 a5 a6 H (endK Tryd.prog [.tmp 14]) by kernel_rfl) h))

end Go.Proofs.YtlkgfbcencoahaaDoor

/-
  Chapter 44: PagesNext.
  Conditions: none. By an AI agent.
-/
set_option maxRecDepth 10000
set_option linter.unusedSimpArgs false
set_option linter.unusedVariables false
namespace Go.Proofs.YtlkgfbcencoahaaDoor
open Go Eng

theorem decPr2 {W : World} {H : Type} {enc : TypeId × Value → H} (_ : 0 < W.heap.size) {cs : List Value} {n : Nat} {y : DataW H × List MemPlace} (h : DataW.trod enc Tryd.prog W 0 (fun _ => true) true n T.api_Pair cs = some y) (hl : cs.length = EPr.w) :
    ∃ a : Pr, cs.map (conv2 W.heap.size) = EPr.enc a ∧ True := by
  have ht := Tryd.underlying43
  obtain ⟨c0, c1, rfl⟩ : ∃ c0 c1, cs = [c0, c1] := by
    match cs, hl with
    | [c0, c1], _ => exact ⟨_, _, rfl⟩
  obtain ⟨m0, z0, h0⟩ := dec_field ht h (i := 0) rfl rfl (by kernel_rfl) rfl
  obtain ⟨m1, z1, h1⟩ := dec_field ht h (i := 1) rfl rfl (by kernel_rfl) rfl
  obtain ⟨s0, rfl, _⟩ := dec_str Tryd.underlying9 h0
  obtain ⟨s1, rfl, _⟩ := dec_str Tryd.underlying9 h1
  exact ⟨⟨s0, s1⟩, rfl, trivial⟩
def u8 (m : Int) : UInt8 := UInt8.ofNat m.toNat
theorem u8_nat {m : Int} (h : 0 ≤ m ∧ m < 256) : ((u8 m).toNat : Int) = m := by
  unfold u8
  have : m.toNat < 256 := by omega
  rw [UInt8.toNat_ofNat_of_lt' this]
  omega
theorem wf_u8' {i : Int} (h : (Lit.int .u8 i).wf = true) : ∃ c : UInt8, i = (c.toNat : Int) := by
  simp [Lit.wf, IntKind.min, IntKind.max, IntKind.signed, IntKind.bits] at h
  exact ⟨u8 i, (u8_nat ⟨by omega, by omega⟩).symm⟩

theorem map_set' {α β : Type} (f : α → β) : ∀ (l : List α) (i : Nat) (a : α), (l.set i a).map f = (l.map f).set i (f a)
  | [], _, _ => rfl
  | _ :: _, 0, _ => rfl
  | x :: l, i + 1, a => by simp [map_set' f l i a]
theorem Own.set1 {α : Type} {E : Enc α} {H : AHeap} {e : TypeId} {v : Value} {l : List α} (f : α → Value) (hw : E.w = 1) (hcells : ∀ l : List α, E.cells l = l.map f) (ho : ∀ a, Eng.one (f a) = true) (r : Own E H e v l) {i : Nat} (hi : i < l.length) (x : α) :
    ∃ b o k, ixS 1 v (.int .i64 (i : Int)) = some (.pointer (some ⟨b, o, none⟩)) ∧ blockOf v = some b ∧ b < H.n ∧ cellB (H.f b) o = some (f l[i]) ∧ wr1 (H.f b) o (f x) = some k ∧ Own E (H.set b k) e v (l.set i x) ∧ Fr (OnlyOf v) H (H.set b k) := by
  rcases r with ⟨h, _⟩ | ⟨h, _⟩ | ⟨b, o, c, xs, rfl, hl, hb, hf, hoc, hx⟩
  · subst h; simp at hi
  · subst h; simp at hi
  · rw [hw, Nat.mul_one] at hoc
    rw [hw, Nat.mul_one, hcells] at hx
    have hlen : o + i < xs.length := by omega
    have hcell : xs[o + i]? = some (f l[i]) := by
      have : ((xs.drop o).take l.length)[i]? = (l.map f)[i]? := by rw [hx]
      rw [List.getElem?_take_of_lt hi, List.getElem?_drop, List.getElem?_map, List.getElem?_eq_getElem hi] at this
      exact this
    have hix := ixS_nat (b := b) (o := o) (sz := 1) (code := 2 * c + 1) (q := .i64) hi
    rw [Nat.mul_one] at hix
    refine ⟨b, o + i, .cells (xs.set (o + i) (f x)) e true, hix, rfl, hb, by rw [hf]; exact hcell, by rw [hf]; exact wr1_c hlen (ho x), ?_, Fr.set (Fr.refl H) _ _ fun _ => rfl⟩
    refine .inr (.inr ⟨b, o, c, xs.set (o + i) (f x), by simp, by simpa using hl, hb, set_f_eq, by simp [hw]; exact hoc, ?_⟩)
    rw [hw, Nat.mul_one, hcells, map_set', List.length_set, ← hx, List.drop_set, if_neg (by omega), List.take_set]
    congr 1
    omega

/-- One byte of a row of its own is set. -/
theorem Since.set {H0 H : AHeap} {v : Value} {l : List UInt8} (r : Since H0 H v l) {i : Nat} (hi : i < l.length) (x : UInt8) :
    ∃ b o k, ixS 1 v (.int .i64 (i : Int)) = some (.pointer (some ⟨b, o, none⟩)) ∧ cellB (H.f b) o = some (.int .u8 (l[i].toNat : Int)) ∧ wr1 (H.f b) o (.int .u8 (x.toNat : Int)) = some k ∧ Since H0 (H.set b k) v (l.set i x) := by
  obtain ⟨b, o, k, e1, e2, e3, e4, e5, e6, e7⟩ := Own.set1 byteCell rfl EB_cells (fun _ => rfl) r.own hi x
  exact ⟨b, o, k, e1, e4, e5, r.still.then e7 fun c hc h => by unfold OnlyOf at h; have := r.new c h; omega, e6, r.new⟩

/-! ### One mark -/
theorem vok_key {l : List Pr} (h : VOk l) : ∀ a ∈ l, (bl a.key).length ≤ 24 := fun a ha => (chk_len (h a ha)).2.1
theorem one_mark (s : ByteArray) (hs : (bl s).length ≤ 10000) (n : Int) (bm : Nat) (M : List Pr) (Hz H : AHeap) (fr : Fresh Hz H bm M) (v62 : Value) (ss : List ByteArray) (hr : Rd EStr H v62 ss) (i : Nat) (hi : i < ss.length) (hss : ss[i] = s) (h2 : (i : Int) < 2) :
    ∃ H', Fresh Hz H' bm M ∧ Still H H' ∧ ∀ K : K, l_law_PagesNext_0 (.int .i64 n) (.pointer (some ⟨bm, 0, none⟩)) v62 (.int .i64 2) (.int .i64 (i : Int)) H (blkK [] 0 K) = l_law_PagesNext_0 (.int .i64 n) (.pointer (some ⟨bm, 0, none⟩)) v62 (.int .i64 2) (.int .i64 ((i : Int) + 1)) H' (blkK [] 0 K) := by
  obtain ⟨b1, o1, ix, hb, hc, _⟩ := hr.ix (q := .i64) hi
  have ix : ixS 1 v62 (.int .i64 (i : Int)) = some (.pointer (some ⟨b1, o1, none⟩)) := ix
  have hc : cellB (H.f b1) o1 = some (.string ss[i]) := cutB_cell hc (i := 0) (by decide)
  rw [hss] at hc
  have mu := q_unmarked (bl s) H hs
  have mr := q_lread (bl s) [] [] 6 H hs
  have mn := q_next (.pointer none) s (mk []) n 1 [] _ (.slice none 0 0) H H (by have := q_Next_nil (bl s) n H; rwa [mk_bl] at this) (Fr.refl H) rdNil rdNil (by simp)
  rw [mk_bl] at mu mr
  unfold unmV at mu
  rw [unmR_eq] at mu
  cases hrd : readR (bl s) with
  | none =>
    rw [hrd] at mu
    have mr := mr (by unfold readV; rw [hrd])
    simp only at mu
    refine ⟨H, fr, Fr.refl H, fun K => ?_⟩
    rw [r_law_PagesNext_0]
    by_cases h : n < 1 ∨ 32 < n
    · have mx := q_next (.pointer (some ⟨bm, 0, none⟩)) s (mk []) n 2 [] _ (.slice none 0 0) H H (by have := q_Next_arg ⟨bm, 0, none⟩ (bl s) n H h; rwa [mk_bl] at this) (Fr.refl H) rdNil rdNil (by simp)
      by_cases h1 : n < 1
      · simp (disch := first | with_reducible rfl | assumption | omega | rfl | (simp only [go_sem]; first | done | omega)) only [go_sem, ↓reduceIte, reduceCtorEq, Nat.reduceEqDiff, Nat.reduceAdd, Nat.reduceSub, Nat.reduceMul, Nat.reduceDiv, Nat.reduceMod, Nat.reduceLeDiff, Nat.reduceLT, Nat.reduceBEq, Int.reduceEq, Int.reduceBEq, Int.reduceBNe, Int.reduceLT, Int.reduceLE, Int.reduceAdd, Int.reduceSub, Int.reduceNeg, Int.reduceToNat, Int.reducePow, Nat.reducePow, Int.reduceMul, Int.reduceDiv, ↓s_law_PagesNext_b0, h2, ix, hc, ↓enterK_eq mu, enterK_eq mu, ↓enterK_eq mr, enterK_eq mr, ↓enterK_eq mn, enterK_eq mn, h1, ↓enterK_eq mx, enterK_eq mx]
      · have h3 : 32 < n := by omega
        simp (disch := first | with_reducible rfl | assumption | omega | rfl | (simp only [go_sem]; first | done | omega)) only [go_sem, ↓reduceIte, reduceCtorEq, Nat.reduceEqDiff, Nat.reduceAdd, Nat.reduceSub, Nat.reduceMul, Nat.reduceDiv, Nat.reduceMod, Nat.reduceLeDiff, Nat.reduceLT, Nat.reduceBEq, Int.reduceEq, Int.reduceBEq, Int.reduceBNe, Int.reduceLT, Int.reduceLE, Int.reduceAdd, Int.reduceSub, Int.reduceNeg, Int.reduceToNat, Int.reducePow, Nat.reducePow, Int.reduceMul, Int.reduceDiv, ↓s_law_PagesNext_b0, h2, ix, hc, ↓enterK_eq mu, enterK_eq mu, ↓enterK_eq mr, enterK_eq mr, ↓enterK_eq mn, enterK_eq mn, h1, h3, ↓enterK_eq mx, enterK_eq mx]
    · have h1 : ¬ n < 1 := fun h' => h (.inl h')
      have h3 : ¬ 32 < n := fun h' => h (.inr h')
      have mx := q_next (.pointer (some ⟨bm, 0, none⟩)) s (mk []) n 6 [] _ (.slice none 0 0) H H (by have := q_Next_bad ⟨bm, 0, none⟩ (bl s) hs n H h1 h3 hrd; rwa [mk_bl] at this) (Fr.refl H) rdNil rdNil (by simp)
      simp (disch := first | with_reducible rfl | assumption | omega | rfl | (simp only [go_sem]; first | done | omega)) only [go_sem, ↓reduceIte, reduceCtorEq, Nat.reduceEqDiff, Nat.reduceAdd, Nat.reduceSub, Nat.reduceMul, Nat.reduceDiv, Nat.reduceMod, Nat.reduceLeDiff, Nat.reduceLT, Nat.reduceBEq, Int.reduceEq, Int.reduceBEq, Int.reduceBNe, Int.reduceLT, Int.reduceLE, Int.reduceAdd, Int.reduceSub, Int.reduceNeg, Int.reduceToNat, Int.reducePow, Nat.reducePow, Int.reduceMul, Int.reduceDiv, ↓s_law_PagesNext_b0, h2, ix, hc, ↓enterK_eq mu, enterK_eq mu, ↓enterK_eq mr, enterK_eq mr, ↓enterK_eq mn, enterK_eq mn, h1, h3, ↓enterK_eq mx, enterK_eq mx]
  | some ek =>
    obtain ⟨x, y⟩ := ek
    rw [hrd] at mu
    simp only at mu
    have mr := q_lread (bl s) x y 0 H hs (by unfold readV; rw [hrd])
    rw [mk_bl] at mr
    by_cases h : n < 1 ∨ 32 < n
    · have mx := q_next (.pointer (some ⟨bm, 0, none⟩)) s (mk []) n 2 [] _ (.slice none 0 0) H H (by have := q_Next_arg ⟨bm, 0, none⟩ (bl s) n H h; rwa [mk_bl] at this) (Fr.refl H) rdNil rdNil (by simp)
      refine ⟨H, fr, Fr.refl H, fun K => ?_⟩
      rw [r_law_PagesNext_0]
      by_cases h1 : n < 1
      · simp (disch := first | with_reducible rfl | assumption | omega | rfl | (simp only [go_sem]; first | done | omega)) only [go_sem, ↓reduceIte, reduceCtorEq, Nat.reduceEqDiff, Nat.reduceAdd, Nat.reduceSub, Nat.reduceMul, Nat.reduceDiv, Nat.reduceMod, Nat.reduceLeDiff, Nat.reduceLT, Nat.reduceBEq, Int.reduceEq, Int.reduceBEq, Int.reduceBNe, Int.reduceLT, Int.reduceLE, Int.reduceAdd, Int.reduceSub, Int.reduceNeg, Int.reduceToNat, Int.reducePow, Nat.reducePow, Int.reduceMul, Int.reduceDiv, ↓s_law_PagesNext_b0, h2, ix, hc, ↓enterK_eq mu, enterK_eq mu, ↓enterK_eq mr, enterK_eq mr, ↓enterK_eq mn, enterK_eq mn, h1, ↓enterK_eq mx, enterK_eq mx]
      · have h3 : 32 < n := by omega
        simp (disch := first | with_reducible rfl | assumption | omega | rfl | (simp only [go_sem]; first | done | omega)) only [go_sem, ↓reduceIte, reduceCtorEq, Nat.reduceEqDiff, Nat.reduceAdd, Nat.reduceSub, Nat.reduceMul, Nat.reduceDiv, Nat.reduceMod, Nat.reduceLeDiff, Nat.reduceLT, Nat.reduceBEq, Int.reduceEq, Int.reduceBEq, Int.reduceBNe, Int.reduceLT, Int.reduceLE, Int.reduceAdd, Int.reduceSub, Int.reduceNeg, Int.reduceToNat, Int.reducePow, Nat.reducePow, Int.reduceMul, Int.reduceDiv, ↓s_law_PagesNext_b0, h2, ix, hc, ↓enterK_eq mu, enterK_eq mu, ↓enterK_eq mr, enterK_eq mr, ↓enterK_eq mn, enterK_eq mn, h1, h3, ↓enterK_eq mx, enterK_eq mx]
    · have h1 : ¬ n < 1 := fun h' => h (.inl h')
      have h3 : ¬ 32 < n := fun h' => h (.inr h')
      obtain ⟨c, rfl⟩ : ∃ c : Nat, n = (c : Int) := ⟨n.toNat, by omega⟩
      have hok := ((readR_iff (bl s) x y).1 hrd).2
      have hx : x.length ≤ 24 := by
        simp only [okEK, Bool.and_eq_true, decide_eq_true_eq] at hok
        exact hok.1.2
      have hlen := fr.len
      obtain ⟨v1, H1, mi, o1', s1, _⟩ := q_in bm M (mk y) (mk x) false H fr.mdl hlen
      have hkk : ∀ a ∈ M.filter (inF (mk y) false (mk x)), (bl a.key).length ≤ 24 := fun a ha => vok_key fr.vok a (List.mem_filter.1 ha).1
      obtain ⟨v2, mc, r2⟩ := q_cut _ v1 (mk x) c (by omega) H1 o1'.sl (by have := List.length_filter_le (inF (mk y) false (mk x)) M; omega) hkk (by rw [bl_mk]; exact hx)
      have fr1 := fr.to s1
      obtain ⟨v3, H3, mx, o3, s3, _⟩ := q_Next bm M (bl s) hs x y c H1 fr1.mdl hlen (vok_key fr.vok) h1 h3 hrd
      rw [mk_bl] at mx
      have mx' := q_next _ _ _ _ 0 _ v3 _ H1 H3 mx s3 o3.rd r2.1 (by have := List.length_filter_le (inF (mk y) false (mk x)) M; simp [pgL]; omega)
      refine ⟨H1, fr1, s1, fun K => ?_⟩
      rw [r_law_PagesNext_0]
      simp (disch := first | with_reducible rfl | assumption | omega | rfl | (simp only [go_sem]; first | done | omega)) only [go_sem, ↓reduceIte, reduceCtorEq, Nat.reduceEqDiff, Nat.reduceAdd, Nat.reduceSub, Nat.reduceMul, Nat.reduceDiv, Nat.reduceMod, Nat.reduceLeDiff, Nat.reduceLT, Nat.reduceBEq, Int.reduceEq, Int.reduceBEq, Int.reduceBNe, Int.reduceLT, Int.reduceLE, Int.reduceAdd, Int.reduceSub, Int.reduceNeg, Int.reduceToNat, Int.reducePow, Nat.reducePow, Int.reduceMul, Int.reduceDiv, ↓s_law_PagesNext_b0, h2, ix, hc, ↓enterK_eq mu, enterK_eq mu, ↓enterK_eq mr, enterK_eq mr, ↓enterK_eq mn, enterK_eq mn, h1, h3, ↓enterK_eq mi, enterK_eq mi, ↓enterK_eq mc, enterK_eq mc, enterK_eq mx']

end Go.Proofs.YtlkgfbcencoahaaDoor

/-
  Chapter 44: what the law PagesHolds holds: a map that changes, a row of pairs, a list of pages, a set of keys.
  Conditions: none. By an AI agent.
-/
set_option maxRecDepth 10000
set_option linter.unusedSimpArgs false
set_option linter.unusedVariables false
namespace Go.Proofs.YtlkgfbcencoahaaDoor
open Go Eng

/-! ### maps read as functions -/
section
variable {α : Type} {f : α → Value} {z : α} {H : AHeap} {b : Nat} {d : ByteArray → α} {t : TypeId}
def MV (f : α → Value) (z : α) (H : AHeap) (b : Nat) (d : ByteArray → α) : Prop :=
  b < H.n ∧ ∃ (ents : List (Value × Value)) (D : List (ByteArray × α)), H.f b = .map ents ∧ Ent (fun v a => v = f a) kStr.kv ents D ∧ ∀ k, (lkp D k).getD z = d k
def updF (d : ByteArray → α) (k : ByteArray) (a : α) (j : ByteArray) : α := if k = j then a else d j
theorem MV.look (m : MapT Tryd.prog kStr t (f z)) (h : MV f z H b d) (k : ByteArray) : xlookup Tryd.prog t (.map (some b)) (.string k) false H = some (f (d k)) := by
  obtain ⟨_, ents, D, h1, h2, h3⟩ := h
  rw [← h3 k]
  cases hk : lkp D k with
  | none => exact look_none m h1 h2 hk false
  | some a =>
    obtain ⟨v, hl, hv⟩ := look_some m h1 h2 hk false
    have hv : v = f a := hv
    subst hv
    exact hl
theorem MV.upd (m : MapT Tryd.prog kStr t (f z)) (h : MV f z H b d) (k : ByteArray) (a : α) : ∃ x, xmapUpdate Tryd.prog t (.map (some b)) (.string k) (f a) H = some (H.set b x) ∧ MV f z (H.set b x) b (updF d k a) := by
  obtain ⟨h0, ents, D, h1, h2, h3⟩ := h
  refine ⟨_, upd_map m h1 h2 k (f a), h0, _, Eng.putE D k a, set_f_eq, h2.put (R := fun v a => v = f a) (k := k) (a := a) rfl, fun j => ?_⟩
  unfold updF
  rw [lkp_put]
  split
  · rfl
  · exact h3 j
theorem MV.keep {X : Nat → Prop} {H' : AHeap} (h : MV f z H b d) (fr : Fr X H H') (hx : ¬ X b) : MV f z H' b d := by
  obtain ⟨h0, ents, D, h1, h2, h3⟩ := h
  have := fr.n
  exact ⟨by omega, ents, D, by rw [fr.f h0 hx]; exact h1, h2, h3⟩
theorem MV.make (H : AHeap) : MV f z (H.push (.map [])) H.n (fun _ => z) := ⟨Nat.lt_succ_self _, [], [], push_f_eq rfl, trivial, fun _ => rfl⟩
end
theorem mtB : MapT Tryd.prog kStr T.map_string_bool (.bool false) := ⟨_, _, Tryd.underlying51, by kernel_rfl, by kernel_rfl⟩

/-! ### a list of pages beside other blocks -/
def OwnSO (S : Nat → Prop) (H : AHeap) (v : Value) (ls : List (List Pr)) : Prop :=
  ∃ sl : List Sl, Own ESl H T.sl_api_Pair v sl ∧ Els H sl ls ∧ ∀ s ∈ sl, Off (OnlyOf v) s.v ∧ Off S s.v
theorem OwnSO.own {S : Nat → Prop} {H : AHeap} {v : Value} {ls : List (List Pr)} (r : OwnSO S H v ls) : OwnS H v ls := let ⟨sl, h1, h2, h3⟩ := r; ⟨sl, h1, h2, fun s hs => (h3 s hs).1⟩
theorem OwnSO.nil {S : Nat → Prop} {H : AHeap} : OwnSO S H (.slice none 0 0) [] := ⟨[], .inl ⟨rfl, rfl⟩, trivial, fun _ h => by simp at h⟩
theorem OwnSO.step {S S' A : Nat → Prop} {H H' : AHeap} {v : Value} {ls : List (List Pr)} (r : OwnSO S H v ls) (f : Fr A H H') (hA : ∀ b, b < H.n → A b → S b) (hv : Off A v) (hS : ∀ b, b < H.n → S' b → S b) : OwnSO S' H' v ls := by
  obtain ⟨sl, h1, h2, h3⟩ := r
  refine ⟨sl, h1.keep f hv, h2.keep f fun s hs b hb h => (h3 s hs).2 b hb (hA b (h2.blk s hs b hb) h), fun s hs => ⟨(h3 s hs).1, fun b hb h => (h3 s hs).2 b hb (hS b (h2.blk s hs b hb) h)⟩⟩
theorem OwnSO.app {S S' : Nat → Prop} {H : AHeap} {v x : Value} {ls : List (List Pr)} {l : List Pr} (r : OwnSO S H v ls) (rx : PR H x l) (hx : Off (OnlyOf v) x) (hxS : Off S x) (hS : ∀ b, b < H.n → S' b → S b) (hn : ls.length ≤ 1000000000) :
    ∃ v' H', Eng.app T.sl_api_Pair 1 24 v (srcS 1 (.slice (some ⟨H.n, 0, none⟩) 1 2) (H.push (.cells [x] T.sl_api_Pair true))) (H.push (.cells [x] T.sl_api_Pair true)) = some (v', H') ∧ OwnSO S' H' v' (ls ++ [l]) ∧ Fr (OnlyOf v) H H' ∧
      (blockOf v' = blockOf v ∨ ∃ b, blockOf v' = some b ∧ H.n ≤ b) := by
  obtain ⟨sl, h1, h2, h3⟩ := r
  obtain ⟨s, rfl⟩ := rx.shape
  obtain ⟨H1, hH1⟩ : ∃ H1, H.push (.cells [s.v] T.sl_api_Pair true) = H1 := ⟨_, rfl⟩
  have s1 : Still H H1 := by rw [← hH1]; exact (Fr.refl H).push _
  have n1 : H1.n = H.n + 1 := by rw [← hH1]; rfl
  have f1 : H1.f H.n = .cells [s.v] T.sl_api_Pair true := by rw [← hH1]; exact push_f_eq rfl
  have hrd : Rd ESl H1 (.slice (some ⟨H.n, 0, none⟩) 1 2) [s] := .inr (.inr ⟨H.n, 0, 2, rfl, by simp, by omega, by rw [f1]; rfl⟩)
  have hll : sl.length = ls.length := h2.len
  obtain ⟨v', H', e1, e2, e3, e4⟩ := (h1.still s1).appA [s] (sz := 1) (bytes := 24) rfl (by simp; omega) (by simp; omega) (hrd.src (sz := 1) rfl)
  have hfr : Fr (OnlyOf v) H H' := s1.still.then e3 fun b hb h => h
  have hblk' : blockOf v' = blockOf v ∨ ∃ b, blockOf v' = some b ∧ H.n ≤ b := e4.imp id fun h => ⟨_, h, by omega⟩
  refine ⟨v', H', by rw [hH1]; exact e1, ⟨sl ++ [s], e2, ?_, ?_⟩, hfr, hblk'⟩
  · exact Els.app (h2.keep hfr fun s hs => (h3 s hs).1) ⟨rx.keep hfr hx, trivial⟩
  · intro y hy
    have hyb : ∀ b, blockOf y.v = some b → b < H.n := fun b hb => by
      rcases List.mem_append.1 hy with hy | hy
      · exact h2.blk y hy b hb
      · simp at hy; subst hy
        have e : Els H [y] [l] := ⟨rx, trivial⟩
        exact e.blk y (by simp) b hb
    have hyo : Off (OnlyOf v) y.v ∧ Off S y.v := by
      rcases List.mem_append.1 hy with hy | hy
      · exact h3 y hy
      · simp at hy; subst hy; exact ⟨hx, hxS⟩
    refine ⟨fun b hb h => ?_, fun b hb h => hyo.2 b hb (hS b (hyb b hb) h)⟩
    have hlt := hyb b hb
    unfold OnlyOf at h
    rcases hblk' with h4 | ⟨b', h4, h5⟩
    · exact hyo.1 b hb (by unfold OnlyOf; rw [← h4]; exact h)
    · rw [h4] at h; cases h; omega

/-! ### the map stays where others are turned -/
theorem mb_same {S : Nat → Prop} {H H' : AHeap} {bm : Nat} {M : List Pr} (r : Mdl H bm M) (h : Fr S H H') (hS : ∀ c, MB H bm c → ¬ S c) : Mdl H' bm M ∧ ∀ c, MB H' bm c → MB H bm c := by
  have hf : H'.f bm = H.f bm := h.f (r.blk (.inl rfl)) (hS bm (.inl rfl))
  exact ⟨r.keep h (hS bm (.inl rfl)) fun v hv c hc hs => hS c (.inr ⟨v, hv, hc⟩) hs, fun c hc => hc.imp id fun ⟨v, hv, hb⟩ => ⟨v, by rw [← hf]; exact hv, hb⟩⟩
theorem Fresh.by {S : Nat → Prop} {H0 H H' : AHeap} {bm : Nat} {M : List Pr} (r : Fresh H0 H bm M) (h : Fr S H H') (hS : ∀ c, MB H bm c → ¬ S c) (h0 : ∀ b, b < H0.n → ¬ S b) : Fresh H0 H' bm M :=
  ⟨r.still.then h fun b hb hs => h0 b hb hs, r.ok.fr h, (mb_same r.mdl h hS).1, fun c hc => r.new c ((mb_same r.mdl h hS).2 c hc), r.srt, r.len, r.vok⟩

def inT (l : List ByteArray) (k : ByteArray) : Bool := l.any fun j => decide (j = k)
theorem inT_iff {l : List ByteArray} {k : ByteArray} : inT l k = true ↔ k ∈ l := by
  unfold inT
  rw [List.any_eq_true]
  exact ⟨fun ⟨x, h1, h2⟩ => by have := of_decide_eq_true h2; subst this; exact h1, fun h => ⟨k, h, by simp⟩⟩

structure St (H0 Hz H : AHeap) (bm mt : Nat) (M acc : List Pr) (accL : List (List Pr)) (Tk : List ByteArray) (got list l : Value) (pg : List Pr) : Prop where
  fr : Fresh H0 H bm M
  h0 : H0.n ≤ Hz.n
  frz : Fr (MB Hz bm) Hz H
  mbz : ∀ b, MB H bm b → MB Hz bm b ∨ Hz.n ≤ b
  gO : Own EPr H T.api_Pair got acc
  gZ : ∀ b, blockOf got = some b → Hz.n ≤ b ∧ ¬ MB H bm b ∧ b ≠ mt
  lO : OwnSO (fun b => MB H bm b ∨ b = mt ∨ blockOf got = some b) H list accL
  lZ : ∀ b, blockOf list = some b → Hz.n ≤ b ∧ ¬ MB H bm b ∧ b ≠ mt ∧ blockOf got ≠ some b
  mtn : Hz.n ≤ mt
  mtm : ¬ MB H bm mt
  tm : MV Value.bool false H mt (inT Tk)
  pO : PR H l pg
  pZ : ∀ b, blockOf l = some b → ¬ MB H bm b ∧ b ≠ mt ∧ blockOf got ≠ some b ∧ blockOf list ≠ some b

section
variable {H0 Hz H H' : AHeap} {bm mt : Nat} {M M' acc : List Pr} {accL : List (List Pr)} {Tk : List ByteArray} {got list l l' : Value} {pg pg' : List Pr}
theorem PR.lt (r : PR H l pg) {b : Nat} (h : blockOf l = some b) : b < H.n := by
  obtain ⟨s, rfl⟩ := r.shape
  have e : Els H [s] [pg] := ⟨r, trivial⟩
  exact e.blk s (by simp) b h

theorem St.gapp (s : St H0 Hz H bm mt M acc accL Tk got list l pg) (hb : acc.length + pg.length ≤ 1000000) :
    ∃ got' H', app T.api_Pair 2 32 got (srcS 2 l H) H = some (got', H') ∧ St H0 Hz H' bm mt M (acc ++ pg) accL Tk got' list l pg := by
  obtain ⟨got', H', a1, o1, f1, b1⟩ := s.gO.appA pg (sz := 2) (bytes := 32) rfl (by omega) (by omega) (s.pO.1.src (sz := 2) rfl)
  have hS : ∀ c, MB H bm c → ¬ OnlyOf got c := fun c hc h => (s.gZ c h).2.1 hc
  obtain ⟨_, hm⟩ := mb_same s.fr.mdl f1 hS
  have hz : Hz.n ≤ H.n := s.frz.n
  have hnb : ∀ b, blockOf got' = some b → blockOf got = some b ∨ b = H.n := fun b h => by
    rcases b1 with h1 | h1
    · exact .inl (h1 ▸ h)
    · rw [h1] at h; cases h; exact .inr rfl
  refine ⟨got', H', a1, s.fr.by f1 hS fun b hb h => ?_, s.h0, s.frz.then f1 fun b hb h => ?_, fun b h => s.mbz b (hm b h), o1, fun b h => ?_, ?_, fun b h => ?_, s.mtn, fun h => s.mtm (hm _ h), s.tm.keep f1 fun h => (s.gZ mt h).2.2 rfl, s.pO.keep f1 fun b hb h => (s.pZ b hb).2.2.1 h, fun b h => ?_⟩
  · have := (s.gZ b h).1; have := s.h0; omega
  · have := (s.gZ b h).1; omega
  · rcases hnb b h with h1 | h1
    · obtain ⟨q1, q2, q3⟩ := s.gZ b h1
      exact ⟨q1, fun h => q2 (hm b h), q3⟩
    · subst h1
      exact ⟨hz, fun h => by have := s.fr.mdl.blk (hm _ h); omega, fun h => by have := s.tm.1; omega⟩
  · refine s.lO.step f1 (fun b hb h => .inr (.inr h)) (fun b hb h => (s.lZ b hb).2.2.2 h) fun b hb h => ?_
    rcases h with h | h | h
    · exact .inl (hm b h)
    · exact .inr (.inl h)
    · rcases hnb b h with h1 | h1
      · exact .inr (.inr h1)
      · omega
  · obtain ⟨q1, q2, q3, q4⟩ := s.lZ b h
    refine ⟨q1, fun h => q2 (hm b h), q3, fun h' => ?_⟩
    rcases hnb b h' with h1 | h1
    · exact q4 h1
    · have := s.lO.own.blk h; omega
  · obtain ⟨q1, q2, q3, q4⟩ := s.pZ b h
    refine ⟨fun h => q1 (hm b h), q2, fun h' => ?_, q4⟩
    rcases hnb b h' with h1 | h1
    · exact q3 h1
    · have := s.pO.lt h; omega

theorem St.lapp (s : St H0 Hz H bm mt M acc accL Tk got list l pg) (hb : accL.length ≤ 1000000) :
    ∃ list' H', app T.sl_api_Pair 1 24 list (srcS 1 (.slice (some ⟨H.n, 0, none⟩) 1 2) (H.push (.cells [l] T.sl_api_Pair true))) (H.push (.cells [l] T.sl_api_Pair true)) = some (list', H') ∧ St H0 Hz H' bm mt M acc (accL ++ [pg]) Tk got list' l pg := by
  have hSl : ∀ c, MB H bm c → ¬ OnlyOf list c := fun c hc h => (s.lZ c h).2.1 hc
  obtain ⟨list', H', a1, o1, f1, b1⟩ := s.lO.app (S' := fun b => b < H.n ∧ (MB H bm b ∨ b = mt ∨ blockOf got = some b)) s.pO (fun b hb h => (s.pZ b hb).2.2.2 h) (fun b hb h => by
    obtain ⟨q1, q2, q3, q4⟩ := s.pZ b hb
    rcases h with h | h | h
    · exact q1 h
    · exact q2 h
    · exact q3 h) (fun b hb h => h.2) (by omega)
  obtain ⟨_, hm⟩ := mb_same s.fr.mdl f1 hSl
  have hz : Hz.n ≤ H.n := s.frz.n
  have hnb : ∀ b, blockOf list' = some b → blockOf list = some b ∨ H.n ≤ b := fun b h => by
    rcases b1 with h1 | ⟨b', h1, h2⟩
    · exact .inl (h1 ▸ h)
    · rw [h1] at h; cases h; exact .inr h2
  refine ⟨list', H', a1, s.fr.by f1 hSl fun b hb h => ?_, s.h0, s.frz.then f1 fun b hb h => ?_, fun b h => s.mbz b (hm b h), s.gO.keep f1 fun b hb h => (s.lZ b h).2.2.2 hb, fun b h => ?_, ?_, fun b h => ?_, s.mtn, fun h => s.mtm (hm _ h), s.tm.keep f1 fun h => (s.lZ mt h).2.2.1 rfl, s.pO.keep f1 fun b hb h => (s.pZ b hb).2.2.2 h, fun b h => ?_⟩
  · have := (s.lZ b h).1; have := s.h0; omega
  · have := (s.lZ b h).1; omega
  · obtain ⟨q1, q2, q3⟩ := s.gZ b h
    exact ⟨q1, fun h => q2 (hm b h), q3⟩
  · obtain ⟨sl, k1, k2, k3⟩ := o1
    refine ⟨sl, k1, k2, fun x hx => ⟨(k3 x hx).1, fun b hb h => (k3 x hx).2 b hb ?_⟩⟩
    rcases h with h | h | h
    · exact ⟨s.fr.mdl.blk (hm b h), .inl (hm b h)⟩
    · subst h; exact ⟨s.tm.1, .inr (.inl rfl)⟩
    · exact ⟨s.gO.blk h, .inr (.inr h)⟩
  · rcases hnb b h with h1 | h1
    · obtain ⟨q1, q2, q3, q4⟩ := s.lZ b h1
      exact ⟨q1, fun h => q2 (hm b h), q3, q4⟩
    · exact ⟨by omega, fun h => by have := s.fr.mdl.blk (hm _ h); omega, fun h => by have := s.tm.1; omega, fun h => by have := s.gO.blk h; omega⟩
  · obtain ⟨q1, q2, q3, q4⟩ := s.pZ b h
    refine ⟨fun h => q1 (hm b h), q2, q3, fun h' => ?_⟩
    rcases hnb b h' with h1 | h1
    · exact q4 h1
    · have := s.pO.lt h; omega

/-- The map changes. -/
theorem St.chg (s : St H0 Hz H bm mt M acc accL Tk got list l pg) (fr' : Fresh H0 H' bm M') (u : Up H bm H') : St H0 Hz H' bm mt M' acc accL Tk got list l pg := by
  have hz : Hz.n ≤ H.n := s.frz.n
  have hn : ∀ b, b < H.n → MB H' bm b → MB H bm b := fun b hb h => by
    rcases u.mb b h with h | h
    · exact h
    · omega
  refine ⟨fr', s.h0, s.frz.then u.fr fun b hb h => ?_, fun b h => ?_, s.gO.keep u.fr fun b hb h => (s.gZ b hb).2.1 h, fun b h => ?_, ?_, fun b h => ?_, s.mtn, fun h => s.mtm (hn _ s.tm.1 h), s.tm.keep u.fr s.mtm, s.pO.keep u.fr fun b hb h => (s.pZ b hb).1 h, fun b h => ?_⟩
  · rcases s.mbz b h with h | h
    · exact h
    · omega
  · rcases u.mb b h with h | h
    · exact s.mbz b h
    · exact .inr (by omega)
  · obtain ⟨q1, q2, q3⟩ := s.gZ b h
    exact ⟨q1, fun h' => q2 (hn b (s.gO.blk h) h'), q3⟩
  · refine s.lO.step u.fr (fun b hb h => .inl h) (fun b hb h => (s.lZ b hb).2.1 h) fun b hb h => ?_
    exact h.imp (hn b hb) id
  · obtain ⟨q1, q2, q3, q4⟩ := s.lZ b h
    exact ⟨q1, fun h' => q2 (hn b (s.lO.own.blk h) h'), q3, q4⟩
  · obtain ⟨q1, q2, q3, q4⟩ := s.pZ b h
    exact ⟨fun h' => q1 (hn b (s.pO.lt h) h'), q2, q3, q4⟩

/-- A key is touched. -/
theorem St.touch (s : St H0 Hz H bm mt M acc accL Tk got list l pg) (k : ByteArray) : ∃ H', xmapUpdate Tryd.prog T.map_string_bool (.map (some mt)) (.string k) (.bool true) H = some H' ∧ St H0 Hz H' bm mt M acc accL (Tk ++ [k]) got list l pg := by
  obtain ⟨x, e1, e2⟩ := s.tm.upd mtB k true
  have f1 : Fr (fun b => b = mt) H (H.set mt x) := Fr.set (Fr.refl H) _ _ fun _ => rfl
  have hS : ∀ c, MB H bm c → ¬ c = mt := fun c hc h => s.mtm (h ▸ hc)
  obtain ⟨_, hm⟩ := mb_same s.fr.mdl f1 hS
  have hT : updF (inT Tk) k true = inT (Tk ++ [k]) := by
    funext j
    unfold updF inT
    rw [List.any_append]
    by_cases h : k = j
    · simp [h]
    · simp [h]
  rw [hT] at e2
  refine ⟨_, e1, s.fr.by f1 hS fun b hb h => ?_, s.h0, s.frz.then f1 fun b hb h => ?_, fun b h => s.mbz b (hm b h), s.gO.keep f1 fun b hb h => (s.gZ b hb).2.2 h, fun b h => ?_, ?_, fun b h => ?_, s.mtn, fun h => s.mtm (hm _ h), e2, s.pO.keep f1 fun b hb h => (s.pZ b hb).2.1 h, fun b h => ?_⟩
  · have := s.mtn; have := s.h0; omega
  · have := s.mtn; omega
  · obtain ⟨q1, q2, q3⟩ := s.gZ b h
    exact ⟨q1, fun h => q2 (hm b h), q3⟩
  · exact s.lO.step f1 (fun b hb h => .inr (.inl h)) (fun b hb h => (s.lZ b hb).2.2.1 h) fun b hb h => h.imp (hm b) id
  · obtain ⟨q1, q2, q3, q4⟩ := s.lZ b h
    exact ⟨q1, fun h => q2 (hm b h), q3, q4⟩
  · obtain ⟨q1, q2, q3, q4⟩ := s.pZ b h
    exact ⟨fun h => q1 (hm b h), q2, q3, q4⟩

/-- Another page. -/
theorem St.next (s : St H0 Hz H bm mt M acc accL Tk got list l pg) (st : Still H H') (r : PR H' l' pg') (hn : New H l') : St H0 Hz H' bm mt M acc accL Tk got list l' pg' := by
  have hS : ∀ c, MB H bm c → ¬ False := fun _ _ h => h
  obtain ⟨_, hm⟩ := mb_same s.fr.mdl st hS
  refine ⟨s.fr.to st, s.h0, s.frz.then st fun _ _ h => h.elim, fun b h => s.mbz b (hm b h), s.gO.still st, fun b h => ?_, ?_, fun b h => ?_, s.mtn, fun h => s.mtm (hm _ h), s.tm.keep st fun h => h, r, fun b h => ?_⟩
  · obtain ⟨q1, q2, q3⟩ := s.gZ b h
    exact ⟨q1, fun h => q2 (hm b h), q3⟩
  · exact s.lO.step st (fun b hb h => h.elim) (fun b hb h => h) fun b hb h => h.imp (hm b) id
  · obtain ⟨q1, q2, q3, q4⟩ := s.lZ b h
    exact ⟨q1, fun h => q2 (hm b h), q3, q4⟩
  · have hb := hn b h
    exact ⟨fun h => by have := s.fr.mdl.blk (hm _ h); omega, fun h => by have := s.tm.1; omega, fun h => by have := s.gO.blk h; omega, fun h => by have := s.lO.own.blk h; omega⟩
end

/-- The map's calls, with what they may turn. -/
theorem Fresh.putU {H0 H : AHeap} {bm : Nat} {l : List Pr} (r : Fresh H0 H bm l) (a : Pr) :
    ∃ H', CC F.model_Model_Put [.pointer (some ⟨bm, 0, none⟩), .string a.key, .string a.value] H = some (.int .i64 (putE l a).1, H') ∧ Fresh H0 H' bm (putE l a).2 ∧ Up H bm H' := by
  obtain ⟨H', e1, e2, e3⟩ := q_putM bm l a H r.ok r.mdl r.srt r.len
  exact ⟨H', e1, r.up e2 e3 (srt_putE r.srt a) (len_putE r.len a) (vok_putE r.vok a), e3⟩
theorem Fresh.delU {H0 H : AHeap} {bm : Nat} {l : List Pr} (r : Fresh H0 H bm l) (k : ByteArray) :
    ∃ H', CC F.model_Model_Delete [.pointer (some ⟨bm, 0, none⟩), .string k] H = some (getE l k, H') ∧ Fresh H0 H' bm (delE l k) ∧ Up H bm H' := by
  obtain ⟨H', e1, e2, e3⟩ := q_delM bm l k H r.ok r.mdl r.srt r.len
  exact ⟨H', e1, r.up e2 e3 (srt_delE r.srt k) (len_delE r.len k) (vok_delE r.vok k), e3⟩

end Go.Proofs.YtlkgfbcencoahaaDoor

/-
  The seat's functions as terms over the engine's combinators (a program of ours printed it).
  Conditions: none. By an AI agent.
-/
set_option linter.unusedVariables false
namespace Go.Proofs.YtlkgfbcencoahaaDoor
open Go Eng

/-! ticketline.ticketlinelaw44.PagesHolds -/

noncomputable def s_law_PagesHolds (mg : GT) (mc : CT) (ms : ST) (P : Program) (C : CallF) (L0 : Value → Value → Value → Value → Value → Value → AHeap → K → Res) (L1 : Value → Value → Value → Value → Value → Value → Value → AHeap → K → Res) (L2 : Value → Value → Value → Value → Value → Value → Value → Value → Value → Value → Value → Value → Value → AHeap → K → Res) (L3 : Value → Value → Value → Value → Value → Value → Value → Value → Value → Value → AHeap → K → Res) (L4 : Value → Value → Value → Value → Value → Value → Value → Value → Value → Value → Value → Value → AHeap → K → Res) (a0 : Value) (a1 : Value) (a2 : Value) (a3 : Value) (a4 : Value) (H : AHeap) (K0 : K) : Res :=
enterK C F.law_small [a0] H fun t26 h1 =>
bareK (xun P .not t26) h1 fun t27 h2 =>
mg t27 false (fun o1 => o1 a4 h2) h2 fun t29 h3 =>
mg t27 false (fun o2 => bareK (lenS t29) h3 o2) h3 fun t30 h4 =>
mg t27 false (fun o3 => bareK (xbin P .gtr T.int (.tmp 30) (.const (.int .i64 40)) t30 (.int .i64 40)) h4 o3) h4 fun t31 h5 =>
pickK t27 (.bool true) t31 fun t32 =>
mc t32 (fun k4 => enterK C F.law_known [] h5 fun t33 h6 =>
k4 .ret [(10, t33)] h6) (fun k4 =>
k4 .normal [(0, a0), (1, a1), (2, a2), (3, a3), (4, a4)] h5) (seqK (fun tT h7 =>
ms (fun k5 =>
L0 (get tT 0) (get tT 1) (get tT 2) (get tT 3) (get tT 4) (.int .i64 0) h7 (blkK [0, 1, 2, 3, 4] 0 k5)) (seqK (fun tT_1 h8 =>
enterK C F.law_filled [(get tT_1 0)] h8 fun t58 h9 =>
enterK C F.law_in [t58, (get tT_1 1), (.bool true), (get tT_1 2)] h9 fun t62 h10 =>
ms (fun k6 =>
L1 (get tT_1 1) (get tT_1 2) (get tT_1 3) (get tT_1 4) t58 t62 (.int .i64 0) h10 (blkK [] 2 k6)) (seqK (fun tT_2 h11 =>
enterK C F.law_known [] h11 fun t209 h12 =>
K0 .ret [(10, t209)] h12) K0)) K0)) K0)

noncomputable def s_law_PagesHolds_b0 (mg : GT) (mc : CT) (ms : ST) (P : Program) (C : CallF) (L0 : Value → Value → Value → Value → Value → Value → AHeap → K → Res) (L1 : Value → Value → Value → Value → Value → Value → Value → AHeap → K → Res) (L2 : Value → Value → Value → Value → Value → Value → Value → Value → Value → Value → Value → Value → Value → AHeap → K → Res) (L3 : Value → Value → Value → Value → Value → Value → Value → Value → Value → Value → AHeap → K → Res) (L4 : Value → Value → Value → Value → Value → Value → Value → Value → Value → Value → Value → Value → AHeap → K → Res) (v0 : Value) (v1 : Value) (v2 : Value) (v3 : Value) (v4 : Value) (v11 : Value) (H : AHeap) (k : K) : Res :=
bareK (lenS v4) H fun t36 h8 =>
bareK (xbin P .lss T.int (.tmp 34) (.tmp 36) v11 t36) h8 fun t37 h9 =>
mc t37 (fun k6 => k6 .normal [(0, v0), (1, v1), (2, v2), (3, v3), (4, v4), (11, v11)] h9) (fun k6 =>
k6 (.exit 0) [(37, t37), (36, t36), (35, v4), (34, v11), (0, v0), (1, v1), (2, v2), (3, v3), (4, v4), (11, v11)] h9) (seqK (fun tT h10 =>
ms (fun k7 =>
bareK (ixS 3 (get tT 4) (get tT 11)) h10 fun t42 h11 =>
bareK (fad 0 t42) h11 fun t43 h12 =>
bareK (ld1 h12 t43) h12 fun t44 h13 =>
bareK (lenT t44) h13 fun t45 h14 =>
bareK (xbin P .gtr T.int (.tmp 45) (.const (.int .i64 30)) t45 (.int .i64 30)) h14 fun t46 h15 =>
mg t46 false (fun o8 => o8 (get tT 4) h15) h15 fun t48 h16 =>
mg t46 false (fun o9 => o9 (get tT 11) h16) h16 fun t49 h17 =>
mg t46 false (fun o10 => bareK (ixS 3 t48 t49) h17 o10) h17 fun t50 h18 =>
mg t46 false (fun o11 => bareK (fad 1 t50) h18 o11) h18 fun t51 h19 =>
mg t46 false (fun o12 => bareK (ld1 h19 t51) h19 o12) h19 fun t52 h20 =>
mg t46 false (fun o13 => bareK (lenT t52) h20 o13) h20 fun t53 h21 =>
mg t46 false (fun o14 => bareK (xbin P .gtr T.int (.tmp 53) (.const (.int .i64 44)) t53 (.int .i64 44)) h21 o14) h21 fun t54 h22 =>
pickK t46 (.bool true) t54 fun t55 =>
mc t55 (fun k15 => enterK C F.law_known [] h22 fun t56 h23 =>
k15 .ret [(10, t56)] h23) (fun k15 =>
k15 .normal [(0, (get tT 0)), (1, (get tT 1)), (2, (get tT 2)), (3, (get tT 3)), (4, (get tT 4)), (11, (get tT 11))] h22) (blkK [0, 1, 2, 3, 4, 11] 1 k7)) (seqK (fun tT_1 h24 =>
bareK (xbin P .add T.int (.tmp 38) (.const (.int .i64 1)) (get tT_1 11) (.int .i64 1)) h24 fun t39 h25 =>
k .normal [(0, (get tT_1 0)), (1, (get tT_1 1)), (2, (get tT_1 2)), (3, (get tT_1 3)), (4, (get tT_1 4)), (11, t39)] h25) (afterK [0, 1, 2, 3, 4, 11] k))) (afterK [0, 1, 2, 3, 4, 11] k))

noncomputable def s_law_PagesHolds_b1 (mg : GT) (mc : CT) (ms : ST) (P : Program) (C : CallF) (L0 : Value → Value → Value → Value → Value → Value → AHeap → K → Res) (L1 : Value → Value → Value → Value → Value → Value → Value → AHeap → K → Res) (L2 : Value → Value → Value → Value → Value → Value → Value → Value → Value → Value → Value → Value → Value → AHeap → K → Res) (L3 : Value → Value → Value → Value → Value → Value → Value → Value → Value → Value → AHeap → K → Res) (L4 : Value → Value → Value → Value → Value → Value → Value → Value → Value → Value → Value → Value → AHeap → K → Res) (v1 : Value) (v2 : Value) (v3 : Value) (v4 : Value) (v12 : Value) (v13 : Value) (v14 : Value) (H : AHeap) (k : K) : Res :=
bareK (xbin P .lss T.int (.tmp 63) (.const (.int .i64 2)) v14 (.int .i64 2)) H fun t64 h11 =>
mc t64 (fun k7 => k7 .normal [(1, v1), (2, v2), (3, v3), (4, v4), (12, v12), (13, v13), (14, v14)] h11) (fun k7 =>
k7 (.exit 2) [(64, t64), (63, v14), (1, v1), (2, v2), (3, v3), (4, v4), (12, v12), (13, v13), (14, v14)] h11) (seqK (fun tT h12 =>
ms (fun k8 =>
enterK C F.pages_First [(get tT 12), (get tT 1), (get tT 2), (get tT 3)] h12 fun t72 h13 =>
bareK (xextract t72 0) h13 fun t73 h14 =>
bareK (xextract t72 1) h14 fun t74 h15 =>
bareK (xextract t72 2) h15 fun t75 h16 =>
bareK (xbin P .neq T.api_Errno (.tmp 76) (.const (.int .i64 0)) t75 (.int .i64 0)) h16 fun t77 h17 =>
mc t77 (fun k9 => bareK (lenS t73) h17 fun t79 h18 =>
bareK (xbin P .eql T.int (.tmp 79) (.const (.int .i64 0)) t79 (.int .i64 0)) h18 fun t80 h19 =>
mg t80 true (fun o10 => o10 t74 h19) h19 fun t82 h20 =>
mg t80 true (fun o11 => bareK (xbin P .eql T.string (.tmp 82) (.const (.string (mk []))) t82 (.string (mk []))) h20 o11) h20 fun t83 h21 =>
pickK t80 t83 (.bool false) fun t84 =>
mg t84 true (fun o12 => enterK C F.law_known [] h21 o12) h21 fun t86 h22 =>
pickK t84 t86 (.bool false) fun t87 =>
k9 .ret [(10, t87)] h22) (fun k9 =>
k9 .normal [(1, (get tT 1)), (2, (get tT 2)), (3, (get tT 3)), (4, (get tT 4)), (12, (get tT 12)), (13, (get tT 13)), (14, (get tT 14)), (15, t73), (16, t74)] h17) (seqK (fun tT_1 h23 =>
bothK (xmakeMap P T.map_string_bool none h23) fun t88 h24 =>
ms (fun k13 =>
L2 (get tT_1 1) (get tT_1 2) (get tT_1 3) (get tT_1 4) (get tT_1 12) (get tT_1 13) (get tT_1 14) (get tT_1 15) (get tT_1 16) (.slice none 0 0) (.slice none 0 0) t88 (.int .i64 0) h24 (blkK [1, 2, 3, 4, 12, 13, 14, 18, 19, 20] 4 k13)) (seqK (fun tT_2 h25 =>
bareK (xbin P .eql T.int (.tmp 157) (.const (.int .i64 0)) (get tT_2 14) (.int .i64 0)) h25 fun t158 h26 =>
mg t158 true (fun o14 => o14 (get tT_2 18) h26) h26 fun t160 h27 =>
mg t158 true (fun o15 => o15 (get tT_2 13) h27) h27 fun t161 h28 =>
mg t158 true (fun o16 => enterK C F.law_same [t160, t161] h28 o16) h28 fun t162 h29 =>
mg t158 true (fun o17 => bareK (xun P .not t162) h29 o17) h29 fun t163 h30 =>
mg t158 true (fun o18 => o18 t163 h30) h30 fun t164 h31 =>
mg t164 false (fun o19 => o19 (get tT_2 12) h31) h31 fun t165 h32 =>
mg t164 false (fun o20 => o20 (get tT_2 1) h32) h32 fun t166 h33 =>
mg t164 false (fun o21 => o21 (get tT_2 2) h33) h33 fun t167 h34 =>
mg t164 false (fun o22 => o22 (get tT_2 3) h34) h34 fun t168 h35 =>
mg t164 false (fun o23 => o23 (get tT_2 19) h35) h35 fun t169 h36 =>
mg t164 false (fun o24 => enterK C F.law_alls [t165, t166, t167, t168, t169, (.int .i64 0)] h36 o24) h36 fun t170 h37 =>
mg t164 false (fun o25 => bareK (xun P .not t170) h37 o25) h37 fun t171 h38 =>
mg t158 true (fun o26 => pickK t164 (.bool true) t171 fun v => o26 v h38) h38 fun t172 h39 =>
pickK t158 t172 (.bool false) fun t173 =>
mc t173 (fun k27 => k27 .ret [(10, (.bool false))] h39) (fun k27 =>
k27 .normal [(1, (get tT_2 1)), (2, (get tT_2 2)), (3, (get tT_2 3)), (4, (get tT_2 4)), (12, (get tT_2 12)), (13, (get tT_2 13)), (14, (get tT_2 14)), (18, (get tT_2 18)), (20, (get tT_2 20))] h39) (seqK (fun tT_3 h40 =>
ms (fun k28 =>
L3 (get tT_3 1) (get tT_3 2) (get tT_3 3) (get tT_3 4) (get tT_3 12) (get tT_3 13) (get tT_3 14) (get tT_3 18) (get tT_3 20) (.int .i64 0) h40 (blkK [1, 2, 3, 4, 12, 13, 14] 6 k28)) (blkK [1, 2, 3, 4, 12, 13, 14] 3 k8)) (blkK [1, 2, 3, 4, 12, 13, 14] 3 k8))) (blkK [1, 2, 3, 4, 12, 13, 14] 3 k8))) (blkK [1, 2, 3, 4, 12, 13, 14] 3 k8))) (seqK (fun tT_4 h41 =>
bareK (xbin P .add T.int (.tmp 65) (.const (.int .i64 1)) (get tT_4 14) (.int .i64 1)) h41 fun t66 h42 =>
k .normal [(1, (get tT_4 1)), (2, (get tT_4 2)), (3, (get tT_4 3)), (4, (get tT_4 4)), (12, (get tT_4 12)), (13, (get tT_4 13)), (14, t66)] h42) (afterK [1, 2, 3, 4, 12, 13, 14] k))) (afterK [1, 2, 3, 4, 12, 13, 14] k))

noncomputable def s_law_PagesHolds_b2 (mg : GT) (mc : CT) (ms : ST) (P : Program) (C : CallF) (L0 : Value → Value → Value → Value → Value → Value → AHeap → K → Res) (L1 : Value → Value → Value → Value → Value → Value → Value → AHeap → K → Res) (L2 : Value → Value → Value → Value → Value → Value → Value → Value → Value → Value → Value → Value → Value → AHeap → K → Res) (L3 : Value → Value → Value → Value → Value → Value → Value → Value → Value → Value → AHeap → K → Res) (L4 : Value → Value → Value → Value → Value → Value → Value → Value → Value → Value → Value → Value → AHeap → K → Res) (v1 : Value) (v2 : Value) (v3 : Value) (v4 : Value) (v12 : Value) (v13 : Value) (v14 : Value) (v15 : Value) (v16 : Value) (v18 : Value) (v19 : Value) (v20 : Value) (v21 : Value) (H : AHeap) (k : K) : Res :=
bareK (xbin P .lss T.int (.tmp 89) (.const (.int .i64 100)) v21 (.int .i64 100)) H fun t90 h25 =>
mc t90 (fun k14 => k14 .normal [(1, v1), (2, v2), (3, v3), (4, v4), (12, v12), (13, v13), (14, v14), (15, v15), (16, v16), (18, v18), (19, v19), (20, v20), (21, v21)] h25) (fun k14 =>
k14 (.exit 4) [(90, t90), (89, v21), (1, v1), (2, v2), (3, v3), (4, v4), (12, v12), (13, v13), (14, v14), (15, v15), (16, v16), (18, v18), (19, v19), (20, v20), (21, v21)] h25) (seqK (fun tT h26 =>
ms (fun k15 =>
bothK (app T.api_Pair 2 32 (get tT 18) (srcS 2 (get tT 15) h26) h26) fun t95 h27 =>
bareK (lenS (get tT 15)) h27 fun t97 h28 =>
bareK (xbin P .gtr T.int (.tmp 97) (.const (.int .i64 0)) t97 (.int .i64 0)) h28 fun t98 h29 =>
mc t98 (fun k16 => bothK (bldL T.sl_api_Pair [(.slice none 0 0)] 1 [(0, (get tT 15))] h29) fun t101 h30 =>
bothK (app T.sl_api_Pair 1 24 (get tT 19) (srcS 1 t101 h30) h30) fun t102 h31 =>
k16 .normal [(1, (get tT 1)), (2, (get tT 2)), (3, (get tT 3)), (4, (get tT 4)), (12, (get tT 12)), (13, (get tT 13)), (14, (get tT 14)), (15, (get tT 15)), (16, (get tT 16)), (18, t95), (19, t102), (20, (get tT 20)), (21, (get tT 21))] h31) (fun k16 =>
k16 .normal [(1, (get tT 1)), (2, (get tT 2)), (3, (get tT 3)), (4, (get tT 4)), (12, (get tT 12)), (13, (get tT 13)), (14, (get tT 14)), (15, (get tT 15)), (16, (get tT 16)), (18, t95), (19, (get tT 19)), (20, (get tT 20)), (21, (get tT 21))] h29) (seqK (fun tT_1 h32 =>
bareK (xbin P .eql T.string (.tmp 103) (.const (.string (mk []))) (get tT_1 16) (.string (mk []))) h32 fun t104 h33 =>
mc t104 (fun k17 => k17 (.exit 4) ((104, t104) :: (103, (get tT_1 16)) :: tT_1) h33) (fun k17 =>
k17 .normal [(1, (get tT_1 1)), (2, (get tT_1 2)), (3, (get tT_1 3)), (4, (get tT_1 4)), (12, (get tT_1 12)), (13, (get tT_1 13)), (14, (get tT_1 14)), (15, (get tT_1 15)), (16, (get tT_1 16)), (18, (get tT_1 18)), (19, (get tT_1 19)), (20, (get tT_1 20)), (21, (get tT_1 21))] h33) (seqK (fun tT_2 h34 =>
bareK (lenS (get tT_2 15)) h34 fun t106 h35 =>
bareK (xbin P .neq T.int (.tmp 106) (.tmp 107) t106 (get tT_2 3)) h35 fun t108 h36 =>
mc t108 (fun k18 => k18 .ret [(10, (.bool false))] h36) (fun k18 =>
k18 .normal [(1, (get tT_2 1)), (2, (get tT_2 2)), (3, (get tT_2 3)), (4, (get tT_2 4)), (12, (get tT_2 12)), (13, (get tT_2 13)), (14, (get tT_2 14)), (16, (get tT_2 16)), (18, (get tT_2 18)), (19, (get tT_2 19)), (20, (get tT_2 20)), (21, (get tT_2 21))] h36) (seqK (fun tT_3 h37 =>
bareK (xbin P .eql T.int (.tmp 109) (.const (.int .i64 1)) (get tT_3 14) (.int .i64 1)) h37 fun t110 h38 =>
mg t110 true (fun o19 => o19 (get tT_3 21) h38) h38 fun t112 h39 =>
mg t110 true (fun o20 => o20 (get tT_3 4) h39) h39 fun t113 h40 =>
mg t110 true (fun o21 => bareK (lenS t113) h40 o21) h40 fun t114 h41 =>
mg t110 true (fun o22 => bareK (xbin P .lss T.int (.tmp 112) (.tmp 114) t112 t114) h41 o22) h41 fun t115 h42 =>
pickK t110 t115 (.bool false) fun t116 =>
mc t116 (fun k23 => bareK (ixS 3 (get tT_3 4) (get tT_3 21)) h42 fun t120 h43 =>
bareK (fad 0 t120) h43 fun t121 h44 =>
bareK (ld1 h44 t121) h44 fun t122 h45 =>
quietK (xmapUpdate P T.map_string_bool (get tT_3 20) t122 (.bool true) h45) fun _ h46 =>
bareK (ixS 3 (get tT_3 4) (get tT_3 21)) h46 fun t125 h47 =>
bareK (fad 2 t125) h47 fun t126 h48 =>
bareK (ld1 h48 t126) h48 fun t127 h49 =>
mc t127 (fun k24 => bareK (ixS 3 (get tT_3 4) (get tT_3 21)) h49 fun t131 h50 =>
bareK (fad 0 t131) h50 fun t132 h51 =>
bareK (ld1 h51 t132) h51 fun t133 h52 =>
enterK C F.model_Model_Delete [(get tT_3 12), t133] h52 fun t134 h53 =>
k24 .normal [(1, (get tT_3 1)), (2, (get tT_3 2)), (3, (get tT_3 3)), (4, (get tT_3 4)), (12, (get tT_3 12)), (13, (get tT_3 13)), (14, (get tT_3 14)), (16, (get tT_3 16)), (18, (get tT_3 18)), (19, (get tT_3 19)), (20, (get tT_3 20)), (21, (get tT_3 21))] h53) (fun k24 =>
bareK (ixS 3 (get tT_3 4) (get tT_3 21)) h49 fun t138 h54 =>
bareK (fad 0 t138) h54 fun t139 h55 =>
bareK (ld1 h55 t139) h55 fun t140 h56 =>
bareK (ixS 3 (get tT_3 4) (get tT_3 21)) h56 fun t143 h57 =>
bareK (fad 1 t143) h57 fun t144 h58 =>
bareK (ld1 h58 t144) h58 fun t145 h59 =>
enterK C F.model_Model_Put [(get tT_3 12), t140, t145] h59 fun t146 h60 =>
checkK true <|
k24 .normal [(1, (get tT_3 1)), (2, (get tT_3 2)), (3, (get tT_3 3)), (4, (get tT_3 4)), (12, (get tT_3 12)), (13, (get tT_3 13)), (14, (get tT_3 14)), (16, (get tT_3 16)), (18, (get tT_3 18)), (19, (get tT_3 19)), (20, (get tT_3 20)), (21, (get tT_3 21))] h60) (afterK [1, 2, 3, 4, 12, 13, 14, 16, 18, 19, 20, 21] k23)) (fun k23 =>
k23 .normal [(1, (get tT_3 1)), (2, (get tT_3 2)), (3, (get tT_3 3)), (4, (get tT_3 4)), (12, (get tT_3 12)), (13, (get tT_3 13)), (14, (get tT_3 14)), (16, (get tT_3 16)), (18, (get tT_3 18)), (19, (get tT_3 19)), (20, (get tT_3 20)), (21, (get tT_3 21))] h42) (seqK (fun tT_4 h61 =>
enterK C F.pages_Next [(get tT_4 12), (get tT_4 16), (get tT_4 3)] h61 fun t151 h62 =>
bareK (xextract t151 0) h62 fun t152 h63 =>
bareK (xextract t151 1) h63 fun t153 h64 =>
bareK (xextract t151 2) h64 fun t154 h65 =>
bareK (xbin P .neq T.api_Errno (.tmp 155) (.const (.int .i64 0)) t154 (.int .i64 0)) h65 fun t156 h66 =>
mc t156 (fun k25 => k25 .ret [(10, (.bool false))] h66) (fun k25 =>
k25 .normal [(1, (get tT_4 1)), (2, (get tT_4 2)), (3, (get tT_4 3)), (4, (get tT_4 4)), (12, (get tT_4 12)), (13, (get tT_4 13)), (14, (get tT_4 14)), (15, t152), (16, t153), (18, (get tT_4 18)), (19, (get tT_4 19)), (20, (get tT_4 20)), (21, (get tT_4 21))] h66) (blkK [1, 2, 3, 4, 12, 13, 14, 15, 16, 18, 19, 20, 21] 5 k15)) (blkK [1, 2, 3, 4, 12, 13, 14, 15, 16, 18, 19, 20, 21] 5 k15))) (blkK [1, 2, 3, 4, 12, 13, 14, 15, 16, 18, 19, 20, 21] 5 k15))) (blkK [1, 2, 3, 4, 12, 13, 14, 15, 16, 18, 19, 20, 21] 5 k15))) (blkK [1, 2, 3, 4, 12, 13, 14, 15, 16, 18, 19, 20, 21] 5 k15))) (seqK (fun tT_5 h67 =>
bareK (xbin P .add T.int (.tmp 91) (.const (.int .i64 1)) (get tT_5 21) (.int .i64 1)) h67 fun t92 h68 =>
k .normal [(1, (get tT_5 1)), (2, (get tT_5 2)), (3, (get tT_5 3)), (4, (get tT_5 4)), (12, (get tT_5 12)), (13, (get tT_5 13)), (14, (get tT_5 14)), (15, (get tT_5 15)), (16, (get tT_5 16)), (18, (get tT_5 18)), (19, (get tT_5 19)), (20, (get tT_5 20)), (21, t92)] h68) (afterK [1, 2, 3, 4, 12, 13, 14, 15, 16, 18, 19, 20, 21] k))) (afterK [1, 2, 3, 4, 12, 13, 14, 15, 16, 18, 19, 20, 21] k))

noncomputable def s_law_PagesHolds_b3 (mg : GT) (mc : CT) (ms : ST) (P : Program) (C : CallF) (L0 : Value → Value → Value → Value → Value → Value → AHeap → K → Res) (L1 : Value → Value → Value → Value → Value → Value → Value → AHeap → K → Res) (L2 : Value → Value → Value → Value → Value → Value → Value → Value → Value → Value → Value → Value → Value → AHeap → K → Res) (L3 : Value → Value → Value → Value → Value → Value → Value → Value → Value → Value → AHeap → K → Res) (L4 : Value → Value → Value → Value → Value → Value → Value → Value → Value → Value → Value → Value → AHeap → K → Res) (v1 : Value) (v2 : Value) (v3 : Value) (v4 : Value) (v12 : Value) (v13 : Value) (v14 : Value) (v18 : Value) (v20 : Value) (v22 : Value) (H : AHeap) (k : K) : Res :=
bareK (lenS v13) H fun t176 h41 =>
bareK (xbin P .lss T.int (.tmp 174) (.tmp 176) v22 t176) h41 fun t177 h42 =>
mc t177 (fun k29 => k29 .normal [(1, v1), (2, v2), (3, v3), (4, v4), (12, v12), (13, v13), (14, v14), (18, v18), (20, v20), (22, v22)] h42) (fun k29 =>
k29 (.exit 6) [(177, t177), (176, t176), (175, v13), (174, v22), (1, v1), (2, v2), (3, v3), (4, v4), (12, v12), (13, v13), (14, v14), (18, v18), (20, v20), (22, v22)] h42) (seqK (fun tT h43 =>
ms (fun k30 =>
ms (fun k31 =>
L4 (get tT 1) (get tT 2) (get tT 3) (get tT 4) (get tT 12) (get tT 13) (get tT 14) (get tT 18) (get tT 20) (get tT 22) (.int .i64 0) (.int .i64 0) h43 (blkK [1, 2, 3, 4, 12, 13, 14, 18, 20, 22, 23] 8 k31)) (seqK (fun tT_1 h44 =>
bareK (xbin P .neq T.int (.tmp 197) (.const (.int .i64 1)) (get tT_1 23) (.int .i64 1)) h44 fun t198 h45 =>
mg t198 true (fun o32 => o32 (get tT_1 20) h45) h45 fun t200 h46 =>
mg t198 true (fun o33 => o33 (get tT_1 13) h46) h46 fun t201 h47 =>
mg t198 true (fun o34 => o34 (get tT_1 22) h47) h47 fun t202 h48 =>
mg t198 true (fun o35 => bareK (ixS 2 t201 t202) h48 o35) h48 fun t203 h49 =>
mg t198 true (fun o36 => bareK (fad 0 t203) h49 o36) h49 fun t204 h50 =>
mg t198 true (fun o37 => bareK (ld1 h50 t204) h50 o37) h50 fun t205 h51 =>
mg t198 true (fun o38 => bareK (xlookup P T.map_string_bool t200 t205 false h51) h51 o38) h51 fun t206 h52 =>
mg t198 true (fun o39 => bareK (xun P .not t206) h52 o39) h52 fun t207 h53 =>
pickK t198 t207 (.bool false) fun t208 =>
mc t208 (fun k40 => k40 .ret [(10, (.bool false))] h53) (fun k40 =>
k40 .normal [(1, (get tT_1 1)), (2, (get tT_1 2)), (3, (get tT_1 3)), (4, (get tT_1 4)), (12, (get tT_1 12)), (13, (get tT_1 13)), (14, (get tT_1 14)), (18, (get tT_1 18)), (20, (get tT_1 20)), (22, (get tT_1 22))] h53) (blkK [1, 2, 3, 4, 12, 13, 14, 18, 20, 22] 7 k30)) (blkK [1, 2, 3, 4, 12, 13, 14, 18, 20, 22] 7 k30))) (seqK (fun tT_2 h54 =>
bareK (xbin P .add T.int (.tmp 178) (.const (.int .i64 1)) (get tT_2 22) (.int .i64 1)) h54 fun t179 h55 =>
k .normal [(1, (get tT_2 1)), (2, (get tT_2 2)), (3, (get tT_2 3)), (4, (get tT_2 4)), (12, (get tT_2 12)), (13, (get tT_2 13)), (14, (get tT_2 14)), (18, (get tT_2 18)), (20, (get tT_2 20)), (22, t179)] h55) (afterK [1, 2, 3, 4, 12, 13, 14, 18, 20, 22] k))) (afterK [1, 2, 3, 4, 12, 13, 14, 18, 20, 22] k))

noncomputable def s_law_PagesHolds_b4 (mg : GT) (mc : CT) (ms : ST) (P : Program) (C : CallF) (L0 : Value → Value → Value → Value → Value → Value → AHeap → K → Res) (L1 : Value → Value → Value → Value → Value → Value → Value → AHeap → K → Res) (L2 : Value → Value → Value → Value → Value → Value → Value → Value → Value → Value → Value → Value → Value → AHeap → K → Res) (L3 : Value → Value → Value → Value → Value → Value → Value → Value → Value → Value → AHeap → K → Res) (L4 : Value → Value → Value → Value → Value → Value → Value → Value → Value → Value → Value → Value → AHeap → K → Res) (v1 : Value) (v2 : Value) (v3 : Value) (v4 : Value) (v12 : Value) (v13 : Value) (v14 : Value) (v18 : Value) (v20 : Value) (v22 : Value) (v23 : Value) (v24 : Value) (H : AHeap) (k : K) : Res :=
bareK (lenS v18) H fun t182 h44 =>
bareK (xbin P .lss T.int (.tmp 180) (.tmp 182) v24 t182) h44 fun t183 h45 =>
mc t183 (fun k32 => k32 .normal [(1, v1), (2, v2), (3, v3), (4, v4), (12, v12), (13, v13), (14, v14), (18, v18), (20, v20), (22, v22), (23, v23), (24, v24)] h45) (fun k32 =>
k32 (.exit 8) [(183, t183), (182, t182), (181, v18), (180, v24), (1, v1), (2, v2), (3, v3), (4, v4), (12, v12), (13, v13), (14, v14), (18, v18), (20, v20), (22, v22), (23, v23), (24, v24)] h45) (seqK (fun tT h46 =>
ms (fun k33 =>
bareK (ixS 2 (get tT 18) (get tT 24)) h46 fun t188 h47 =>
bareK (ldN 2 h47 t188) h47 fun t189 h48 =>
bareK (ixS 2 (get tT 13) (get tT 22)) h48 fun t192 h49 =>
bareK (ldN 2 h49 t192) h49 fun t193 h50 =>
bareK (xbin P .eql T.api_Pair (.tmp 189) (.tmp 193) t189 t193) h50 fun t194 h51 =>
checkK true <|
mc t194 (fun k34 => bareK (xbin P .add T.int (.tmp 195) (.const (.int .i64 1)) (get tT 23) (.int .i64 1)) h51 fun t196 h52 =>
k34 .normal [(1, (get tT 1)), (2, (get tT 2)), (3, (get tT 3)), (4, (get tT 4)), (12, (get tT 12)), (13, (get tT 13)), (14, (get tT 14)), (18, (get tT 18)), (20, (get tT 20)), (22, (get tT 22)), (23, t196), (24, (get tT 24))] h52) (fun k34 =>
k34 .normal [(1, (get tT 1)), (2, (get tT 2)), (3, (get tT 3)), (4, (get tT 4)), (12, (get tT 12)), (13, (get tT 13)), (14, (get tT 14)), (18, (get tT 18)), (20, (get tT 20)), (22, (get tT 22)), (23, (get tT 23)), (24, (get tT 24))] h51) (blkK [1, 2, 3, 4, 12, 13, 14, 18, 20, 22, 23, 24] 9 k33)) (seqK (fun tT_1 h53 =>
bareK (xbin P .add T.int (.tmp 184) (.const (.int .i64 1)) (get tT_1 24) (.int .i64 1)) h53 fun t185 h54 =>
k .normal [(1, (get tT_1 1)), (2, (get tT_1 2)), (3, (get tT_1 3)), (4, (get tT_1 4)), (12, (get tT_1 12)), (13, (get tT_1 13)), (14, (get tT_1 14)), (18, (get tT_1 18)), (20, (get tT_1 20)), (22, (get tT_1 22)), (23, (get tT_1 23)), (24, t185)] h54) (afterK [1, 2, 3, 4, 12, 13, 14, 18, 20, 22, 23, 24] k))) (afterK [1, 2, 3, 4, 12, 13, 14, 18, 20, 22, 23, 24] k))

theorem s_law_PagesHolds_eq (M : CombL) (C : CallF) (LP : LoopH) (a0 : Value) (a1 : Value) (a2 : Value) (a3 : Value) (a4 : Value) (H : AHeap) : dBodyL M Tryd.prog hints C LP F.law_PagesHolds [a0, a1, a2, a3, a4] H = s_law_PagesHolds M.b.g M.c M.s Tryd.prog C (fun v0 v1 v2 v3 v4 v11 H k => loopL M Tryd.prog hints C LP F.law_PagesHolds 0 [(0, v0), (1, v1), (2, v2), (3, v3), (4, v4), (11, v11)] H k) (fun v1 v2 v3 v4 v12 v13 v14 H k => loopL M Tryd.prog hints C LP F.law_PagesHolds 1 [(1, v1), (2, v2), (3, v3), (4, v4), (12, v12), (13, v13), (14, v14)] H k) (fun v1 v2 v3 v4 v12 v13 v14 v15 v16 v18 v19 v20 v21 H k => loopL M Tryd.prog hints C LP F.law_PagesHolds 2 [(1, v1), (2, v2), (3, v3), (4, v4), (12, v12), (13, v13), (14, v14), (15, v15), (16, v16), (18, v18), (19, v19), (20, v20), (21, v21)] H k) (fun v1 v2 v3 v4 v12 v13 v14 v18 v20 v22 H k => loopL M Tryd.prog hints C LP F.law_PagesHolds 3 [(1, v1), (2, v2), (3, v3), (4, v4), (12, v12), (13, v13), (14, v14), (18, v18), (20, v20), (22, v22)] H k) (fun v1 v2 v3 v4 v12 v13 v14 v18 v20 v22 v23 v24 H k => loopL M Tryd.prog hints C LP F.law_PagesHolds 4 [(1, v1), (2, v2), (3, v3), (4, v4), (12, v12), (13, v13), (14, v14), (18, v18), (20, v20), (22, v22), (23, v23), (24, v24)] H k) a0 a1 a2 a3 a4 H (endK Tryd.prog [.tmp 10]) := by kernel_rfl

theorem s_law_PagesHolds_b0_eq (M : CombL) (C : CallF) (LP : LoopH) (v0 : Value) (v1 : Value) (v2 : Value) (v3 : Value) (v4 : Value) (v11 : Value) (H : AHeap) (k : K) : bodyL M Tryd.prog hints C LP F.law_PagesHolds 0 [(0, v0), (1, v1), (2, v2), (3, v3), (4, v4), (11, v11)] H (afterK [0, 1, 2, 3, 4, 11] k) = s_law_PagesHolds_b0 M.b.g M.c M.s Tryd.prog C (fun v0 v1 v2 v3 v4 v11 H k => loopL M Tryd.prog hints C LP F.law_PagesHolds 0 [(0, v0), (1, v1), (2, v2), (3, v3), (4, v4), (11, v11)] H k) (fun v1 v2 v3 v4 v12 v13 v14 H k => loopL M Tryd.prog hints C LP F.law_PagesHolds 1 [(1, v1), (2, v2), (3, v3), (4, v4), (12, v12), (13, v13), (14, v14)] H k) (fun v1 v2 v3 v4 v12 v13 v14 v15 v16 v18 v19 v20 v21 H k => loopL M Tryd.prog hints C LP F.law_PagesHolds 2 [(1, v1), (2, v2), (3, v3), (4, v4), (12, v12), (13, v13), (14, v14), (15, v15), (16, v16), (18, v18), (19, v19), (20, v20), (21, v21)] H k) (fun v1 v2 v3 v4 v12 v13 v14 v18 v20 v22 H k => loopL M Tryd.prog hints C LP F.law_PagesHolds 3 [(1, v1), (2, v2), (3, v3), (4, v4), (12, v12), (13, v13), (14, v14), (18, v18), (20, v20), (22, v22)] H k) (fun v1 v2 v3 v4 v12 v13 v14 v18 v20 v22 v23 v24 H k => loopL M Tryd.prog hints C LP F.law_PagesHolds 4 [(1, v1), (2, v2), (3, v3), (4, v4), (12, v12), (13, v13), (14, v14), (18, v18), (20, v20), (22, v22), (23, v23), (24, v24)] H k) v0 v1 v2 v3 v4 v11 H k := by kernel_rfl

theorem s_law_PagesHolds_b1_eq (M : CombL) (C : CallF) (LP : LoopH) (v1 : Value) (v2 : Value) (v3 : Value) (v4 : Value) (v12 : Value) (v13 : Value) (v14 : Value) (H : AHeap) (k : K) : bodyL M Tryd.prog hints C LP F.law_PagesHolds 1 [(1, v1), (2, v2), (3, v3), (4, v4), (12, v12), (13, v13), (14, v14)] H (afterK [1, 2, 3, 4, 12, 13, 14] k) = s_law_PagesHolds_b1 M.b.g M.c M.s Tryd.prog C (fun v0 v1 v2 v3 v4 v11 H k => loopL M Tryd.prog hints C LP F.law_PagesHolds 0 [(0, v0), (1, v1), (2, v2), (3, v3), (4, v4), (11, v11)] H k) (fun v1 v2 v3 v4 v12 v13 v14 H k => loopL M Tryd.prog hints C LP F.law_PagesHolds 1 [(1, v1), (2, v2), (3, v3), (4, v4), (12, v12), (13, v13), (14, v14)] H k) (fun v1 v2 v3 v4 v12 v13 v14 v15 v16 v18 v19 v20 v21 H k => loopL M Tryd.prog hints C LP F.law_PagesHolds 2 [(1, v1), (2, v2), (3, v3), (4, v4), (12, v12), (13, v13), (14, v14), (15, v15), (16, v16), (18, v18), (19, v19), (20, v20), (21, v21)] H k) (fun v1 v2 v3 v4 v12 v13 v14 v18 v20 v22 H k => loopL M Tryd.prog hints C LP F.law_PagesHolds 3 [(1, v1), (2, v2), (3, v3), (4, v4), (12, v12), (13, v13), (14, v14), (18, v18), (20, v20), (22, v22)] H k) (fun v1 v2 v3 v4 v12 v13 v14 v18 v20 v22 v23 v24 H k => loopL M Tryd.prog hints C LP F.law_PagesHolds 4 [(1, v1), (2, v2), (3, v3), (4, v4), (12, v12), (13, v13), (14, v14), (18, v18), (20, v20), (22, v22), (23, v23), (24, v24)] H k) v1 v2 v3 v4 v12 v13 v14 H k := by kernel_rfl

theorem s_law_PagesHolds_b2_eq (M : CombL) (C : CallF) (LP : LoopH) (v1 : Value) (v2 : Value) (v3 : Value) (v4 : Value) (v12 : Value) (v13 : Value) (v14 : Value) (v15 : Value) (v16 : Value) (v18 : Value) (v19 : Value) (v20 : Value) (v21 : Value) (H : AHeap) (k : K) : bodyL M Tryd.prog hints C LP F.law_PagesHolds 2 [(1, v1), (2, v2), (3, v3), (4, v4), (12, v12), (13, v13), (14, v14), (15, v15), (16, v16), (18, v18), (19, v19), (20, v20), (21, v21)] H (afterK [1, 2, 3, 4, 12, 13, 14, 15, 16, 18, 19, 20, 21] k) = s_law_PagesHolds_b2 M.b.g M.c M.s Tryd.prog C (fun v0 v1 v2 v3 v4 v11 H k => loopL M Tryd.prog hints C LP F.law_PagesHolds 0 [(0, v0), (1, v1), (2, v2), (3, v3), (4, v4), (11, v11)] H k) (fun v1 v2 v3 v4 v12 v13 v14 H k => loopL M Tryd.prog hints C LP F.law_PagesHolds 1 [(1, v1), (2, v2), (3, v3), (4, v4), (12, v12), (13, v13), (14, v14)] H k) (fun v1 v2 v3 v4 v12 v13 v14 v15 v16 v18 v19 v20 v21 H k => loopL M Tryd.prog hints C LP F.law_PagesHolds 2 [(1, v1), (2, v2), (3, v3), (4, v4), (12, v12), (13, v13), (14, v14), (15, v15), (16, v16), (18, v18), (19, v19), (20, v20), (21, v21)] H k) (fun v1 v2 v3 v4 v12 v13 v14 v18 v20 v22 H k => loopL M Tryd.prog hints C LP F.law_PagesHolds 3 [(1, v1), (2, v2), (3, v3), (4, v4), (12, v12), (13, v13), (14, v14), (18, v18), (20, v20), (22, v22)] H k) (fun v1 v2 v3 v4 v12 v13 v14 v18 v20 v22 v23 v24 H k => loopL M Tryd.prog hints C LP F.law_PagesHolds 4 [(1, v1), (2, v2), (3, v3), (4, v4), (12, v12), (13, v13), (14, v14), (18, v18), (20, v20), (22, v22), (23, v23), (24, v24)] H k) v1 v2 v3 v4 v12 v13 v14 v15 v16 v18 v19 v20 v21 H k := by kernel_rfl

theorem s_law_PagesHolds_b3_eq (M : CombL) (C : CallF) (LP : LoopH) (v1 : Value) (v2 : Value) (v3 : Value) (v4 : Value) (v12 : Value) (v13 : Value) (v14 : Value) (v18 : Value) (v20 : Value) (v22 : Value) (H : AHeap) (k : K) : bodyL M Tryd.prog hints C LP F.law_PagesHolds 3 [(1, v1), (2, v2), (3, v3), (4, v4), (12, v12), (13, v13), (14, v14), (18, v18), (20, v20), (22, v22)] H (afterK [1, 2, 3, 4, 12, 13, 14, 18, 20, 22] k) = s_law_PagesHolds_b3 M.b.g M.c M.s Tryd.prog C (fun v0 v1 v2 v3 v4 v11 H k => loopL M Tryd.prog hints C LP F.law_PagesHolds 0 [(0, v0), (1, v1), (2, v2), (3, v3), (4, v4), (11, v11)] H k) (fun v1 v2 v3 v4 v12 v13 v14 H k => loopL M Tryd.prog hints C LP F.law_PagesHolds 1 [(1, v1), (2, v2), (3, v3), (4, v4), (12, v12), (13, v13), (14, v14)] H k) (fun v1 v2 v3 v4 v12 v13 v14 v15 v16 v18 v19 v20 v21 H k => loopL M Tryd.prog hints C LP F.law_PagesHolds 2 [(1, v1), (2, v2), (3, v3), (4, v4), (12, v12), (13, v13), (14, v14), (15, v15), (16, v16), (18, v18), (19, v19), (20, v20), (21, v21)] H k) (fun v1 v2 v3 v4 v12 v13 v14 v18 v20 v22 H k => loopL M Tryd.prog hints C LP F.law_PagesHolds 3 [(1, v1), (2, v2), (3, v3), (4, v4), (12, v12), (13, v13), (14, v14), (18, v18), (20, v20), (22, v22)] H k) (fun v1 v2 v3 v4 v12 v13 v14 v18 v20 v22 v23 v24 H k => loopL M Tryd.prog hints C LP F.law_PagesHolds 4 [(1, v1), (2, v2), (3, v3), (4, v4), (12, v12), (13, v13), (14, v14), (18, v18), (20, v20), (22, v22), (23, v23), (24, v24)] H k) v1 v2 v3 v4 v12 v13 v14 v18 v20 v22 H k := by kernel_rfl

theorem s_law_PagesHolds_b4_eq (M : CombL) (C : CallF) (LP : LoopH) (v1 : Value) (v2 : Value) (v3 : Value) (v4 : Value) (v12 : Value) (v13 : Value) (v14 : Value) (v18 : Value) (v20 : Value) (v22 : Value) (v23 : Value) (v24 : Value) (H : AHeap) (k : K) : bodyL M Tryd.prog hints C LP F.law_PagesHolds 4 [(1, v1), (2, v2), (3, v3), (4, v4), (12, v12), (13, v13), (14, v14), (18, v18), (20, v20), (22, v22), (23, v23), (24, v24)] H (afterK [1, 2, 3, 4, 12, 13, 14, 18, 20, 22, 23, 24] k) = s_law_PagesHolds_b4 M.b.g M.c M.s Tryd.prog C (fun v0 v1 v2 v3 v4 v11 H k => loopL M Tryd.prog hints C LP F.law_PagesHolds 0 [(0, v0), (1, v1), (2, v2), (3, v3), (4, v4), (11, v11)] H k) (fun v1 v2 v3 v4 v12 v13 v14 H k => loopL M Tryd.prog hints C LP F.law_PagesHolds 1 [(1, v1), (2, v2), (3, v3), (4, v4), (12, v12), (13, v13), (14, v14)] H k) (fun v1 v2 v3 v4 v12 v13 v14 v15 v16 v18 v19 v20 v21 H k => loopL M Tryd.prog hints C LP F.law_PagesHolds 2 [(1, v1), (2, v2), (3, v3), (4, v4), (12, v12), (13, v13), (14, v14), (15, v15), (16, v16), (18, v18), (19, v19), (20, v20), (21, v21)] H k) (fun v1 v2 v3 v4 v12 v13 v14 v18 v20 v22 H k => loopL M Tryd.prog hints C LP F.law_PagesHolds 3 [(1, v1), (2, v2), (3, v3), (4, v4), (12, v12), (13, v13), (14, v14), (18, v18), (20, v20), (22, v22)] H k) (fun v1 v2 v3 v4 v12 v13 v14 v18 v20 v22 v23 v24 H k => loopL M Tryd.prog hints C LP F.law_PagesHolds 4 [(1, v1), (2, v2), (3, v3), (4, v4), (12, v12), (13, v13), (14, v14), (18, v18), (20, v20), (22, v22), (23, v23), (24, v24)] H k) v1 v2 v3 v4 v12 v13 v14 v18 v20 v22 v23 v24 H k := by kernel_rfl

end Go.Proofs.YtlkgfbcencoahaaDoor

/-
  The equations of the seat's functions over calls in the limit (a program of ours printed it).
  Conditions: none. By an AI agent.
-/
set_option linter.unusedVariables false
namespace Go.Proofs.YtlkgfbcencoahaaDoor
open Go Eng

theorem u_map_string_bool : Tryd.prog.underlying T.map_string_bool = Tryd.prog.underlying 51 := rfl

noncomputable def l_law_PagesHolds_0 (v0 : Value) (v1 : Value) (v2 : Value) (v3 : Value) (v4 : Value) (v11 : Value) (H : AHeap) (k : K) : Res := loopL stdL Tryd.prog hints CC limLP F.law_PagesHolds 0 [(0, v0), (1, v1), (2, v2), (3, v3), (4, v4), (11, v11)] H k
noncomputable def l_law_PagesHolds_1 (v1 : Value) (v2 : Value) (v3 : Value) (v4 : Value) (v12 : Value) (v13 : Value) (v14 : Value) (H : AHeap) (k : K) : Res := loopL stdL Tryd.prog hints CC limLP F.law_PagesHolds 1 [(1, v1), (2, v2), (3, v3), (4, v4), (12, v12), (13, v13), (14, v14)] H k
noncomputable def l_law_PagesHolds_2 (v1 : Value) (v2 : Value) (v3 : Value) (v4 : Value) (v12 : Value) (v13 : Value) (v14 : Value) (v15 : Value) (v16 : Value) (v18 : Value) (v19 : Value) (v20 : Value) (v21 : Value) (H : AHeap) (k : K) : Res := loopL stdL Tryd.prog hints CC limLP F.law_PagesHolds 2 [(1, v1), (2, v2), (3, v3), (4, v4), (12, v12), (13, v13), (14, v14), (15, v15), (16, v16), (18, v18), (19, v19), (20, v20), (21, v21)] H k
noncomputable def l_law_PagesHolds_3 (v1 : Value) (v2 : Value) (v3 : Value) (v4 : Value) (v12 : Value) (v13 : Value) (v14 : Value) (v18 : Value) (v20 : Value) (v22 : Value) (H : AHeap) (k : K) : Res := loopL stdL Tryd.prog hints CC limLP F.law_PagesHolds 3 [(1, v1), (2, v2), (3, v3), (4, v4), (12, v12), (13, v13), (14, v14), (18, v18), (20, v20), (22, v22)] H k
noncomputable def l_law_PagesHolds_4 (v1 : Value) (v2 : Value) (v3 : Value) (v4 : Value) (v12 : Value) (v13 : Value) (v14 : Value) (v18 : Value) (v20 : Value) (v22 : Value) (v23 : Value) (v24 : Value) (H : AHeap) (k : K) : Res := loopL stdL Tryd.prog hints CC limLP F.law_PagesHolds 4 [(1, v1), (2, v2), (3, v3), (4, v4), (12, v12), (13, v13), (14, v14), (18, v18), (20, v20), (22, v22), (23, v23), (24, v24)] H k
theorem r_law_PagesHolds_0 (v0 : Value) (v1 : Value) (v2 : Value) (v3 : Value) (v4 : Value) (v11 : Value) (H : AHeap) (k : K) : l_law_PagesHolds_0 v0 v1 v2 v3 v4 v11 H k = s_law_PagesHolds_b0 guardK condL shareL Tryd.prog CC l_law_PagesHolds_0 l_law_PagesHolds_1 l_law_PagesHolds_2 l_law_PagesHolds_3 l_law_PagesHolds_4 v0 v1 v2 v3 v4 v11 H (seqK (fun T H => l_law_PagesHolds_0 (get T 0) (get T 1) (get T 2) (get T 3) (get T 4) (get T 11) H k) k) := ((loopL_next (by kernel_rfl) rfl H k).trans (s_law_PagesHolds_b0_eq stdL CC limLP v0 v1 v2 v3 v4 v11 H _)).trans (by kernel_rfl)
theorem r_law_PagesHolds_1 (v1 : Value) (v2 : Value) (v3 : Value) (v4 : Value) (v12 : Value) (v13 : Value) (v14 : Value) (H : AHeap) (k : K) : l_law_PagesHolds_1 v1 v2 v3 v4 v12 v13 v14 H k = s_law_PagesHolds_b1 guardK condL shareL Tryd.prog CC l_law_PagesHolds_0 l_law_PagesHolds_1 l_law_PagesHolds_2 l_law_PagesHolds_3 l_law_PagesHolds_4 v1 v2 v3 v4 v12 v13 v14 H (seqK (fun T H => l_law_PagesHolds_1 (get T 1) (get T 2) (get T 3) (get T 4) (get T 12) (get T 13) (get T 14) H k) k) := ((loopL_next (by kernel_rfl) rfl H k).trans (s_law_PagesHolds_b1_eq stdL CC limLP v1 v2 v3 v4 v12 v13 v14 H _)).trans (by kernel_rfl)
theorem r_law_PagesHolds_2 (v1 : Value) (v2 : Value) (v3 : Value) (v4 : Value) (v12 : Value) (v13 : Value) (v14 : Value) (v15 : Value) (v16 : Value) (v18 : Value) (v19 : Value) (v20 : Value) (v21 : Value) (H : AHeap) (k : K) : l_law_PagesHolds_2 v1 v2 v3 v4 v12 v13 v14 v15 v16 v18 v19 v20 v21 H k = s_law_PagesHolds_b2 guardK condL shareL Tryd.prog CC l_law_PagesHolds_0 l_law_PagesHolds_1 l_law_PagesHolds_2 l_law_PagesHolds_3 l_law_PagesHolds_4 v1 v2 v3 v4 v12 v13 v14 v15 v16 v18 v19 v20 v21 H (seqK (fun T H => l_law_PagesHolds_2 (get T 1) (get T 2) (get T 3) (get T 4) (get T 12) (get T 13) (get T 14) (get T 15) (get T 16) (get T 18) (get T 19) (get T 20) (get T 21) H k) k) := ((loopL_next (by kernel_rfl) rfl H k).trans (s_law_PagesHolds_b2_eq stdL CC limLP v1 v2 v3 v4 v12 v13 v14 v15 v16 v18 v19 v20 v21 H _)).trans (by kernel_rfl)
theorem r_law_PagesHolds_3 (v1 : Value) (v2 : Value) (v3 : Value) (v4 : Value) (v12 : Value) (v13 : Value) (v14 : Value) (v18 : Value) (v20 : Value) (v22 : Value) (H : AHeap) (k : K) : l_law_PagesHolds_3 v1 v2 v3 v4 v12 v13 v14 v18 v20 v22 H k = s_law_PagesHolds_b3 guardK condL shareL Tryd.prog CC l_law_PagesHolds_0 l_law_PagesHolds_1 l_law_PagesHolds_2 l_law_PagesHolds_3 l_law_PagesHolds_4 v1 v2 v3 v4 v12 v13 v14 v18 v20 v22 H (seqK (fun T H => l_law_PagesHolds_3 (get T 1) (get T 2) (get T 3) (get T 4) (get T 12) (get T 13) (get T 14) (get T 18) (get T 20) (get T 22) H k) k) := ((loopL_next (by kernel_rfl) rfl H k).trans (s_law_PagesHolds_b3_eq stdL CC limLP v1 v2 v3 v4 v12 v13 v14 v18 v20 v22 H _)).trans (by kernel_rfl)
theorem r_law_PagesHolds_4 (v1 : Value) (v2 : Value) (v3 : Value) (v4 : Value) (v12 : Value) (v13 : Value) (v14 : Value) (v18 : Value) (v20 : Value) (v22 : Value) (v23 : Value) (v24 : Value) (H : AHeap) (k : K) : l_law_PagesHolds_4 v1 v2 v3 v4 v12 v13 v14 v18 v20 v22 v23 v24 H k = s_law_PagesHolds_b4 guardK condL shareL Tryd.prog CC l_law_PagesHolds_0 l_law_PagesHolds_1 l_law_PagesHolds_2 l_law_PagesHolds_3 l_law_PagesHolds_4 v1 v2 v3 v4 v12 v13 v14 v18 v20 v22 v23 v24 H (seqK (fun T H => l_law_PagesHolds_4 (get T 1) (get T 2) (get T 3) (get T 4) (get T 12) (get T 13) (get T 14) (get T 18) (get T 20) (get T 22) (get T 23) (get T 24) H k) k) := ((loopL_next (by kernel_rfl) rfl H k).trans (s_law_PagesHolds_b4_eq stdL CC limLP v1 v2 v3 v4 v12 v13 v14 v18 v20 v22 v23 v24 H _)).trans (by kernel_rfl)
theorem d_law_PagesHolds (a0 : Value) (a1 : Value) (a2 : Value) (a3 : Value) (a4 : Value) (H : AHeap) {r : Value × AHeap} (h : s_law_PagesHolds guardK condL shareL Tryd.prog CC l_law_PagesHolds_0 l_law_PagesHolds_1 l_law_PagesHolds_2 l_law_PagesHolds_3 l_law_PagesHolds_4 a0 a1 a2 a3 a4 H (endK Tryd.prog [.tmp 10]) = some r) : CC F.law_PagesHolds [a0, a1, a2, a3, a4] H = some (tidy H r) := D_body (by kernel_rfl) ((s_law_PagesHolds_eq stdL CC limLP a0 a1 a2 a3 a4 H).trans (Eq.trans (show s_law_PagesHolds stdL.b.g stdL.c stdL.s Tryd.prog CC (fun v0 v1 v2 v3 v4 v11 H k => loopL stdL Tryd.prog hints CC limLP F.law_PagesHolds 0 [(0, v0), (1, v1), (2, v2), (3, v3), (4, v4), (11, v11)] H k) (fun v1 v2 v3 v4 v12 v13 v14 H k => loopL stdL Tryd.prog hints CC limLP F.law_PagesHolds 1 [(1, v1), (2, v2), (3, v3), (4, v4), (12, v12), (13, v13), (14, v14)] H k) (fun v1 v2 v3 v4 v12 v13 v14 v15 v16 v18 v19 v20 v21 H k => loopL stdL Tryd.prog hints CC limLP F.law_PagesHolds 2 [(1, v1), (2, v2), (3, v3), (4, v4), (12, v12), (13, v13), (14, v14), (15, v15), (16, v16), (18, v18), (19, v19), (20, v20), (21, v21)] H k) (fun v1 v2 v3 v4 v12 v13 v14 v18 v20 v22 H k => loopL stdL Tryd.prog hints CC limLP F.law_PagesHolds 3 [(1, v1), (2, v2), (3, v3), (4, v4), (12, v12), (13, v13), (14, v14), (18, v18), (20, v20), (22, v22)] H k) (fun v1 v2 v3 v4 v12 v13 v14 v18 v20 v22 v23 v24 H k => loopL stdL Tryd.prog hints CC limLP F.law_PagesHolds 4 [(1, v1), (2, v2), (3, v3), (4, v4), (12, v12), (13, v13), (14, v14), (18, v18), (20, v20), (22, v22), (23, v23), (24, v24)] H k) a0 a1 a2 a3 a4 H (endK Tryd.prog [.tmp 10]) = s_law_PagesHolds guardK condL shareL Tryd.prog CC l_law_PagesHolds_0 l_law_PagesHolds_1 l_law_PagesHolds_2 l_law_PagesHolds_3 l_law_PagesHolds_4 a0 a1 a2 a3 a4 H (endK Tryd.prog [.tmp 10]) by kernel_rfl) h))

end Go.Proofs.YtlkgfbcencoahaaDoor

/-
  Chapter 44: the pages of a turn, one after the other.
  Conditions: none. By an AI agent.
-/
set_option maxRecDepth 10000
set_option linter.unusedSimpArgs false
set_option linter.unusedVariables false
namespace Go.Proofs.YtlkgfbcencoahaaDoor
open Go Eng

def EChg : Enc Chg := ⟨3, fun a => [.string a.key, .string a.value, .bool a.gone], fun _ => rfl, by decide, fun _ => rfl⟩
theorem rd_chg {H0 : AHeap} {v4 : Value} {cl : List Chg} (hr : Rd EChg H0 v4 cl) {i : Nat} (hi : i < cl.length) :
    ∃ b o, ixS 3 v4 (.int .i64 (i : Int)) = some (.pointer (some ⟨b, o, none⟩)) ∧ ∀ H, Still H0 H → cellB (H.f b) o = some (.string cl[i].key) ∧ cellB (H.f b) (o + 1) = some (.string cl[i].value) ∧ cellB (H.f b) (o + 2) = some (.bool cl[i].gone) := by
  obtain ⟨b1, o1, ix, hb, hc, _⟩ := hr.ix (q := .i64) hi
  have ix : ixS 3 v4 (.int .i64 (i : Int)) = some (.pointer (some ⟨b1, o1, none⟩)) := ix
  have hc : cutB (H0.f b1) o1 3 = some [.string cl[i].key, .string cl[i].value, .bool cl[i].gone] := hc
  refine ⟨b1, o1, ix, fun H st => ?_⟩
  rw [st.f hb (fun h => h)]
  exact ⟨cutB_cell hc (i := 0) (by decide), cutB_cell hc (i := 1) (by decide), cutB_cell hc (i := 2) (by decide)⟩

/-- What is left of the changes. -/
def chOf (tn : Int) (cl : List Chg) (i : Nat) : List Chg := if tn = 1 then cl.drop i else []
theorem chOf_tail {tn : Int} {cl : List Chg} {i : Nat} : (chOf tn cl i).tail = chOf tn cl (i + 1) := by
  unfold chOf
  split
  · rw [List.tail_drop]
  · rfl

set_option maxHeartbeats 8000000 in
theorem l_turn (H0 Hz : AHeap) (bm mt : Nat) (k e : ByteArray) (he : (bl e).length ≤ 24) (c : Nat) (hn : 1 ≤ c) (hn2 : c ≤ 32) (cl : List Chg) (v4 w : Value) (hr4 : Rd EChg H0 v4 cl) (tn : Int) (htn : tn = 0 ∨ tn = 1) :
    ∀ (f i : Nat) (H : AHeap) (M G : List Pr) (kk : ByteArray) (ww : Bool) (acc : List Pr) (accL : List (List Pr)) (Tk : List ByteArray) (got list l : Value), i + f = 100 → G = M.filter (inF kk ww e) → G.length + (chOf tn cl i).length < f → acc.length ≤ 32 * i → accL.length ≤ i → St H0 Hz H bm mt M acc accL Tk got list l (pgL G c) →
    ∃ got' list' l' pg' H', St H0 Hz H' bm mt (goM c e f M (chOf tn cl i) G) (acc ++ goP c e f M (chOf tn cl i) G) (accL ++ goL c e f M (chOf tn cl i) G) (Tk ++ goT c e f M (chOf tn cl i) G) got' list' l' pg' ∧
      ∀ K : K, l_law_PagesHolds_2 (.string k) (.string e) (.int .i64 (c : Int)) v4 (.pointer (some ⟨bm, 0, none⟩)) w (.int .i64 tn) l (.string (pgM G c e)) got list (.map (some mt)) (.int .i64 (i : Int)) H (blkK [1, 2, 3, 4, 12, 13, 14, 18, 19, 20] 4 K) =
        K .normal [(1, .string k), (2, .string e), (3, .int .i64 (c : Int)), (4, v4), (12, .pointer (some ⟨bm, 0, none⟩)), (13, w), (14, .int .i64 tn), (18, got'), (19, list'), (20, .map (some mt))] H'
  | 0, i, H, M, G, kk, ww, acc, accL, Tk, got, list, l, hif, hG, hlt, ha, hL, s => by omega
  | f + 1, i, H, M, G, kk, ww, acc, accL, Tk, got, list, l, hif, hG, hlt, ha, hL, s => by
    have h100 : (i : Int) < 100 := by omega
    have hpl : (pgL G c).length ≤ 32 := by unfold pgL; simp; omega
    obtain ⟨got1, H1, a1, s1⟩ := s.gapp (by omega)
    have hlS := s.pO.1.lenS
    obtain ⟨la, lc, rfl⟩ := s.pO.1.shape
    rw [goM, goP, goL, goT]
    by_cases hle : G.length ≤ c
    · have hm : pgM G c e = mk [] := by unfold pgM; rw [if_pos hle]
      have hpg : pgL G c = G := by unfold pgL; exact List.take_of_length_le hle
      rw [if_pos hle, if_pos hle, if_pos hle, if_pos hle]
      by_cases h0 : G = []
      · subst h0
        rw [hpg] at s1 hlS
        have hlS : lenS (.slice la ([] : List Pr).length lc) = some (.int .i64 0) := hlS
        refine ⟨got1, list, _, _, H1, by rw [if_pos rfl, List.append_nil, List.append_nil, List.append_nil]; rw [List.append_nil] at s1; exact s1, fun K => ?_⟩
        rw [hm, r_law_PagesHolds_2]
        rw [hpg] at a1 ⊢
        have a1 : app T.api_Pair 2 32 got (srcS 2 (.slice la 0 lc) H) H = some (got1, H1) := a1
        simp (disch := first | with_reducible rfl | assumption | omega | rfl | (simp only [go_sem]; first | done | omega)) only [go_sem, ↓reduceIte, reduceCtorEq, Nat.reduceEqDiff, Nat.reduceAdd, Nat.reduceSub, Nat.reduceMul, Nat.reduceDiv, Nat.reduceMod, Nat.reduceLeDiff, Nat.reduceLT, Nat.reduceBEq, Int.reduceEq, Int.reduceBEq, Int.reduceBNe, Int.reduceLT, Int.reduceLE, Int.reduceAdd, Int.reduceSub, Int.reduceNeg, Int.reduceToNat, Int.reducePow, Nat.reducePow, Int.reduceMul, Int.reduceDiv, ↓s_law_PagesHolds_b2, h100, a1, hlS, bl_mk]
      · have hpos : 0 < ((pgL G c).length : Int) := by rw [hpg]; have := List.length_pos_iff.2 h0; omega
        obtain ⟨list1, H2, a2, s2⟩ := s1.lapp (by omega)
        obtain ⟨Hp, hHp⟩ : ∃ Hp, H1.push (.cells [.slice la (pgL G c).length lc] T.sl_api_Pair true) = Hp := ⟨_, rfl⟩
        rw [hHp] at a2
        refine ⟨got1, list1, _, _, H2, by rw [if_neg h0, List.append_nil]; rw [hpg] at s2; exact s2, fun K => ?_⟩
        rw [hm, r_law_PagesHolds_2]
        simp (disch := first | with_reducible rfl | assumption | omega | rfl | (simp only [go_sem]; first | done | omega)) only [go_sem, ↓reduceIte, reduceCtorEq, Nat.reduceEqDiff, Nat.reduceAdd, Nat.reduceSub, Nat.reduceMul, Nat.reduceDiv, Nat.reduceMod, Nat.reduceLeDiff, Nat.reduceLT, Nat.reduceBEq, Int.reduceEq, Int.reduceBEq, Int.reduceBNe, Int.reduceLT, Int.reduceLE, Int.reduceAdd, Int.reduceSub, Int.reduceNeg, Int.reduceToNat, Int.reducePow, Nat.reducePow, Int.reduceMul, Int.reduceDiv, ↓s_law_PagesHolds_b2, h100, a1, hlS, hpos, hHp, a2, bl_mk]
    · have hlt1 : c - 1 < G.length := by omega
      have hlk : lastK G c = G[c - 1].key := lastK_eq hlt1
      have hm : pgM G c e = marS e G[c - 1].key := by unfold pgM; rw [if_neg hle, hlk]
      have hmem : G[c - 1] ∈ M.filter (inF kk ww e) := by rw [← hG]; exact List.getElem_mem hlt1
      have hrd := mark_rd s.fr.vok hmem he
      have hnl := next_len (ch := chOf tn cl i) s.fr.srt hG hn (by omega)
      have hpl : (pgL G c).length = c := by unfold pgL; simp; omega
      have hpos : 0 < (c : Int) := by omega
      have hcc : ((pgL G c).length : Int) = (c : Int) := by omega
      rw [if_neg hle, if_neg hle, if_neg hle, if_neg hle]
      rw [show nextG M (chOf tn cl i) G c e = (chgs M (chOf tn cl i)).filter (inF G[c - 1].key false e) by unfold nextG; rw [hlk]] at hnl ⊢
      rw [chOf_tail] at hnl ⊢
      generalize G[c - 1] = zz at hm hmem hrd hnl ⊢
      obtain ⟨list1, H2, a2, s2⟩ := s1.lapp (by omega)
      obtain ⟨Hp, hHp⟩ : ∃ Hp, H1.push (.cells [.slice la (pgL G c).length lc] T.sl_api_Pair true) = Hp := ⟨_, rfl⟩
      rw [hHp] at a2
      have hne : ¬ bl (marS e zz.key) = [] := fun h => by
        have : (marB (bl e) (bl zz.key)).length = 0 := by unfold marS at h; rw [bl_mk] at h; rw [h]; rfl
        unfold marB preB at this
        simp at this
      -- the end of the round
      have fin : ∀ (H4 : AHeap) (Tk' : List ByteArray), St H0 Hz H4 bm mt (chgs M (chOf tn cl i)) (acc ++ pgL G c) (accL ++ [pgL G c]) Tk' got1 list1 (.slice la (pgL G c).length lc) (pgL G c) →
          ∃ v' H5 got' list' l' pg' H', CC F.pages_Next [.pointer (some ⟨bm, 0, none⟩), .string (marS e zz.key), .int .i64 (c : Int)] H4 = some (.tuple #[v', .string (pgM ((chgs M (chOf tn cl i)).filter (inF zz.key false e)) c e), .int .i64 0], H5) ∧
            St H0 Hz H' bm mt (goM c e f (chgs M (chOf tn cl i)) (chOf tn cl (i + 1)) ((chgs M (chOf tn cl i)).filter (inF zz.key false e))) (acc ++ (G.take c ++ goP c e f (chgs M (chOf tn cl i)) (chOf tn cl (i + 1)) ((chgs M (chOf tn cl i)).filter (inF zz.key false e)))) (accL ++ G.take c :: goL c e f (chgs M (chOf tn cl i)) (chOf tn cl (i + 1)) ((chgs M (chOf tn cl i)).filter (inF zz.key false e))) (Tk' ++ goT c e f (chgs M (chOf tn cl i)) (chOf tn cl (i + 1)) ((chgs M (chOf tn cl i)).filter (inF zz.key false e))) got' list' l' pg' ∧
            ∀ K : K, l_law_PagesHolds_2 (.string k) (.string e) (.int .i64 (c : Int)) v4 (.pointer (some ⟨bm, 0, none⟩)) w (.int .i64 tn) v' (.string (pgM ((chgs M (chOf tn cl i)).filter (inF zz.key false e)) c e)) got1 list1 (.map (some mt)) (.int .i64 ((i : Int) + 1)) H5 (blkK [1, 2, 3, 4, 12, 13, 14, 18, 19, 20] 4 K) =
              K .normal [(1, .string k), (2, .string e), (3, .int .i64 (c : Int)), (4, v4), (12, .pointer (some ⟨bm, 0, none⟩)), (13, w), (14, .int .i64 tn), (18, got'), (19, list'), (20, .map (some mt))] H' := fun H4 Tk' s4 => by
        obtain ⟨v', H5, m5, o5, st5, nw5⟩ := next_page bm _ s4.fr.srt s4.fr.vok s4.fr.len c hn hn2 e he H4 s4.fr.mdl zz hrd
        have s5 := s4.next st5 o5.sl nw5
        obtain ⟨got', list', l', pg', H', q1, ih⟩ := l_turn H0 Hz bm mt k e he c hn hn2 cl v4 w hr4 tn htn f (i + 1) H5 _ _ zz.key false _ _ _ _ _ _ (by omega) rfl (by omega) (by simp; omega) (by simp; omega) s5
        refine ⟨v', H5, got', list', l', pg', H', m5, by simpa [pgL] using q1, fun K => ?_⟩
        exact ih K
      cases hch : chOf tn cl i with
      | nil =>
        rw [hch] at fin
        obtain ⟨v', H5, got', list', l', pg', H', m5, q1, ih⟩ := fin H2 Tk s2
        refine ⟨got', list', l', pg', H', q1, fun K => ?_⟩
        rw [← ih K, hm, r_law_PagesHolds_2]
        rcases htn with rfl | rfl
        · simp (disch := first | with_reducible rfl | assumption | omega | rfl | (simp only [go_sem]; first | done | omega)) only [go_sem, ↓reduceIte, reduceCtorEq, Nat.reduceEqDiff, Nat.reduceAdd, Nat.reduceSub, Nat.reduceMul, Nat.reduceDiv, Nat.reduceMod, Nat.reduceLeDiff, Nat.reduceLT, Nat.reduceBEq, Int.reduceEq, Int.reduceBEq, Int.reduceBNe, Int.reduceLT, Int.reduceLE, Int.reduceAdd, Int.reduceSub, Int.reduceNeg, Int.reduceToNat, Int.reducePow, Nat.reducePow, Int.reduceMul, Int.reduceDiv, ↓s_law_PagesHolds_b2, h100, a1, hlS, hpos, hHp, a2, hne, bl_mk, hcc, ↓enterK_eq m5, enterK_eq m5]
        · have hcl : cl.length ≤ i := List.drop_eq_nil_iff.1 hch
          have hlc := (hr4.still s.fr.still).lenS
          have hni : ¬ (i : Int) < (cl.length : Int) := by omega
          simp (disch := first | with_reducible rfl | assumption | omega | rfl | (simp only [go_sem]; first | done | omega)) only [go_sem, ↓reduceIte, reduceCtorEq, Nat.reduceEqDiff, Nat.reduceAdd, Nat.reduceSub, Nat.reduceMul, Nat.reduceDiv, Nat.reduceMod, Nat.reduceLeDiff, Nat.reduceLT, Nat.reduceBEq, Int.reduceEq, Int.reduceBEq, Int.reduceBNe, Int.reduceLT, Int.reduceLE, Int.reduceAdd, Int.reduceSub, Int.reduceNeg, Int.reduceToNat, Int.reducePow, Nat.reducePow, Int.reduceMul, Int.reduceDiv, ↓s_law_PagesHolds_b2, h100, a1, hlS, hpos, hHp, a2, hne, bl_mk, hcc, hlc, hni, ↓enterK_eq m5, enterK_eq m5]
      | cons x r =>
        rcases htn with rfl | rfl
        · cases hch
        obtain ⟨hi, hx, _⟩ := drop_cons (show cl.drop i = x :: r from hch)
        have hlc := hr4.lenS
        have hni : (i : Int) < (cl.length : Int) := by omega
        obtain ⟨b4, o4, ix4, rd4⟩ := rd_chg hr4 hi
        rw [hx] at rd4
        rw [hch] at fin
        obtain ⟨H3, t3, s3⟩ := s2.touch x.key
        obtain ⟨c2a, c2b, c2c⟩ := rd4 H2 s2.fr.still
        obtain ⟨c3a, c3b, c3c⟩ := rd4 H3 s3.fr.still
        have hhd : (x :: r).head?.elim [] (fun c : Chg => [c.key]) = [x.key] := rfl
        cases hg : x.gone with
        | true =>
          obtain ⟨H4, m4, fr4, u4⟩ := s3.fr.delU x.key
          have s4 := s3.chg fr4 u4
          have hM : delE M x.key = chgs M (x :: r) := by show _ = chgM M x; unfold chgM; rw [if_pos hg]
          rw [hM] at s4
          obtain ⟨v', H5, got', list', l', pg', H', m5, q1, ih⟩ := fin H4 _ s4
          rw [hg] at c3c
          obtain ⟨gs, ge, hge⟩ := getE_shape M x.key
          rw [hge] at m4
          refine ⟨got', list', l', pg', H', by rw [hhd]; simpa using q1, fun K => ?_⟩
          rw [← ih K, hm, r_law_PagesHolds_2]
          simp (disch := first | with_reducible rfl | assumption | omega | rfl | (simp only [go_sem]; first | done | omega)) only [go_sem, ↓reduceIte, reduceCtorEq, Nat.reduceEqDiff, Nat.reduceAdd, Nat.reduceSub, Nat.reduceMul, Nat.reduceDiv, Nat.reduceMod, Nat.reduceLeDiff, Nat.reduceLT, Nat.reduceBEq, Int.reduceEq, Int.reduceBEq, Int.reduceBNe, Int.reduceLT, Int.reduceLE, Int.reduceAdd, Int.reduceSub, Int.reduceNeg, Int.reduceToNat, Int.reducePow, Nat.reducePow, Int.reduceMul, Int.reduceDiv, ↓s_law_PagesHolds_b2, h100, a1, hlS, hpos, hHp, a2, hne, bl_mk, hcc, hlc, hni, ix4, c2a, t3, c3c, c3a, ↓enterK_eq m4, enterK_eq m4, ↓enterK_eq m5, enterK_eq m5]
        | false =>
          obtain ⟨H4, m4, fr4, u4⟩ := s3.fr.putU ⟨x.key, x.value⟩
          have s4 := s3.chg fr4 u4
          have hM : (putE M ⟨x.key, x.value⟩).2 = chgs M (x :: r) := by show _ = chgM M x; unfold chgM; rw [if_neg (by rw [hg]; decide)]
          rw [hM] at s4
          obtain ⟨v', H5, got', list', l', pg', H', m5, q1, ih⟩ := fin H4 _ s4
          rw [hg] at c3c
          refine ⟨got', list', l', pg', H', by rw [hhd]; simpa using q1, fun K => ?_⟩
          rw [← ih K, hm, r_law_PagesHolds_2]
          simp (disch := first | with_reducible rfl | assumption | omega | rfl | (simp only [go_sem]; first | done | omega)) only [go_sem, ↓reduceIte, reduceCtorEq, Nat.reduceEqDiff, Nat.reduceAdd, Nat.reduceSub, Nat.reduceMul, Nat.reduceDiv, Nat.reduceMod, Nat.reduceLeDiff, Nat.reduceLT, Nat.reduceBEq, Int.reduceEq, Int.reduceBEq, Int.reduceBNe, Int.reduceLT, Int.reduceLE, Int.reduceAdd, Int.reduceSub, Int.reduceNeg, Int.reduceToNat, Int.reducePow, Nat.reducePow, Int.reduceMul, Int.reduceDiv, ↓s_law_PagesHolds_b2, h100, a1, hlS, hpos, hHp, a2, hne, bl_mk, hcc, hlc, hni, ix4, c2a, t3, c3c, c3a, c3b, ↓enterK_eq m4, enterK_eq m4, ↓enterK_eq m5, enterK_eq m5]

end Go.Proofs.YtlkgfbcencoahaaDoor
