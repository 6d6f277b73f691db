/-
  Chapter 24: the law ModelHolds runs to true, joined.
  Conditions: none. By an AI agent.
-/
import Derived.Test.YtlagijfkkpbbnaaHolds2
set_option maxRecDepth 10000
set_option linter.unusedSimpArgs false
set_option linter.unusedVariables false
namespace Go.Proofs.Ytlagijfkkpbbnaa
open Go Eng

theorem one0 (H : AHeap) : Mdl (H.push (.cells [.slice none 0 0] T.model_Model true)) H.n [] ∧ ∀ d, MB (H.push (.cells [.slice none 0 0] T.model_Model true)) H.n d → H.n ≤ d := by
  refine ⟨⟨_, push_f_eq rfl, by simp, .inl ⟨rfl, rfl⟩, by simp [blockOf]⟩, fun d h => ?_⟩
  rcases h with h | ⟨u, hu, hb⟩
  · omega
  · rw [push_f_eq rfl] at hu; cases hu; cases hb

theorem posP_empty : ∀ (l : List Pr), posP l (mk []) = 0
  | [] => rfl
  | a :: l => by
    rw [posP, if_neg]
    unfold cmpS
    have : bl (mk []) = [] := rfl
    rw [this]
    cases bl a.key <;> simp [Lib.compareBytes]

theorem q_ModelHolds (l : List Act) (v : Value) (key : ByteArray) (t : Nat) (ht : t < 256) (H : AHeap) (ok : Ok H) (hr : Rd EAct H v l) : ∃ H', CC F.law_ModelHolds [v, .string key, .int .u8 t] H = some (.bool true, H') := by
  have hlen := hr.lenS
  by_cases h1 : 30 < (l.length : Int)
  · refine any_of (H1 := ?_) (d_law_ModelHolds _ _ _ H ?_)
    rotate_left 1
    · simp (disch := first | with_reducible rfl | assumption | omega | rfl | (simp only [go_sem]; first | done | omega)) only [go_sem, ↓reduceIte, reduceCtorEq, Nat.reduceEqDiff, Nat.reduceAdd, Nat.reduceSub, Nat.reduceMul, Nat.reduceDiv, Nat.reduceMod, Nat.reduceLeDiff, Nat.reduceLT, Nat.reduceBEq, Int.reduceEq, Int.reduceBEq, Int.reduceBNe, Int.reduceLT, Int.reduceLE, Int.reduceAdd, Int.reduceSub, Int.reduceNeg, Int.reduceToNat, Int.reducePow, Nat.reducePow, Int.reduceMul, Int.reduceDiv, ↓s_law_ModelHolds, hlen, decide_eq_true h1]
      rfl
  · by_cases h2 : ((bl key).length : Int) < 1
    · refine any_of (H1 := ?_) (d_law_ModelHolds _ _ _ H ?_)
      rotate_left 1
      · simp (disch := first | with_reducible rfl | assumption | omega | rfl | (simp only [go_sem]; first | done | omega)) only [go_sem, ↓reduceIte, reduceCtorEq, Nat.reduceEqDiff, Nat.reduceAdd, Nat.reduceSub, Nat.reduceMul, Nat.reduceDiv, Nat.reduceMod, Nat.reduceLeDiff, Nat.reduceLT, Nat.reduceBEq, Int.reduceEq, Int.reduceBEq, Int.reduceBNe, Int.reduceLT, Int.reduceLE, Int.reduceAdd, Int.reduceSub, Int.reduceNeg, Int.reduceToNat, Int.reducePow, Nat.reducePow, Int.reduceMul, Int.reduceDiv, ↓s_law_ModelHolds, hlen, decide_eq_false h1, decide_eq_true h2]
        rfl
    · by_cases h3 : 24 < ((bl key).length : Int)
      · refine any_of (H1 := ?_) (d_law_ModelHolds _ _ _ H ?_)
        rotate_left 1
        · simp (disch := first | with_reducible rfl | assumption | omega | rfl | (simp only [go_sem]; first | done | omega)) only [go_sem, ↓reduceIte, reduceCtorEq, Nat.reduceEqDiff, Nat.reduceAdd, Nat.reduceSub, Nat.reduceMul, Nat.reduceDiv, Nat.reduceMod, Nat.reduceLeDiff, Nat.reduceLT, Nat.reduceBEq, Int.reduceEq, Int.reduceBEq, Int.reduceBNe, Int.reduceLT, Int.reduceLE, Int.reduceAdd, Int.reduceSub, Int.reduceNeg, Int.reduceToNat, Int.reducePow, Nat.reducePow, Int.reduceMul, Int.reduceDiv, ↓s_law_ModelHolds, hlen, decide_eq_false h1, decide_eq_false h2, decide_eq_true h3]
          rfl
      · have hkc : chk key [] = 0 := by
          have e1 : ¬ bl key = [] := fun h => h2 (by rw [h]; decide)
          have e2 : ¬ 24 < (bl key).length := by omega
          simp [chk, e1, e2]
        obtain ⟨m1, lom1⟩ := one0 H
        generalize hH1 : H.push (.cells [.slice none 0 0] T.model_Model true) = H1 at m1 lom1
        have s1 : Still H H1 := by rw [← hH1]; exact (Fr.refl H).push _
        obtain ⟨ex, T', H2, hp, hloop0⟩ := l_Holds0 l v key (.int .u8 t) H.n H hr hkc l 0 H1 [] false (mk []) rfl (by omega) s1 (ok.fr s1) m1 lom1 List.Pairwise.nil (by simp) (fun a ha => by cases ha) rfl (by omega)
        rcases hp with ⟨rfl, rfl⟩ | ⟨rfl, rfl, c, b2, ok2, m2, lom2, hs, hl, hall⟩
        · refine any_of (H1 := ?_) (d_law_ModelHolds _ _ _ H ?_)
          rotate_left 1
          · simp (disch := first | with_reducible rfl | assumption | omega | rfl | (simp only [go_sem]; first | done | omega)) only [go_sem, ↓reduceIte, reduceCtorEq, Nat.reduceEqDiff, Nat.reduceAdd, Nat.reduceSub, Nat.reduceMul, Nat.reduceDiv, Nat.reduceMod, Nat.reduceLeDiff, Nat.reduceLT, Nat.reduceBEq, Int.reduceEq, Int.reduceBEq, Int.reduceBNe, Int.reduceLT, Int.reduceLE, Int.reduceAdd, Int.reduceSub, Int.reduceNeg, Int.reduceToNat, Int.reducePow, Nat.reducePow, Int.reduceMul, Int.reduceDiv, ↓s_law_ModelHolds, hlen, decide_eq_false h1, decide_eq_false h2, decide_eq_false h3, hH1]
            refine (hloop0 _).trans ?_
            simp (disch := first | with_reducible rfl | assumption | omega | rfl | (simp only [go_sem]; first | done | omega)) only [go_sem, ↓reduceIte, reduceCtorEq, Nat.reduceEqDiff, Nat.reduceAdd, Nat.reduceSub, Nat.reduceMul, Nat.reduceDiv, Nat.reduceMod, Nat.reduceLeDiff, Nat.reduceLT, Nat.reduceBEq, Int.reduceEq, Int.reduceBEq, Int.reduceBNe, Int.reduceLT, Int.reduceLE, Int.reduceAdd, Int.reduceSub, Int.reduceNeg, Int.reduceToNat, Int.reducePow, Nat.reducePow, Int.reduceMul, Int.reduceDiv]
            rfl
        · obtain ⟨va, H3, hpairs, ho3, s3, hn3⟩ := q_Pairs H.n c H2 m2 (by omega)
          have hof0 : ofErr none c = 0 := ofErr_ok none hs hall fun b h => by cases h
          obtain ⟨bn, H4, hof, mn, s4, _, _⟩ := q_Of c va H3 ho3.rd hof0 hl
          have m4 := (m2.still s3).still s4
          have ho4 := ho3.still s4
          have he1 := q_Equal bn H.n c c H4 mn m4 (by omega) (by omega)
          rw [decide_eq_true rfl] at he1
          have hla := ho4.rd.lenS
          have hlm := q_Len H.n c H4 m4
          obtain ⟨m5, lom5⟩ := one0 H4
          generalize hH5 : H4.push (.cells [.slice none 0 0] T.model_Model true) = H5 at m5 lom5
          have s5 : Still H4 H5 := by rw [← hH5]; exact (Fr.refl H4).push _
          have ok4 : Ok H4 := (ok2.fr s3).fr s4
          obtain ⟨H6, s6, ok6, mo, hloop1⟩ := l_Holds1 c va (.pointer (some ⟨H.n, 0, none⟩)) H4.n t ht H4 ho4.rd hs hall hl c.length 0 H5 [] (by omega) (by omega) s5 (ok4.fr s5) m5 lom5 List.Pairwise.nil rfl (fun a => by simp)
          have m6 := m4.still s6
          have ho6 := ho4.still s6
          have he2 := q_Equal H4.n H.n c c H6 mo m6 (by omega) (by omega)
          rw [decide_eq_true rfl] at he2
          have hm : min (32 : Int) (c.length : Int) = ((min 32 c.length : Nat) : Int) := by omega
          obtain ⟨vr, hsl, hrr⟩ := ho6.hi (sz := 2) rfl (i := min 32 c.length) (by omega) (q := .i64)
          have hrg := q_ranges H.n c (c.take (min 32 c.length)) (mk []) (mk []) 32 0 vr H6 m6 hs hl hrr (by
            unfold rangeE rangeP
            rw [if_neg (by omega), if_neg (by simp [bl_mk]), posP_empty, endP, if_pos (show bl (mk []) = [] from rfl)]
            simp only [List.drop_zero]
            show _ = c.take (min c.length (0 + 32) - 0)
            congr 1
            omega) (by
            unfold rangeE
            rw [if_neg (by omega), if_neg (by simp [bl_mk])])
          refine any_of (H1 := H6) (d_law_ModelHolds _ _ _ H ?_)
          simp (disch := first | with_reducible rfl | assumption | omega | rfl | (simp only [go_sem]; first | done | omega)) only [go_sem, ↓reduceIte, reduceCtorEq, Nat.reduceEqDiff, Nat.reduceAdd, Nat.reduceSub, Nat.reduceMul, Nat.reduceDiv, Nat.reduceMod, Nat.reduceLeDiff, Nat.reduceLT, Nat.reduceBEq, Int.reduceEq, Int.reduceBEq, Int.reduceBNe, Int.reduceLT, Int.reduceLE, Int.reduceAdd, Int.reduceSub, Int.reduceNeg, Int.reduceToNat, Int.reducePow, Nat.reducePow, Int.reduceMul, Int.reduceDiv, ↓s_law_ModelHolds, hlen, decide_eq_false h1, decide_eq_false h2, decide_eq_false h3, hH1]
          refine (hloop0 _).trans ?_
          simp (disch := first | with_reducible rfl | assumption | omega | rfl | (simp only [go_sem]; first | done | omega)) only [go_sem, ↓reduceIte, reduceCtorEq, Nat.reduceEqDiff, Nat.reduceAdd, Nat.reduceSub, Nat.reduceMul, Nat.reduceDiv, Nat.reduceMod, Nat.reduceLeDiff, Nat.reduceLT, Nat.reduceBEq, Int.reduceEq, Int.reduceBEq, Int.reduceBNe, Int.reduceLT, Int.reduceLE, Int.reduceAdd, Int.reduceSub, Int.reduceNeg, Int.reduceToNat, Int.reducePow, Nat.reducePow, Int.reduceMul, Int.reduceDiv, enterK_eq hpairs, enterK_eq hof, mp_some, enterK_eq he1, hla, enterK_eq hlm, hH5]
          refine (hloop1 _).trans ?_
          simp (disch := first | with_reducible rfl | assumption | omega | rfl | (simp only [go_sem]; first | done | omega)) only [go_sem, ↓reduceIte, reduceCtorEq, Nat.reduceEqDiff, Nat.reduceAdd, Nat.reduceSub, Nat.reduceMul, Nat.reduceDiv, Nat.reduceMod, Nat.reduceLeDiff, Nat.reduceLT, Nat.reduceBEq, Int.reduceEq, Int.reduceBEq, Int.reduceBNe, Int.reduceLT, Int.reduceLE, Int.reduceAdd, Int.reduceSub, Int.reduceNeg, Int.reduceToNat, Int.reducePow, Nat.reducePow, Int.reduceMul, Int.reduceDiv, enterK_eq he2, hla, hm, hsl, enterK_eq hrg]

theorem decAct {W : World} {H : Type} {enc : TypeId × Value → H} {cs : List Value} {n : Nat} {y : DataW H × List MemPlace} (h : DataW.trod enc Try.prog W 0 (fun _ => true) true n T.law_Act cs = some y) (hl : cs.length = EAct.w) :
    ∃ a : Act, cs = EAct.enc a ∧ True ∧ cs.all plain = true := by
  have ht := Try.underlying49
  obtain ⟨c0, c1, c2, c3, c4, rfl⟩ : ∃ c0 c1 c2 c3 c4, cs = [c0, c1, c2, c3, c4] := by
    match cs, hl with
    | [c0, c1, c2, c3, c4], _ => exact ⟨_, _, _, _, _, rfl⟩
  obtain ⟨m0, z0, h0⟩ := dec_field ht h (i := 0) rfl rfl (by kernel_rfl) rfl
  obtain ⟨m1, z1, h1⟩ := dec_field ht h (i := 1) rfl rfl (by kernel_rfl) rfl
  obtain ⟨m2, z2, h2⟩ := dec_field ht h (i := 2) rfl rfl (by kernel_rfl) rfl
  obtain ⟨m3, z3, h3⟩ := dec_field ht h (i := 3) rfl rfl (by kernel_rfl) rfl
  obtain ⟨m4, z4, h4⟩ := dec_field ht h (i := 4) rfl rfl (by kernel_rfl) rfl
  obtain ⟨s0, rfl, _⟩ := dec_int Try.underlying3 h0
  obtain ⟨s1, rfl, _⟩ := dec_str Try.underlying9 h1
  obtain ⟨s2, rfl, _⟩ := dec_str Try.underlying9 h2
  obtain ⟨s3, rfl, _⟩ := dec_str Try.underlying9 h3
  obtain ⟨s4, rfl, _⟩ := dec_int Try.underlying3 h4
  exact ⟨⟨s0, s1, s2, s3, s4⟩, rfl, trivial, rfl⟩

theorem run_ModelHolds (W : World) (v : Value) (l : List Act) (hr : Rd EAct (absHeap W) v l) (_ : ∀ a, a ∈ l → True) (_ : l.length ≤ maxLen) (key : ByteArray) (_ : (bl key).length ≤ 140737488351232) (t : Int) (hw : (Lit.int .u8 t).wf = true) :
    ∃ k H', dCall Try.prog prims1 hints k F.law_ModelHolds [v, .string key, .int .u8 t] (absHeap W) = some (.bool true, H') := by
  obtain ⟨n, rfl⟩ : ∃ n : Nat, t = (n : Int) := by
    simp [Lit.wf, IntKind.min, IntKind.max, IntKind.signed, IntKind.bits] at hw
    exact ⟨t.toNat, by omega⟩
  have hn : n < 256 := by
    simp [Lit.wf, IntKind.min, IntKind.max, IntKind.signed, IntKind.bits] at hw
    omega
  obtain ⟨H', h⟩ := q_ModelHolds l v key n hn (absHeap W) (absHeap_ok W) hr
  obtain ⟨k, h⟩ := D_run h
  exact ⟨k, _, h⟩

end Go.Proofs.Ytlagijfkkpbbnaa
