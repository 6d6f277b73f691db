/-
  15 texts in one (merge.py): D E F G H I J K L M ShRowsSpans DsRowsSpans N P Pa.
  Conditions: none. By an AI agent.
-/
import Derived.Test.YtlmhioanjmhaiaaDoorQb2
import Derived.Test.YtlmhioanjmhaiaaDoorChecked
import Derived.KernelRfl

/-
  Chapter 40: tables: valid, kindAt; proper cells.
  Conditions: none. By an AI agent.
-/
set_option maxRecDepth 10000
set_option linter.unusedSimpArgs false
set_option linter.unusedVariables false
namespace Go.Proofs.YtlmhioanjmhaiaaDoor
open Go Eng

def EK : Enc Int := ⟨1, fun x => [.int .i64 x], fun _ => rfl, by decide, fun _ => rfl⟩
abbrev KR (H : AHeap) (v : Value) (l : List Int) : Prop := RdS EK T.api_CellKind H v l
abbrev tbV (n : Int) (kv rv : Value) : Value := .agg #[.int .i64 n, kv, rv]

theorem rd_kind {H : AHeap} {v : Value} {l : List Int} (hr : KR H v l) {i : Nat} (hi : i < l.length) {iv : Int} (hiv : iv = (i : Int)) : ∃ b o, ixS 1 v (.int .i64 iv) = some (.pointer (some ⟨b, o, none⟩)) ∧ cellB (H.f b) o = some (.int .i64 l[i]) := by
  obtain ⟨b1, o1, ix, hb, hc, _⟩ := hr.1.ix (q := .i64) hi
  subst hiv
  exact ⟨b1, o1, ix, cutB_cell hc (i := 0) (by decide)⟩

theorem q_kindAt (n : Int) (kv rv : Value) (kl rl : List Int) (i : Nat) (H : AHeap) (hk : KR H kv kl) (hr : KR H rv rl) (h8 : kl.length ≤ 1000) (h8r : rl.length ≤ 1000) (hi : i < (kl ++ rl).length) :
    CC F.law_kindAt [tbV n kv rv, .int .i64 (i : Int)] H = some (.int .i64 (kl ++ rl)[i], H) := by
  obtain ⟨H1, hH1⟩ : ∃ H1, H.push (.cells [.int .i64 n, kv, rv] T.api_Table true) = H1 := ⟨_, rfl⟩
  have s1 : Still H H1 := by rw [← hH1]; exact (Fr.refl H).push _
  have f1 : H1.f H.n = .cells [.int .i64 n, kv, rv] T.api_Table true := by rw [← hH1]; exact push_f_eq rfl
  have lk := hk.1.lenS
  by_cases h : i < kl.length
  · have h' : (i : Int) < (kl.length : Int) := by omega
    obtain ⟨b, o, ix, c⟩ := rd_kind (hk.still s1) h (iv := (i : Int)) rfl
    rw [List.getElem_append_left h]
    apply pure_of _ (d_law_kindAt _ _ H) rfl
    rotate_left 2
    · simp (disch := first | with_reducible rfl | assumption | omega | rfl | (simp only [go_sem]; first | done | omega)) only [go_sem, ↓reduceIte, reduceCtorEq, Nat.reduceEqDiff, Nat.reduceAdd, Nat.reduceSub, Nat.reduceMul, Nat.reduceDiv, Nat.reduceMod, Nat.reduceLeDiff, Nat.reduceLT, Nat.reduceBEq, Int.reduceEq, Int.reduceBEq, Int.reduceBNe, Int.reduceLT, Int.reduceLE, Int.reduceAdd, Int.reduceSub, Int.reduceNeg, Int.reduceToNat, Int.reducePow, Nat.reducePow, Int.reduceMul, Int.reduceDiv, ↓s_law_kindAt, hH1, f1, lk, h', ix, c]
      rfl
    · exact s1
  · have h' : ¬ (i : Int) < (kl.length : Int) := by omega
    have hi2 : i - kl.length < rl.length := by simp at hi; omega
    obtain ⟨b, o, ix, c⟩ := rd_kind (hr.still s1) hi2 (iv := (i : Int) - (kl.length : Int)) (by omega)
    have sub1 : ∀ ox oy, xbin Tryd.prog .sub T.int ox oy (.int .i64 (i : Int)) (.int .i64 (kl.length : Int)) = some (.int .i64 ((i : Int) - (kl.length : Int))) := fun ox oy => sub_i64 (by simp at hi; omega)
    rw [List.getElem_append_right (by omega)]
    apply pure_of _ (d_law_kindAt _ _ H) rfl
    rotate_left 2
    · simp (disch := first | with_reducible rfl | assumption | omega | rfl | (simp only [go_sem]; first | done | omega)) only [go_sem, ↓reduceIte, reduceCtorEq, Nat.reduceEqDiff, Nat.reduceAdd, Nat.reduceSub, Nat.reduceMul, Nat.reduceDiv, Nat.reduceMod, Nat.reduceLeDiff, Nat.reduceLT, Nat.reduceBEq, Int.reduceEq, Int.reduceBEq, Int.reduceBNe, Int.reduceLT, Int.reduceLE, Int.reduceAdd, Int.reduceSub, Int.reduceNeg, Int.reduceToNat, Int.reducePow, Nat.reducePow, Int.reduceMul, Int.reduceDiv, ↓s_law_kindAt, hH1, f1, lk, h', sub1, ix, c]
      rfl
    · exact s1

/-! ### valid -/
def kindP (k : Int) : Bool := decide (1 ≤ k) && decide (k ≤ 4)
def validP (n : Int) (kl rl : List Int) : Bool :=
  decide (1 ≤ n) && (decide (n ≤ 255) && (decide (1 ≤ kl.length) && (decide (kl.length ≤ 8) && (decide (rl.length ≤ 8) && (kl ++ rl).all kindP))))

theorem l_valid (n : Int) (kv rv : Value) (kl rl : List Int) (bt : Nat) (H : AHeap) (hk : KR H kv kl) (hr : KR H rv rl) (hf : H.f bt = .cells [.int .i64 n, kv, rv] T.api_Table true) (h8 : kl.length ≤ 8) (h8' : rl.length ≤ 8) : ∀ (t : List Int) (i : Nat), (kl ++ rl).drop i = t →
    (t.all kindP = true → ∀ K : K, l_law_valid_0 (.pointer (some ⟨bt, 0, none⟩)) (.int .i64 (i : Int)) H (blkK [] 0 K) = K .normal [] H) ∧
    (t.all kindP = false → ∀ K : K, l_law_valid_0 (.pointer (some ⟨bt, 0, none⟩)) (.int .i64 (i : Int)) H (blkK [] 0 K) = K .ret [(2, .bool false)] H)
  | [], i, hx => by
    have h : (kl ++ rl).length ≤ i := List.drop_eq_nil_iff.1 hx
    have lk := hk.1.lenS
    have lr := hr.1.lenS
    have hlt : ¬ (i : Int) < (kl.length : Int) + (rl.length : Int) := by simp at h; omega
    refine ⟨fun _ K => ?_, fun h => by simp at h⟩
    rw [r_law_valid_0]
    simp (disch := first | with_reducible rfl | assumption | omega | rfl | (simp only [go_sem]; first | done | omega)) only [go_sem, ↓reduceIte, reduceCtorEq, Nat.reduceEqDiff, Nat.reduceAdd, Nat.reduceSub, Nat.reduceMul, Nat.reduceDiv, Nat.reduceMod, Nat.reduceLeDiff, Nat.reduceLT, Nat.reduceBEq, Int.reduceEq, Int.reduceBEq, Int.reduceBNe, Int.reduceLT, Int.reduceLE, Int.reduceAdd, Int.reduceSub, Int.reduceNeg, Int.reduceToNat, Int.reducePow, Nat.reducePow, Int.reduceMul, Int.reduceDiv, ↓s_law_valid_b0, hf, lk, lr, hlt]
  | k :: t, i, hx => by
    obtain ⟨h, hxa, hx'⟩ := drop_cons hx
    have lk := hk.1.lenS
    have lr := hr.1.lenS
    have hlt : (i : Int) < (kl.length : Int) + (rl.length : Int) := by simp at h; omega
    have m1 := q_kindAt n kv rv kl rl i H hk hr (by omega) (by omega) h
    rw [hxa] at m1
    obtain ⟨k1, k2⟩ := l_valid n kv rv kl rl bt H hk hr hf h8 h8' t (i + 1) hx'
    rw [Int.natCast_add] at k1 k2
    rw [List.all_cons]
    unfold kindP at k1 k2 ⊢
    by_cases h1 : k < 1
    · have e : decide (1 ≤ k) = false := decide_eq_false (by omega)
      rw [e, Bool.false_and, Bool.false_and]
      refine ⟨fun h => by simp at h, fun _ K => ?_⟩
      rw [r_law_valid_0]
      simp (disch := first | with_reducible rfl | assumption | omega | rfl | (simp only [go_sem]; first | done | omega)) only [go_sem, ↓reduceIte, reduceCtorEq, Nat.reduceEqDiff, Nat.reduceAdd, Nat.reduceSub, Nat.reduceMul, Nat.reduceDiv, Nat.reduceMod, Nat.reduceLeDiff, Nat.reduceLT, Nat.reduceBEq, Int.reduceEq, Int.reduceBEq, Int.reduceBNe, Int.reduceLT, Int.reduceLE, Int.reduceAdd, Int.reduceSub, Int.reduceNeg, Int.reduceToNat, Int.reducePow, Nat.reducePow, Int.reduceMul, Int.reduceDiv, ↓s_law_valid_b0, hf, lk, lr, hlt, enterK_eq m1, h1]
    · have e : decide (1 ≤ k) = true := decide_eq_true (by omega)
      by_cases h2 : 4 < k
      · have e2 : decide (k ≤ 4) = false := decide_eq_false (by omega)
        rw [e, e2, Bool.and_false, Bool.false_and]
        refine ⟨fun h => by simp at h, fun _ K => ?_⟩
        rw [r_law_valid_0]
        simp (disch := first | with_reducible rfl | assumption | omega | rfl | (simp only [go_sem]; first | done | omega)) only [go_sem, ↓reduceIte, reduceCtorEq, Nat.reduceEqDiff, Nat.reduceAdd, Nat.reduceSub, Nat.reduceMul, Nat.reduceDiv, Nat.reduceMod, Nat.reduceLeDiff, Nat.reduceLT, Nat.reduceBEq, Int.reduceEq, Int.reduceBEq, Int.reduceBNe, Int.reduceLT, Int.reduceLE, Int.reduceAdd, Int.reduceSub, Int.reduceNeg, Int.reduceToNat, Int.reducePow, Nat.reducePow, Int.reduceMul, Int.reduceDiv, ↓s_law_valid_b0, hf, lk, lr, hlt, enterK_eq m1, h1, h2]
      · have e2 : decide (k ≤ 4) = true := decide_eq_true (by omega)
        rw [e, e2, Bool.true_and, Bool.true_and]
        refine ⟨fun h3 K => ?_, fun h3 K => ?_⟩
        · have := k1 h3 K
          rw [r_law_valid_0]
          simp (disch := first | with_reducible rfl | assumption | omega | rfl | (simp only [go_sem]; first | done | omega)) only [go_sem, ↓reduceIte, reduceCtorEq, Nat.reduceEqDiff, Nat.reduceAdd, Nat.reduceSub, Nat.reduceMul, Nat.reduceDiv, Nat.reduceMod, Nat.reduceLeDiff, Nat.reduceLT, Nat.reduceBEq, Int.reduceEq, Int.reduceBEq, Int.reduceBNe, Int.reduceLT, Int.reduceLE, Int.reduceAdd, Int.reduceSub, Int.reduceNeg, Int.reduceToNat, Int.reducePow, Nat.reducePow, Int.reduceMul, Int.reduceDiv, ↓s_law_valid_b0, hf, lk, lr, hlt, enterK_eq m1, h1, h2]
          exact this
        · have := k2 h3 K
          rw [r_law_valid_0]
          simp (disch := first | with_reducible rfl | assumption | omega | rfl | (simp only [go_sem]; first | done | omega)) only [go_sem, ↓reduceIte, reduceCtorEq, Nat.reduceEqDiff, Nat.reduceAdd, Nat.reduceSub, Nat.reduceMul, Nat.reduceDiv, Nat.reduceMod, Nat.reduceLeDiff, Nat.reduceLT, Nat.reduceBEq, Int.reduceEq, Int.reduceBEq, Int.reduceBNe, Int.reduceLT, Int.reduceLE, Int.reduceAdd, Int.reduceSub, Int.reduceNeg, Int.reduceToNat, Int.reducePow, Nat.reducePow, Int.reduceMul, Int.reduceDiv, ↓s_law_valid_b0, hf, lk, lr, hlt, enterK_eq m1, h1, h2]
          exact this

theorem q_valid (n : Int) (kv rv : Value) (kl rl : List Int) (H : AHeap) (hk : KR H kv kl) (hr : KR H rv rl) : CC F.law_valid [tbV n kv rv] H = some (.bool (validP n kl rl), H) := by
  obtain ⟨H1, hH1⟩ : ∃ H1, H.push (.cells [.int .i64 n, kv, rv] T.api_Table true) = H1 := ⟨_, rfl⟩
  have s1 : Still H H1 := by rw [← hH1]; exact (Fr.refl H).push _
  have f1 : H1.f H.n = .cells [.int .i64 n, kv, rv] T.api_Table true := by rw [← hH1]; exact push_f_eq rfl
  have lk := hk.1.lenS
  have lr := hr.1.lenS
  unfold validP
  by_cases h1 : n < 1
  · rw [decide_eq_false (show ¬ 1 ≤ n by omega), Bool.false_and]
    apply pure_of _ (d_law_valid _ H) rfl
    rotate_left 2
    · simp (disch := first | with_reducible rfl | assumption | omega | rfl | (simp only [go_sem]; first | done | omega)) only [go_sem, ↓reduceIte, reduceCtorEq, Nat.reduceEqDiff, Nat.reduceAdd, Nat.reduceSub, Nat.reduceMul, Nat.reduceDiv, Nat.reduceMod, Nat.reduceLeDiff, Nat.reduceLT, Nat.reduceBEq, Int.reduceEq, Int.reduceBEq, Int.reduceBNe, Int.reduceLT, Int.reduceLE, Int.reduceAdd, Int.reduceSub, Int.reduceNeg, Int.reduceToNat, Int.reducePow, Nat.reducePow, Int.reduceMul, Int.reduceDiv, ↓s_law_valid, hH1, f1, h1]
      rfl
    · exact s1
  rw [decide_eq_true (show 1 ≤ n by omega), Bool.true_and]
  by_cases h2 : 255 < n
  · rw [decide_eq_false (show ¬ n ≤ 255 by omega), Bool.false_and]
    apply pure_of _ (d_law_valid _ H) rfl
    rotate_left 2
    · simp (disch := first | with_reducible rfl | assumption | omega | rfl | (simp only [go_sem]; first | done | omega)) only [go_sem, ↓reduceIte, reduceCtorEq, Nat.reduceEqDiff, Nat.reduceAdd, Nat.reduceSub, Nat.reduceMul, Nat.reduceDiv, Nat.reduceMod, Nat.reduceLeDiff, Nat.reduceLT, Nat.reduceBEq, Int.reduceEq, Int.reduceBEq, Int.reduceBNe, Int.reduceLT, Int.reduceLE, Int.reduceAdd, Int.reduceSub, Int.reduceNeg, Int.reduceToNat, Int.reducePow, Nat.reducePow, Int.reduceMul, Int.reduceDiv, ↓s_law_valid, hH1, f1, h1, h2]
      rfl
    · exact s1
  rw [decide_eq_true (show n ≤ 255 by omega), Bool.true_and]
  by_cases h3 : (kl.length : Int) < 1
  · rw [decide_eq_false (show ¬ 1 ≤ kl.length by omega), Bool.false_and]
    apply pure_of _ (d_law_valid _ H) rfl
    rotate_left 2
    · simp (disch := first | with_reducible rfl | assumption | omega | rfl | (simp only [go_sem]; first | done | omega)) only [go_sem, ↓reduceIte, reduceCtorEq, Nat.reduceEqDiff, Nat.reduceAdd, Nat.reduceSub, Nat.reduceMul, Nat.reduceDiv, Nat.reduceMod, Nat.reduceLeDiff, Nat.reduceLT, Nat.reduceBEq, Int.reduceEq, Int.reduceBEq, Int.reduceBNe, Int.reduceLT, Int.reduceLE, Int.reduceAdd, Int.reduceSub, Int.reduceNeg, Int.reduceToNat, Int.reducePow, Nat.reducePow, Int.reduceMul, Int.reduceDiv, ↓s_law_valid, hH1, f1, h1, h2, lk, h3]
      rfl
    · exact s1
  rw [decide_eq_true (show 1 ≤ kl.length by omega), Bool.true_and]
  by_cases h4 : 8 < (kl.length : Int)
  · rw [decide_eq_false (show ¬ kl.length ≤ 8 by omega), Bool.false_and]
    apply pure_of _ (d_law_valid _ H) rfl
    rotate_left 2
    · simp (disch := first | with_reducible rfl | assumption | omega | rfl | (simp only [go_sem]; first | done | omega)) only [go_sem, ↓reduceIte, reduceCtorEq, Nat.reduceEqDiff, Nat.reduceAdd, Nat.reduceSub, Nat.reduceMul, Nat.reduceDiv, Nat.reduceMod, Nat.reduceLeDiff, Nat.reduceLT, Nat.reduceBEq, Int.reduceEq, Int.reduceBEq, Int.reduceBNe, Int.reduceLT, Int.reduceLE, Int.reduceAdd, Int.reduceSub, Int.reduceNeg, Int.reduceToNat, Int.reducePow, Nat.reducePow, Int.reduceMul, Int.reduceDiv, ↓s_law_valid, hH1, f1, h1, h2, lk, h3, h4]
      rfl
    · exact s1
  rw [decide_eq_true (show kl.length ≤ 8 by omega), Bool.true_and]
  by_cases h5 : 8 < (rl.length : Int)
  · rw [decide_eq_false (show ¬ rl.length ≤ 8 by omega), Bool.false_and]
    apply pure_of _ (d_law_valid _ H) rfl
    rotate_left 2
    · simp (disch := first | with_reducible rfl | assumption | omega | rfl | (simp only [go_sem]; first | done | omega)) only [go_sem, ↓reduceIte, reduceCtorEq, Nat.reduceEqDiff, Nat.reduceAdd, Nat.reduceSub, Nat.reduceMul, Nat.reduceDiv, Nat.reduceMod, Nat.reduceLeDiff, Nat.reduceLT, Nat.reduceBEq, Int.reduceEq, Int.reduceBEq, Int.reduceBNe, Int.reduceLT, Int.reduceLE, Int.reduceAdd, Int.reduceSub, Int.reduceNeg, Int.reduceToNat, Int.reducePow, Nat.reducePow, Int.reduceMul, Int.reduceDiv, ↓s_law_valid, hH1, f1, h1, h2, lk, h3, h4, lr, h5]
      rfl
    · exact s1
  rw [decide_eq_true (show rl.length ≤ 8 by omega), Bool.true_and]
  obtain ⟨z1, z2⟩ := l_valid n kv rv kl rl H.n H1 (hk.still s1) (hr.still s1) f1 (by omega) (by omega) (kl ++ rl) 0 (by simp)
  cases h : (kl ++ rl).all kindP with
  | true =>
    have z1 : ∀ K : K, l_law_valid_0 (.pointer (some ⟨H.n, 0, none⟩)) (.int .i64 0) H1 (blkK [] 0 K) = K .normal [] H1 := z1 h
    apply pure_of _ (d_law_valid _ H) rfl
    rotate_left 2
    · simp (disch := first | with_reducible rfl | assumption | omega | rfl | (simp only [go_sem]; first | done | omega)) only [go_sem, ↓reduceIte, reduceCtorEq, Nat.reduceEqDiff, Nat.reduceAdd, Nat.reduceSub, Nat.reduceMul, Nat.reduceDiv, Nat.reduceMod, Nat.reduceLeDiff, Nat.reduceLT, Nat.reduceBEq, Int.reduceEq, Int.reduceBEq, Int.reduceBNe, Int.reduceLT, Int.reduceLE, Int.reduceAdd, Int.reduceSub, Int.reduceNeg, Int.reduceToNat, Int.reducePow, Nat.reducePow, Int.reduceMul, Int.reduceDiv, ↓s_law_valid, hH1, f1, h1, h2, lk, h3, h4, lr, h5, z1]
      rfl
    · exact s1
  | false =>
    have z2 : ∀ K : K, l_law_valid_0 (.pointer (some ⟨H.n, 0, none⟩)) (.int .i64 0) H1 (blkK [] 0 K) = K .ret [(2, .bool false)] H1 := z2 h
    apply pure_of _ (d_law_valid _ H) rfl
    rotate_left 2
    · simp (disch := first | with_reducible rfl | assumption | omega | rfl | (simp only [go_sem]; first | done | omega)) only [go_sem, ↓reduceIte, reduceCtorEq, Nat.reduceEqDiff, Nat.reduceAdd, Nat.reduceSub, Nat.reduceMul, Nat.reduceDiv, Nat.reduceMod, Nat.reduceLeDiff, Nat.reduceLT, Nat.reduceBEq, Int.reduceEq, Int.reduceBEq, Int.reduceBNe, Int.reduceLT, Int.reduceLE, Int.reduceAdd, Int.reduceSub, Int.reduceNeg, Int.reduceToNat, Int.reducePow, Nat.reducePow, Int.reduceMul, Int.reduceDiv, ↓s_law_valid, hH1, f1, h1, h2, lk, h3, h4, lr, h5, z2]
      rfl
    · exact s1

/-! ### a proper cell -/
def properP (c : Cl) (k : Int) : Bool := decide (c.kind = k ∧ (k = 1 ∨ c.u = 0) ∧ (k = 2 ∨ c.i = 0) ∧ (k = 3 ∨ bl c.s = []) ∧ (k = 4 ∨ c.b = false))

theorem cell_eq {ox oy : Operand} {a b : Cl} : xbin Tryd.prog .eql T.api_Cell ox oy (.agg ⟨a.l⟩) (.agg ⟨b.l⟩) = some (.bool (decide (a = b))) := by
  have h := agg_eq (P := Tryd.prog) (t := T.api_Cell) (xs := a.l) (ys := b.l) (ox := ox) (oy := oy) Tryd.underlying44 (by kernel_rfl) (by kernel_rfl) (by kernel_rfl) rfl rfl
  rw [h]
  have e : ceqs a.l b.l = decide (a = b) := by
    obtain ⟨k1, u1, i1, s1, b1⟩ := a
    obtain ⟨k2, u2, i2, s2, b2⟩ := b
    have hs : (bl s1 = bl s2) = (s1 = s2) := propext ⟨fun h => Eng.bl_inj h, fun h => by rw [h]⟩
    simp only [Cl.l, ceqs, ceq, Cl.mk.injEq]
    apply Bool.eq_iff_iff.2
    simp [hs]
  rw [e]

theorem q_lproper (c : Cl) (k : Int) (H : AHeap) : CC F.law_proper [.agg ⟨c.l⟩, .int .i64 k] H = some (.bool (properP c k), H) := by
  obtain ⟨k1, u1, i1, s1, b1⟩ := c
  obtain ⟨H1, hH1⟩ : ∃ H1, H.push (.cells [.int .i64 k1, .int .u64 u1, .int .i64 i1, .string s1, .bool b1] T.api_Cell true) = H1 := ⟨_, rfl⟩
  have st : Still H H1 := by rw [← hH1]; exact (Fr.refl H).push _
  have f1 : H1.f H.n = .cells [.int .i64 k1, .int .u64 u1, .int .i64 i1, .string s1, .bool b1] T.api_Cell true := by rw [← hH1]; exact push_f_eq rfl
  refine (Classical.em (k1 = k)).elim (fun hk => ?_) fun hk => ?_
  rotate_left
  · have e : properP ⟨k1, u1, i1, s1, b1⟩ k = false := by unfold properP; simp [hk]
    rw [e]
    unfold Cl.l
    apply pure_of _ (d_law_proper _ _ H) rfl
    rotate_left 2
    · simp (disch := first | with_reducible rfl | assumption | omega | rfl | (simp only [go_sem]; first | done | omega)) only [go_sem, ↓reduceIte, reduceCtorEq, Nat.reduceEqDiff, Nat.reduceAdd, Nat.reduceSub, Nat.reduceMul, Nat.reduceDiv, Nat.reduceMod, Nat.reduceLeDiff, Nat.reduceLT, Nat.reduceBEq, Int.reduceEq, Int.reduceBEq, Int.reduceBNe, Int.reduceLT, Int.reduceLE, Int.reduceAdd, Int.reduceSub, Int.reduceNeg, Int.reduceToNat, Int.reducePow, Nat.reducePow, Int.reduceMul, Int.reduceDiv, ↓s_law_proper, hH1, f1, hk]
      rfl
    · exact st
  subst hk
  by_cases h1 : k1 = 1
  · have h1' : (k1 = 1) = True := by simp [h1]
    have n2 : ¬ k1 = 2 := by omega
    have n3 : ¬ k1 = 3 := by omega
    have n4 : ¬ k1 = 4 := by omega
    by_cases hi : i1 = 0
    · have hi' : (i1 = 0) = True := by simp [hi]
      by_cases hs : bl s1 = []
      · have hs' : (bl s1 = []) = True := by simp [hs]
        by_cases hb : b1 = false
        · have hb' : (!b1) = true := by simp [hb]
          have e : properP ⟨k1, u1, i1, s1, b1⟩ k1 = true := by unfold properP; simp [hi, hs, hb, h1', n2, n3, n4]
          rw [e]
          unfold Cl.l
          apply pure_of _ (d_law_proper _ _ H) rfl
          rotate_left 2
          · simp (disch := first | with_reducible rfl | assumption | omega | rfl | (simp only [go_sem]; first | done | omega)) only [go_sem, ↓reduceIte, reduceCtorEq, Nat.reduceEqDiff, Nat.reduceAdd, Nat.reduceSub, Nat.reduceMul, Nat.reduceDiv, Nat.reduceMod, Nat.reduceLeDiff, Nat.reduceLT, Nat.reduceBEq, Int.reduceEq, Int.reduceBEq, Int.reduceBNe, Int.reduceLT, Int.reduceLE, Int.reduceAdd, Int.reduceSub, Int.reduceNeg, Int.reduceToNat, Int.reducePow, Nat.reducePow, Int.reduceMul, Int.reduceDiv, ↓s_law_proper, hH1, f1, hi', hs', hb', h1', n2, n3, n4]
            rfl
          · exact st
        · have hb2 : b1 = true := by simpa using hb
          have hb2' : (!b1) = false := by simp [hb2]
          have e : properP ⟨k1, u1, i1, s1, b1⟩ k1 = false := by unfold properP; simp [hi, hs, hb2, h1', n2, n3, n4]
          rw [e]
          unfold Cl.l
          apply pure_of _ (d_law_proper _ _ H) rfl
          rotate_left 2
          · simp (disch := first | with_reducible rfl | assumption | omega | rfl | (simp only [go_sem]; first | done | omega)) only [go_sem, ↓reduceIte, reduceCtorEq, Nat.reduceEqDiff, Nat.reduceAdd, Nat.reduceSub, Nat.reduceMul, Nat.reduceDiv, Nat.reduceMod, Nat.reduceLeDiff, Nat.reduceLT, Nat.reduceBEq, Int.reduceEq, Int.reduceBEq, Int.reduceBNe, Int.reduceLT, Int.reduceLE, Int.reduceAdd, Int.reduceSub, Int.reduceNeg, Int.reduceToNat, Int.reducePow, Nat.reducePow, Int.reduceMul, Int.reduceDiv, ↓s_law_proper, hH1, f1, hi', hs', hb2', h1', n2, n3, n4]
            rfl
          · exact st
      · have hs' := hs
        have e : properP ⟨k1, u1, i1, s1, b1⟩ k1 = false := by unfold properP; simp [hi, hs, h1', n2, n3, n4]
        rw [e]
        unfold Cl.l
        apply pure_of _ (d_law_proper _ _ H) rfl
        rotate_left 2
        · simp (disch := first | with_reducible rfl | assumption | omega | rfl | (simp only [go_sem]; first | done | omega)) only [go_sem, ↓reduceIte, reduceCtorEq, Nat.reduceEqDiff, Nat.reduceAdd, Nat.reduceSub, Nat.reduceMul, Nat.reduceDiv, Nat.reduceMod, Nat.reduceLeDiff, Nat.reduceLT, Nat.reduceBEq, Int.reduceEq, Int.reduceBEq, Int.reduceBNe, Int.reduceLT, Int.reduceLE, Int.reduceAdd, Int.reduceSub, Int.reduceNeg, Int.reduceToNat, Int.reducePow, Nat.reducePow, Int.reduceMul, Int.reduceDiv, ↓s_law_proper, hH1, f1, hi', hs', h1', n2, n3, n4]
          rfl
        · exact st
    · have hi' := hi
      have e : properP ⟨k1, u1, i1, s1, b1⟩ k1 = false := by unfold properP; simp [hi, h1', n2, n3, n4]
      rw [e]
      unfold Cl.l
      apply pure_of _ (d_law_proper _ _ H) rfl
      rotate_left 2
      · simp (disch := first | with_reducible rfl | assumption | omega | rfl | (simp only [go_sem]; first | done | omega)) only [go_sem, ↓reduceIte, reduceCtorEq, Nat.reduceEqDiff, Nat.reduceAdd, Nat.reduceSub, Nat.reduceMul, Nat.reduceDiv, Nat.reduceMod, Nat.reduceLeDiff, Nat.reduceLT, Nat.reduceBEq, Int.reduceEq, Int.reduceBEq, Int.reduceBNe, Int.reduceLT, Int.reduceLE, Int.reduceAdd, Int.reduceSub, Int.reduceNeg, Int.reduceToNat, Int.reducePow, Nat.reducePow, Int.reduceMul, Int.reduceDiv, ↓s_law_proper, hH1, f1, hi', h1', n2, n3, n4]
        rfl
      · exact st
  by_cases h2 : k1 = 2
  · have h2' : (k1 = 2) = True := by simp [h2]
    have n1 : ¬ k1 = 1 := by omega
    have n3 : ¬ k1 = 3 := by omega
    have n4 : ¬ k1 = 4 := by omega
    by_cases hu : u1 = 0
    · have hu' : (u1 = 0) = True := by simp [hu]
      by_cases hs : bl s1 = []
      · have hs' : (bl s1 = []) = True := by simp [hs]
        by_cases hb : b1 = false
        · have hb' : (!b1) = true := by simp [hb]
          have e : properP ⟨k1, u1, i1, s1, b1⟩ k1 = true := by unfold properP; simp [hu, hs, hb, h2', n1, n3, n4]
          rw [e]
          unfold Cl.l
          apply pure_of _ (d_law_proper _ _ H) rfl
          rotate_left 2
          · simp (disch := first | with_reducible rfl | assumption | omega | rfl | (simp only [go_sem]; first | done | omega)) only [go_sem, ↓reduceIte, reduceCtorEq, Nat.reduceEqDiff, Nat.reduceAdd, Nat.reduceSub, Nat.reduceMul, Nat.reduceDiv, Nat.reduceMod, Nat.reduceLeDiff, Nat.reduceLT, Nat.reduceBEq, Int.reduceEq, Int.reduceBEq, Int.reduceBNe, Int.reduceLT, Int.reduceLE, Int.reduceAdd, Int.reduceSub, Int.reduceNeg, Int.reduceToNat, Int.reducePow, Nat.reducePow, Int.reduceMul, Int.reduceDiv, ↓s_law_proper, hH1, f1, hu', hs', hb', h2', n1, n3, n4]
            rfl
          · exact st
        · have hb2 : b1 = true := by simpa using hb
          have hb2' : (!b1) = false := by simp [hb2]
          have e : properP ⟨k1, u1, i1, s1, b1⟩ k1 = false := by unfold properP; simp [hu, hs, hb2, h2', n1, n3, n4]
          rw [e]
          unfold Cl.l
          apply pure_of _ (d_law_proper _ _ H) rfl
          rotate_left 2
          · simp (disch := first | with_reducible rfl | assumption | omega | rfl | (simp only [go_sem]; first | done | omega)) only [go_sem, ↓reduceIte, reduceCtorEq, Nat.reduceEqDiff, Nat.reduceAdd, Nat.reduceSub, Nat.reduceMul, Nat.reduceDiv, Nat.reduceMod, Nat.reduceLeDiff, Nat.reduceLT, Nat.reduceBEq, Int.reduceEq, Int.reduceBEq, Int.reduceBNe, Int.reduceLT, Int.reduceLE, Int.reduceAdd, Int.reduceSub, Int.reduceNeg, Int.reduceToNat, Int.reducePow, Nat.reducePow, Int.reduceMul, Int.reduceDiv, ↓s_law_proper, hH1, f1, hu', hs', hb2', h2', n1, n3, n4]
            rfl
          · exact st
      · have hs' := hs
        have e : properP ⟨k1, u1, i1, s1, b1⟩ k1 = false := by unfold properP; simp [hu, hs, h2', n1, n3, n4]
        rw [e]
        unfold Cl.l
        apply pure_of _ (d_law_proper _ _ H) rfl
        rotate_left 2
        · simp (disch := first | with_reducible rfl | assumption | omega | rfl | (simp only [go_sem]; first | done | omega)) only [go_sem, ↓reduceIte, reduceCtorEq, Nat.reduceEqDiff, Nat.reduceAdd, Nat.reduceSub, Nat.reduceMul, Nat.reduceDiv, Nat.reduceMod, Nat.reduceLeDiff, Nat.reduceLT, Nat.reduceBEq, Int.reduceEq, Int.reduceBEq, Int.reduceBNe, Int.reduceLT, Int.reduceLE, Int.reduceAdd, Int.reduceSub, Int.reduceNeg, Int.reduceToNat, Int.reducePow, Nat.reducePow, Int.reduceMul, Int.reduceDiv, ↓s_law_proper, hH1, f1, hu', hs', h2', n1, n3, n4]
          rfl
        · exact st
    · have hu' := hu
      have e : properP ⟨k1, u1, i1, s1, b1⟩ k1 = false := by unfold properP; simp [hu, h2', n1, n3, n4]
      rw [e]
      unfold Cl.l
      apply pure_of _ (d_law_proper _ _ H) rfl
      rotate_left 2
      · simp (disch := first | with_reducible rfl | assumption | omega | rfl | (simp only [go_sem]; first | done | omega)) only [go_sem, ↓reduceIte, reduceCtorEq, Nat.reduceEqDiff, Nat.reduceAdd, Nat.reduceSub, Nat.reduceMul, Nat.reduceDiv, Nat.reduceMod, Nat.reduceLeDiff, Nat.reduceLT, Nat.reduceBEq, Int.reduceEq, Int.reduceBEq, Int.reduceBNe, Int.reduceLT, Int.reduceLE, Int.reduceAdd, Int.reduceSub, Int.reduceNeg, Int.reduceToNat, Int.reducePow, Nat.reducePow, Int.reduceMul, Int.reduceDiv, ↓s_law_proper, hH1, f1, hu', h2', n1, n3, n4]
        rfl
      · exact st
  by_cases h3 : k1 = 3
  · have h3' : (k1 = 3) = True := by simp [h3]
    have n1 : ¬ k1 = 1 := by omega
    have n2 : ¬ k1 = 2 := by omega
    have n4 : ¬ k1 = 4 := by omega
    by_cases hu : u1 = 0
    · have hu' : (u1 = 0) = True := by simp [hu]
      by_cases hi : i1 = 0
      · have hi' : (i1 = 0) = True := by simp [hi]
        by_cases hb : b1 = false
        · have hb' : (!b1) = true := by simp [hb]
          have e : properP ⟨k1, u1, i1, s1, b1⟩ k1 = true := by unfold properP; simp [hu, hi, hb, h3', n1, n2, n4]
          rw [e]
          unfold Cl.l
          apply pure_of _ (d_law_proper _ _ H) rfl
          rotate_left 2
          · simp (disch := first | with_reducible rfl | assumption | omega | rfl | (simp only [go_sem]; first | done | omega)) only [go_sem, ↓reduceIte, reduceCtorEq, Nat.reduceEqDiff, Nat.reduceAdd, Nat.reduceSub, Nat.reduceMul, Nat.reduceDiv, Nat.reduceMod, Nat.reduceLeDiff, Nat.reduceLT, Nat.reduceBEq, Int.reduceEq, Int.reduceBEq, Int.reduceBNe, Int.reduceLT, Int.reduceLE, Int.reduceAdd, Int.reduceSub, Int.reduceNeg, Int.reduceToNat, Int.reducePow, Nat.reducePow, Int.reduceMul, Int.reduceDiv, ↓s_law_proper, hH1, f1, hu', hi', hb', h3', n1, n2, n4]
            rfl
          · exact st
        · have hb2 : b1 = true := by simpa using hb
          have hb2' : (!b1) = false := by simp [hb2]
          have e : properP ⟨k1, u1, i1, s1, b1⟩ k1 = false := by unfold properP; simp [hu, hi, hb2, h3', n1, n2, n4]
          rw [e]
          unfold Cl.l
          apply pure_of _ (d_law_proper _ _ H) rfl
          rotate_left 2
          · simp (disch := first | with_reducible rfl | assumption | omega | rfl | (simp only [go_sem]; first | done | omega)) only [go_sem, ↓reduceIte, reduceCtorEq, Nat.reduceEqDiff, Nat.reduceAdd, Nat.reduceSub, Nat.reduceMul, Nat.reduceDiv, Nat.reduceMod, Nat.reduceLeDiff, Nat.reduceLT, Nat.reduceBEq, Int.reduceEq, Int.reduceBEq, Int.reduceBNe, Int.reduceLT, Int.reduceLE, Int.reduceAdd, Int.reduceSub, Int.reduceNeg, Int.reduceToNat, Int.reducePow, Nat.reducePow, Int.reduceMul, Int.reduceDiv, ↓s_law_proper, hH1, f1, hu', hi', hb2', h3', n1, n2, n4]
            rfl
          · exact st
      · have hi' := hi
        have e : properP ⟨k1, u1, i1, s1, b1⟩ k1 = false := by unfold properP; simp [hu, hi, h3', n1, n2, n4]
        rw [e]
        unfold Cl.l
        apply pure_of _ (d_law_proper _ _ H) rfl
        rotate_left 2
        · simp (disch := first | with_reducible rfl | assumption | omega | rfl | (simp only [go_sem]; first | done | omega)) only [go_sem, ↓reduceIte, reduceCtorEq, Nat.reduceEqDiff, Nat.reduceAdd, Nat.reduceSub, Nat.reduceMul, Nat.reduceDiv, Nat.reduceMod, Nat.reduceLeDiff, Nat.reduceLT, Nat.reduceBEq, Int.reduceEq, Int.reduceBEq, Int.reduceBNe, Int.reduceLT, Int.reduceLE, Int.reduceAdd, Int.reduceSub, Int.reduceNeg, Int.reduceToNat, Int.reducePow, Nat.reducePow, Int.reduceMul, Int.reduceDiv, ↓s_law_proper, hH1, f1, hu', hi', h3', n1, n2, n4]
          rfl
        · exact st
    · have hu' := hu
      have e : properP ⟨k1, u1, i1, s1, b1⟩ k1 = false := by unfold properP; simp [hu, h3', n1, n2, n4]
      rw [e]
      unfold Cl.l
      apply pure_of _ (d_law_proper _ _ H) rfl
      rotate_left 2
      · simp (disch := first | with_reducible rfl | assumption | omega | rfl | (simp only [go_sem]; first | done | omega)) only [go_sem, ↓reduceIte, reduceCtorEq, Nat.reduceEqDiff, Nat.reduceAdd, Nat.reduceSub, Nat.reduceMul, Nat.reduceDiv, Nat.reduceMod, Nat.reduceLeDiff, Nat.reduceLT, Nat.reduceBEq, Int.reduceEq, Int.reduceBEq, Int.reduceBNe, Int.reduceLT, Int.reduceLE, Int.reduceAdd, Int.reduceSub, Int.reduceNeg, Int.reduceToNat, Int.reducePow, Nat.reducePow, Int.reduceMul, Int.reduceDiv, ↓s_law_proper, hH1, f1, hu', h3', n1, n2, n4]
        rfl
      · exact st
  by_cases h4 : k1 = 4
  · have h4' : (k1 = 4) = True := by simp [h4]
    have n1 : ¬ k1 = 1 := by omega
    have n2 : ¬ k1 = 2 := by omega
    have n3 : ¬ k1 = 3 := by omega
    by_cases hu : u1 = 0
    · have hu' : (u1 = 0) = True := by simp [hu]
      by_cases hi : i1 = 0
      · have hi' : (i1 = 0) = True := by simp [hi]
        by_cases hs : bl s1 = []
        · have hs' : (bl s1 = []) = True := by simp [hs]
          have e : properP ⟨k1, u1, i1, s1, b1⟩ k1 = true := by unfold properP; simp [hu, hi, hs, h4', n1, n2, n3]
          rw [e]
          unfold Cl.l
          apply pure_of _ (d_law_proper _ _ H) rfl
          rotate_left 2
          · simp (disch := first | with_reducible rfl | assumption | omega | rfl | (simp only [go_sem]; first | done | omega)) only [go_sem, ↓reduceIte, reduceCtorEq, Nat.reduceEqDiff, Nat.reduceAdd, Nat.reduceSub, Nat.reduceMul, Nat.reduceDiv, Nat.reduceMod, Nat.reduceLeDiff, Nat.reduceLT, Nat.reduceBEq, Int.reduceEq, Int.reduceBEq, Int.reduceBNe, Int.reduceLT, Int.reduceLE, Int.reduceAdd, Int.reduceSub, Int.reduceNeg, Int.reduceToNat, Int.reducePow, Nat.reducePow, Int.reduceMul, Int.reduceDiv, ↓s_law_proper, hH1, f1, hu', hi', hs', h4', n1, n2, n3]
            rfl
          · exact st
        · have hs' := hs
          have e : properP ⟨k1, u1, i1, s1, b1⟩ k1 = false := by unfold properP; simp [hu, hi, hs, h4', n1, n2, n3]
          rw [e]
          unfold Cl.l
          apply pure_of _ (d_law_proper _ _ H) rfl
          rotate_left 2
          · simp (disch := first | with_reducible rfl | assumption | omega | rfl | (simp only [go_sem]; first | done | omega)) only [go_sem, ↓reduceIte, reduceCtorEq, Nat.reduceEqDiff, Nat.reduceAdd, Nat.reduceSub, Nat.reduceMul, Nat.reduceDiv, Nat.reduceMod, Nat.reduceLeDiff, Nat.reduceLT, Nat.reduceBEq, Int.reduceEq, Int.reduceBEq, Int.reduceBNe, Int.reduceLT, Int.reduceLE, Int.reduceAdd, Int.reduceSub, Int.reduceNeg, Int.reduceToNat, Int.reducePow, Nat.reducePow, Int.reduceMul, Int.reduceDiv, ↓s_law_proper, hH1, f1, hu', hi', hs', h4', n1, n2, n3]
            rfl
          · exact st
      · have hi' := hi
        have e : properP ⟨k1, u1, i1, s1, b1⟩ k1 = false := by unfold properP; simp [hu, hi, h4', n1, n2, n3]
        rw [e]
        unfold Cl.l
        apply pure_of _ (d_law_proper _ _ H) rfl
        rotate_left 2
        · simp (disch := first | with_reducible rfl | assumption | omega | rfl | (simp only [go_sem]; first | done | omega)) only [go_sem, ↓reduceIte, reduceCtorEq, Nat.reduceEqDiff, Nat.reduceAdd, Nat.reduceSub, Nat.reduceMul, Nat.reduceDiv, Nat.reduceMod, Nat.reduceLeDiff, Nat.reduceLT, Nat.reduceBEq, Int.reduceEq, Int.reduceBEq, Int.reduceBNe, Int.reduceLT, Int.reduceLE, Int.reduceAdd, Int.reduceSub, Int.reduceNeg, Int.reduceToNat, Int.reducePow, Nat.reducePow, Int.reduceMul, Int.reduceDiv, ↓s_law_proper, hH1, f1, hu', hi', h4', n1, n2, n3]
          rfl
        · exact st
    · have hu' := hu
      have e : properP ⟨k1, u1, i1, s1, b1⟩ k1 = false := by unfold properP; simp [hu, h4', n1, n2, n3]
      rw [e]
      unfold Cl.l
      apply pure_of _ (d_law_proper _ _ H) rfl
      rotate_left 2
      · simp (disch := first | with_reducible rfl | assumption | omega | rfl | (simp only [go_sem]; first | done | omega)) only [go_sem, ↓reduceIte, reduceCtorEq, Nat.reduceEqDiff, Nat.reduceAdd, Nat.reduceSub, Nat.reduceMul, Nat.reduceDiv, Nat.reduceMod, Nat.reduceLeDiff, Nat.reduceLT, Nat.reduceBEq, Int.reduceEq, Int.reduceBEq, Int.reduceBNe, Int.reduceLT, Int.reduceLE, Int.reduceAdd, Int.reduceSub, Int.reduceNeg, Int.reduceToNat, Int.reducePow, Nat.reducePow, Int.reduceMul, Int.reduceDiv, ↓s_law_proper, hH1, f1, hu', h4', n1, n2, n3]
        rfl
      · exact st
  by_cases hu : u1 = 0
  · have hu' : (u1 = 0) = True := by simp [hu]
    by_cases hi : i1 = 0
    · have hi' : (i1 = 0) = True := by simp [hi]
      by_cases hs : bl s1 = []
      · have hs' : (bl s1 = []) = True := by simp [hs]
        by_cases hb : b1 = false
        · have hb' : (!b1) = true := by simp [hb]
          have e : properP ⟨k1, u1, i1, s1, b1⟩ k1 = true := by unfold properP; simp [hu, hi, hs, hb, h1, h2, h3, h4]
          rw [e]
          unfold Cl.l
          apply pure_of _ (d_law_proper _ _ H) rfl
          rotate_left 2
          · simp (disch := first | with_reducible rfl | assumption | omega | rfl | (simp only [go_sem]; first | done | omega)) only [go_sem, ↓reduceIte, reduceCtorEq, Nat.reduceEqDiff, Nat.reduceAdd, Nat.reduceSub, Nat.reduceMul, Nat.reduceDiv, Nat.reduceMod, Nat.reduceLeDiff, Nat.reduceLT, Nat.reduceBEq, Int.reduceEq, Int.reduceBEq, Int.reduceBNe, Int.reduceLT, Int.reduceLE, Int.reduceAdd, Int.reduceSub, Int.reduceNeg, Int.reduceToNat, Int.reducePow, Nat.reducePow, Int.reduceMul, Int.reduceDiv, ↓s_law_proper, hH1, f1, hu', hi', hs', hb', h1, h2, h3, h4]
            rfl
          · exact st
        · have hb2 : b1 = true := by simpa using hb
          have hb2' : (!b1) = false := by simp [hb2]
          have e : properP ⟨k1, u1, i1, s1, b1⟩ k1 = false := by unfold properP; simp [hu, hi, hs, hb2, h1, h2, h3, h4]
          rw [e]
          unfold Cl.l
          apply pure_of _ (d_law_proper _ _ H) rfl
          rotate_left 2
          · simp (disch := first | with_reducible rfl | assumption | omega | rfl | (simp only [go_sem]; first | done | omega)) only [go_sem, ↓reduceIte, reduceCtorEq, Nat.reduceEqDiff, Nat.reduceAdd, Nat.reduceSub, Nat.reduceMul, Nat.reduceDiv, Nat.reduceMod, Nat.reduceLeDiff, Nat.reduceLT, Nat.reduceBEq, Int.reduceEq, Int.reduceBEq, Int.reduceBNe, Int.reduceLT, Int.reduceLE, Int.reduceAdd, Int.reduceSub, Int.reduceNeg, Int.reduceToNat, Int.reducePow, Nat.reducePow, Int.reduceMul, Int.reduceDiv, ↓s_law_proper, hH1, f1, hu', hi', hs', hb2', h1, h2, h3, h4]
            rfl
          · exact st
      · have hs' := hs
        have e : properP ⟨k1, u1, i1, s1, b1⟩ k1 = false := by unfold properP; simp [hu, hi, hs, h1, h2, h3, h4]
        rw [e]
        unfold Cl.l
        apply pure_of _ (d_law_proper _ _ H) rfl
        rotate_left 2
        · simp (disch := first | with_reducible rfl | assumption | omega | rfl | (simp only [go_sem]; first | done | omega)) only [go_sem, ↓reduceIte, reduceCtorEq, Nat.reduceEqDiff, Nat.reduceAdd, Nat.reduceSub, Nat.reduceMul, Nat.reduceDiv, Nat.reduceMod, Nat.reduceLeDiff, Nat.reduceLT, Nat.reduceBEq, Int.reduceEq, Int.reduceBEq, Int.reduceBNe, Int.reduceLT, Int.reduceLE, Int.reduceAdd, Int.reduceSub, Int.reduceNeg, Int.reduceToNat, Int.reducePow, Nat.reducePow, Int.reduceMul, Int.reduceDiv, ↓s_law_proper, hH1, f1, hu', hi', hs', h1, h2, h3, h4]
          rfl
        · exact st
    · have hi' := hi
      have e : properP ⟨k1, u1, i1, s1, b1⟩ k1 = false := by unfold properP; simp [hu, hi, h1, h2, h3, h4]
      rw [e]
      unfold Cl.l
      apply pure_of _ (d_law_proper _ _ H) rfl
      rotate_left 2
      · simp (disch := first | with_reducible rfl | assumption | omega | rfl | (simp only [go_sem]; first | done | omega)) only [go_sem, ↓reduceIte, reduceCtorEq, Nat.reduceEqDiff, Nat.reduceAdd, Nat.reduceSub, Nat.reduceMul, Nat.reduceDiv, Nat.reduceMod, Nat.reduceLeDiff, Nat.reduceLT, Nat.reduceBEq, Int.reduceEq, Int.reduceBEq, Int.reduceBNe, Int.reduceLT, Int.reduceLE, Int.reduceAdd, Int.reduceSub, Int.reduceNeg, Int.reduceToNat, Int.reducePow, Nat.reducePow, Int.reduceMul, Int.reduceDiv, ↓s_law_proper, hH1, f1, hu', hi', h1, h2, h3, h4]
        rfl
      · exact st
  · have hu' := hu
    have e : properP ⟨k1, u1, i1, s1, b1⟩ k1 = false := by unfold properP; simp [hu, h1, h2, h3, h4]
    rw [e]
    unfold Cl.l
    apply pure_of _ (d_law_proper _ _ H) rfl
    rotate_left 2
    · simp (disch := first | with_reducible rfl | assumption | omega | rfl | (simp only [go_sem]; first | done | omega)) only [go_sem, ↓reduceIte, reduceCtorEq, Nat.reduceEqDiff, Nat.reduceAdd, Nat.reduceSub, Nat.reduceMul, Nat.reduceDiv, Nat.reduceMod, Nat.reduceLeDiff, Nat.reduceLT, Nat.reduceBEq, Int.reduceEq, Int.reduceBEq, Int.reduceBNe, Int.reduceLT, Int.reduceLE, Int.reduceAdd, Int.reduceSub, Int.reduceNeg, Int.reduceToNat, Int.reducePow, Nat.reducePow, Int.reduceMul, Int.reduceDiv, ↓s_law_proper, hH1, f1, hu', h1, h2, h3, h4]
      rfl
    · exact st

end Go.Proofs.YtlmhioanjmhaiaaDoor

/-
  Chapter 40: lists of proper cells.
  Conditions: none. By an AI agent.
-/
set_option maxRecDepth 10000
set_option linter.unusedSimpArgs false
set_option linter.unusedVariables false
namespace Go.Proofs.YtlmhioanjmhaiaaDoor
open Go Eng

def xcell (c : Cl) (k : Int) : Cl := ⟨k, if k = 1 then c.u else 0, if k = 2 then c.i else 0, if k = 3 then c.s else mk [], if k = 4 then c.b else false⟩
theorem xcell_eq (c : Cl) (k : Int) : decide (xcell c k = c) = properP c k := by
  obtain ⟨k1, u1, i1, s1, b1⟩ := c
  unfold xcell properP
  apply decide_eq_decide.2
  simp only [Cl.mk.injEq]
  have hs : (mk [] = s1) ↔ (bl s1 = []) := ⟨fun h => by rw [← h, bl_mk], fun h => by rw [← h, mk_bl]⟩
  constructor
  · rintro ⟨h1, h2, h3, h4, h5⟩
    refine ⟨h1.symm, ?_, ?_, ?_, ?_⟩
    · by_cases h : k = 1
      · exact .inl h
      · rw [if_neg h] at h2; exact .inr h2.symm
    · by_cases h : k = 2
      · exact .inl h
      · rw [if_neg h] at h3; exact .inr h3.symm
    · by_cases h : k = 3
      · exact .inl h
      · rw [if_neg h] at h4; exact .inr (hs.1 h4)
    · by_cases h : k = 4
      · exact .inl h
      · rw [if_neg h] at h5; exact .inr h5.symm
  · rintro ⟨h1, h2, h3, h4, h5⟩
    refine ⟨h1.symm, ?_, ?_, ?_, ?_⟩
    · by_cases h : k = 1
      · rw [if_pos h]
      · rw [if_neg h]; exact (h2.resolve_left h).symm
    · by_cases h : k = 2
      · rw [if_pos h]
      · rw [if_neg h]; exact (h3.resolve_left h).symm
    · by_cases h : k = 3
      · rw [if_pos h]
      · rw [if_neg h]; exact hs.2 (h4.resolve_left h)
    · by_cases h : k = 4
      · rw [if_pos h]
      · rw [if_neg h]; exact (h5.resolve_left h).symm

theorem q_rproper (c : Cl) (k : Int) (H : AHeap) : CC F.rows_proper [.agg ⟨c.l⟩, .int .i64 k] H = some (.bool (properP c k), H) := by
  rw [← xcell_eq]
  obtain ⟨k1, u1, i1, s1, b1⟩ := c
  obtain ⟨H1, hH1⟩ : ∃ H1, H.push (.cells [.int .i64 k1, .int .u64 u1, .int .i64 i1, .string s1, .bool b1] T.api_Cell true) = H1 := ⟨_, rfl⟩
  obtain ⟨H2, hH2⟩ : ∃ H2, (H1.push (.cells [.int .i64 0, .int .u64 0, .int .i64 0, .string (mk []), .bool false] T.api_Cell true)).set H1.n (.cells [.int .i64 k, .int .u64 0, .int .i64 0, .string (mk []), .bool false] T.api_Cell true) = H2 := ⟨_, rfl⟩
  have sA : Still H H1 := by rw [← hH1]; exact (Fr.refl H).push _
  have sB : Still H1 H2 := by rw [← hH2]; exact Fr.set ((Fr.refl H1).push _) _ _ (fun h => by omega)
  have nA : H.n < H1.n := by rw [← hH1]; exact Nat.lt_succ_self _
  have f2 : H2.f H1.n = .cells [.int .i64 k, .int .u64 0, .int .i64 0, .string (mk []), .bool false] T.api_Cell true := by rw [← hH2]; exact set_f_eq
  have f1 : H2.f H.n = .cells [.int .i64 k1, .int .u64 u1, .int .i64 i1, .string s1, .bool b1] T.api_Cell true := by
    rw [sB.f nA fun h => h, ← hH1]; exact push_f_eq rfl
  -- behind a store into the new cell
  have fin : ∀ (xs : List Value), ∃ H3, H2.set H1.n (.cells xs T.api_Cell true) = H3 ∧ H3.f H1.n = .cells xs T.api_Cell true ∧ H3.f H.n = .cells [.int .i64 k1, .int .u64 u1, .int .i64 i1, .string s1, .bool b1] T.api_Cell true ∧ Still H H3 := fun xs => by
    refine ⟨_, rfl, set_f_eq, ?_, (sA.trans sB).then (Fr.set (S := fun c => c = H1.n) (Fr.refl H2) _ _ fun _ => rfl) fun b hb h => by omega⟩
    rw [(Fr.set (S := fun c => c = H1.n) (Fr.refl H2) H1.n (.cells xs T.api_Cell true) fun _ => rfl).f (Nat.lt_of_lt_of_le nA sB.n) (by omega)]
    exact f1
  have ce : ∀ (x : Cl) ox oy, xbin Tryd.prog .eql T.api_Cell ox oy (.agg ⟨x.l⟩) (.agg ⟨[.int .i64 k1, .int .u64 u1, .int .i64 i1, .string s1, .bool b1]⟩) = some (.bool (decide (x = ⟨k1, u1, i1, s1, b1⟩))) := fun x ox oy => cell_eq (b := ⟨k1, u1, i1, s1, b1⟩)
  show CC F.rows_proper [.agg ⟨[.int .i64 k1, .int .u64 u1, .int .i64 i1, .string s1, .bool b1]⟩, .int .i64 k] H = _
  by_cases h1 : k = 1
  · subst h1
    obtain ⟨H3, e3, g3, g4, s3⟩ := fin [.int .i64 1, .int .u64 u1, .int .i64 0, .string (mk []), .bool false]
    have c := ce ⟨1, u1, 0, mk [], false⟩
    unfold Cl.l at c
    dsimp only at c
    apply pure_of _ (d_rows_proper _ _ H) rfl
    rotate_left 2
    · simp (disch := first | with_reducible rfl | assumption | omega | rfl | (simp only [go_sem]; first | done | omega)) only [go_sem, ↓reduceIte, reduceCtorEq, Nat.reduceEqDiff, Nat.reduceAdd, Nat.reduceSub, Nat.reduceMul, Nat.reduceDiv, Nat.reduceMod, Nat.reduceLeDiff, Nat.reduceLT, Nat.reduceBEq, Int.reduceEq, Int.reduceBEq, Int.reduceBNe, Int.reduceLT, Int.reduceLE, Int.reduceAdd, Int.reduceSub, Int.reduceNeg, Int.reduceToNat, Int.reducePow, Nat.reducePow, Int.reduceMul, Int.reduceDiv, ↓s_rows_proper, hH1, hH2, f1, f2, e3, g3, g4, c]
      rfl
    · exact s3
  by_cases h2 : k = 2
  · subst h2
    obtain ⟨H3, e3, g3, g4, s3⟩ := fin [.int .i64 2, .int .u64 0, .int .i64 i1, .string (mk []), .bool false]
    have c := ce ⟨2, 0, i1, mk [], false⟩
    unfold Cl.l at c
    dsimp only at c
    apply pure_of _ (d_rows_proper _ _ H) rfl
    rotate_left 2
    · simp (disch := first | with_reducible rfl | assumption | omega | rfl | (simp only [go_sem]; first | done | omega)) only [go_sem, ↓reduceIte, reduceCtorEq, Nat.reduceEqDiff, Nat.reduceAdd, Nat.reduceSub, Nat.reduceMul, Nat.reduceDiv, Nat.reduceMod, Nat.reduceLeDiff, Nat.reduceLT, Nat.reduceBEq, Int.reduceEq, Int.reduceBEq, Int.reduceBNe, Int.reduceLT, Int.reduceLE, Int.reduceAdd, Int.reduceSub, Int.reduceNeg, Int.reduceToNat, Int.reducePow, Nat.reducePow, Int.reduceMul, Int.reduceDiv, ↓s_rows_proper, hH1, hH2, f1, f2, e3, g3, g4, c]
      rfl
    · exact s3
  by_cases h3 : k = 3
  · subst h3
    obtain ⟨H3, e3, g3, g4, s3⟩ := fin [.int .i64 3, .int .u64 0, .int .i64 0, .string s1, .bool false]
    have c := ce ⟨3, 0, 0, s1, false⟩
    unfold Cl.l at c
    dsimp only at c
    apply pure_of _ (d_rows_proper _ _ H) rfl
    rotate_left 2
    · simp (disch := first | with_reducible rfl | assumption | omega | rfl | (simp only [go_sem]; first | done | omega)) only [go_sem, ↓reduceIte, reduceCtorEq, Nat.reduceEqDiff, Nat.reduceAdd, Nat.reduceSub, Nat.reduceMul, Nat.reduceDiv, Nat.reduceMod, Nat.reduceLeDiff, Nat.reduceLT, Nat.reduceBEq, Int.reduceEq, Int.reduceBEq, Int.reduceBNe, Int.reduceLT, Int.reduceLE, Int.reduceAdd, Int.reduceSub, Int.reduceNeg, Int.reduceToNat, Int.reducePow, Nat.reducePow, Int.reduceMul, Int.reduceDiv, ↓s_rows_proper, hH1, hH2, f1, f2, e3, g3, g4, c]
      rfl
    · exact s3
  by_cases h4 : k = 4
  · subst h4
    obtain ⟨H3, e3, g3, g4, s3⟩ := fin [.int .i64 4, .int .u64 0, .int .i64 0, .string (mk []), .bool b1]
    have c := ce ⟨4, 0, 0, mk [], b1⟩
    unfold Cl.l at c
    dsimp only at c
    apply pure_of _ (d_rows_proper _ _ H) rfl
    rotate_left 2
    · simp (disch := first | with_reducible rfl | assumption | omega | rfl | (simp only [go_sem]; first | done | omega)) only [go_sem, ↓reduceIte, reduceCtorEq, Nat.reduceEqDiff, Nat.reduceAdd, Nat.reduceSub, Nat.reduceMul, Nat.reduceDiv, Nat.reduceMod, Nat.reduceLeDiff, Nat.reduceLT, Nat.reduceBEq, Int.reduceEq, Int.reduceBEq, Int.reduceBNe, Int.reduceLT, Int.reduceLE, Int.reduceAdd, Int.reduceSub, Int.reduceNeg, Int.reduceToNat, Int.reducePow, Nat.reducePow, Int.reduceMul, Int.reduceDiv, ↓s_rows_proper, hH1, hH2, f1, f2, e3, g3, g4, c]
      rfl
    · exact s3
  · have c := ce ⟨k, 0, 0, mk [], false⟩
    unfold Cl.l at c
    dsimp only at c
    have e : xcell ⟨k1, u1, i1, s1, b1⟩ k = ⟨k, 0, 0, mk [], false⟩ := by unfold xcell; simp [h1, h2, h3, h4]
    rw [e]
    apply pure_of _ (d_rows_proper _ _ H) rfl
    rotate_left 2
    · simp (disch := first | with_reducible rfl | assumption | omega | rfl | (simp only [go_sem]; first | done | omega)) only [go_sem, ↓reduceIte, reduceCtorEq, Nat.reduceEqDiff, Nat.reduceAdd, Nat.reduceSub, Nat.reduceMul, Nat.reduceDiv, Nat.reduceMod, Nat.reduceLeDiff, Nat.reduceLT, Nat.reduceBEq, Int.reduceEq, Int.reduceBEq, Int.reduceBNe, Int.reduceLT, Int.reduceLE, Int.reduceAdd, Int.reduceSub, Int.reduceNeg, Int.reduceToNat, Int.reducePow, Nat.reducePow, Int.reduceMul, Int.reduceDiv, ↓s_rows_proper, hH1, hH2, f1, f2, h1, h2, h3, h4, c]
      rfl
    · exact sA.trans sB

/-! ### are, first -/
def are2 : List Cl → List Int → Bool
  | [], _ => true
  | _ :: _, [] => false
  | c :: l, k :: ks => properP c k && are2 l ks

theorem l_are (l : List Cl) (ks : List Int) (v w : Value) (H0 : AHeap) (hv : Rd ECl H0 v l) (hw : KR H0 w ks) (hl : l.length = ks.length) (h1 : l.length ≤ 1000) : ∀ (t : List Cl) (kt : List Int) (i : Nat) (H : AHeap), l.drop i = t → ks.drop i = kt → Still H0 H →
    (are2 t kt = true → ∃ H', Still H0 H' ∧ ∀ K : K, l_rows_are_0 w v (.int .i64 (l.length : Int)) (.int .i64 (i : Int)) H (blkK [] 0 K) = K .normal [] H') ∧
    (are2 t kt = false → ∃ H', Still H0 H' ∧ ∀ K : K, l_rows_are_0 w v (.int .i64 (l.length : Int)) (.int .i64 (i : Int)) H (blkK [] 0 K) = K .ret [(4, .bool false)] H')
  | [], kt, i, H, hx, hy, s => by
    have h : l.length ≤ i := List.drop_eq_nil_iff.1 hx
    have hlt : ¬ (i : Int) < (l.length : Int) := by omega
    refine ⟨fun _ => ⟨H, s, fun K => ?_⟩, fun h => by simp [are2] at h⟩
    rw [r_rows_are_0]
    simp (disch := first | with_reducible rfl | assumption | omega | rfl | (simp only [go_sem]; first | done | omega)) only [go_sem, ↓reduceIte, reduceCtorEq, Nat.reduceEqDiff, Nat.reduceAdd, Nat.reduceSub, Nat.reduceMul, Nat.reduceDiv, Nat.reduceMod, Nat.reduceLeDiff, Nat.reduceLT, Nat.reduceBEq, Int.reduceEq, Int.reduceBEq, Int.reduceBNe, Int.reduceLT, Int.reduceLE, Int.reduceAdd, Int.reduceSub, Int.reduceNeg, Int.reduceToNat, Int.reducePow, Nat.reducePow, Int.reduceMul, Int.reduceDiv, ↓s_rows_are_b0, hlt]
  | c :: t, [], i, H, hx, hy, s => by
    obtain ⟨h, _⟩ := drop_cons hx
    have h2 : ks.length ≤ i := List.drop_eq_nil_iff.1 hy
    omega
  | c :: t, k :: kt, i, H, hx, hy, s => by
    obtain ⟨h, hxa, hx'⟩ := drop_cons hx
    obtain ⟨h2, hyb, hy'⟩ := drop_cons hy
    have hlt : (i : Int) < (l.length : Int) := by omega
    obtain ⟨b1, o1, i1, c1, _⟩ := rd_cell (hv.still s) h
    rw [hxa] at c1
    obtain ⟨H1, hH1⟩ : ∃ H1, (H.push (.cells [.int .i64 0, .int .u64 0, .int .i64 0, .string (mk []), .bool false] T.api_Cell true)).set H.n (.cells c.l T.api_Cell true) = H1 := ⟨_, rfl⟩
    have s1 : Still H H1 := by rw [← hH1]; exact Fr.set ((Fr.refl H).push _) _ _ (fun h => by omega)
    have f1 : H1.f H.n = .cells c.l T.api_Cell true := by rw [← hH1]; exact set_f_eq
    obtain ⟨b2, o2, i2, c2⟩ := rd_kind ((hw.still s).still s1) h2 (iv := (i : Int)) rfl
    rw [hyb] at c2
    have m1 := q_rproper c k H1
    obtain ⟨ih1, ih2⟩ := l_are l ks v w H0 hv hw hl h1 t kt (i + 1) H1 hx' hy' (s.trans s1)
    unfold Cl.l at hH1 f1 c1 m1
    rw [show are2 (c :: t) (k :: kt) = (properP c k && are2 t kt) from rfl]
    cases hp : properP c k with
    | false =>
      rw [hp] at m1
      rw [Bool.false_and]
      refine ⟨fun h => by simp at h, fun _ => ⟨H1, s.trans s1, fun K => ?_⟩⟩
      rw [r_rows_are_0]
      simp (disch := first | with_reducible rfl | assumption | omega | rfl | (simp only [go_sem]; first | done | omega)) only [go_sem, ↓reduceIte, reduceCtorEq, Nat.reduceEqDiff, Nat.reduceAdd, Nat.reduceSub, Nat.reduceMul, Nat.reduceDiv, Nat.reduceMod, Nat.reduceLeDiff, Nat.reduceLT, Nat.reduceBEq, Int.reduceEq, Int.reduceBEq, Int.reduceBNe, Int.reduceLT, Int.reduceLE, Int.reduceAdd, Int.reduceSub, Int.reduceNeg, Int.reduceToNat, Int.reducePow, Nat.reducePow, Int.reduceMul, Int.reduceDiv, ↓s_rows_are_b0, hlt, i1, c1, hH1, f1, i2, c2, enterK_eq m1]
    | true =>
      rw [hp] at m1
      rw [Bool.true_and]
      refine ⟨fun h3 => ?_, fun h3 => ?_⟩
      · obtain ⟨H', s', e'⟩ := ih1 h3
        refine ⟨H', s', fun K => ?_⟩
        have := e' K
        rw [r_rows_are_0]
        simp (disch := first | with_reducible rfl | assumption | omega | rfl | (simp only [go_sem]; first | done | omega)) only [go_sem, ↓reduceIte, reduceCtorEq, Nat.reduceEqDiff, Nat.reduceAdd, Nat.reduceSub, Nat.reduceMul, Nat.reduceDiv, Nat.reduceMod, Nat.reduceLeDiff, Nat.reduceLT, Nat.reduceBEq, Int.reduceEq, Int.reduceBEq, Int.reduceBNe, Int.reduceLT, Int.reduceLE, Int.reduceAdd, Int.reduceSub, Int.reduceNeg, Int.reduceToNat, Int.reducePow, Nat.reducePow, Int.reduceMul, Int.reduceDiv, ↓s_rows_are_b0, hlt, i1, c1, hH1, f1, i2, c2, enterK_eq m1]
        exact this
      · obtain ⟨H', s', e'⟩ := ih2 h3
        refine ⟨H', s', fun K => ?_⟩
        have := e' K
        rw [r_rows_are_0]
        simp (disch := first | with_reducible rfl | assumption | omega | rfl | (simp only [go_sem]; first | done | omega)) only [go_sem, ↓reduceIte, reduceCtorEq, Nat.reduceEqDiff, Nat.reduceAdd, Nat.reduceSub, Nat.reduceMul, Nat.reduceDiv, Nat.reduceMod, Nat.reduceLeDiff, Nat.reduceLT, Nat.reduceBEq, Int.reduceEq, Int.reduceBEq, Int.reduceBNe, Int.reduceLT, Int.reduceLE, Int.reduceAdd, Int.reduceSub, Int.reduceNeg, Int.reduceToNat, Int.reducePow, Nat.reducePow, Int.reduceMul, Int.reduceDiv, ↓s_rows_are_b0, hlt, i1, c1, hH1, f1, i2, c2, enterK_eq m1]
        exact this

def areP (l : List Cl) (ks : List Int) : Bool := decide (l.length = ks.length) && are2 l ks
theorem q_are (l : List Cl) (ks : List Int) (v w : Value) (H : AHeap) (hv : Rd ECl H v l) (hw : KR H w ks) (h1 : l.length ≤ 1000) : CC F.rows_are [v, w] H = some (.bool (areP l ks), H) := by
  have l1 := hv.lenS
  have l2 := hw.1.lenS
  unfold areP
  by_cases hl : l.length = ks.length
  · have he : ((l.length : Int) = (ks.length : Int)) = True := by simp [hl]
    rw [decide_eq_true hl, Bool.true_and]
    obtain ⟨z1, z2⟩ := l_are l ks v w H hv hw hl h1 l ks 0 H rfl rfl (Fr.refl H)
    cases h : are2 l ks with
    | true =>
      obtain ⟨H', s', z1⟩ := z1 h
      have z1 : ∀ K : K, l_rows_are_0 w v (.int .i64 (l.length : Int)) (.int .i64 0) H (blkK [] 0 K) = K .normal [] H' := z1
      apply pure_of _ (d_rows_are _ _ H) rfl
      rotate_left 2
      · simp (disch := first | with_reducible rfl | assumption | omega | rfl | (simp only [go_sem]; first | done | omega)) only [go_sem, ↓reduceIte, reduceCtorEq, Nat.reduceEqDiff, Nat.reduceAdd, Nat.reduceSub, Nat.reduceMul, Nat.reduceDiv, Nat.reduceMod, Nat.reduceLeDiff, Nat.reduceLT, Nat.reduceBEq, Int.reduceEq, Int.reduceBEq, Int.reduceBNe, Int.reduceLT, Int.reduceLE, Int.reduceAdd, Int.reduceSub, Int.reduceNeg, Int.reduceToNat, Int.reducePow, Nat.reducePow, Int.reduceMul, Int.reduceDiv, ↓s_rows_are, l1, l2, he, z1]
        rfl
      · exact s'
    | false =>
      obtain ⟨H', s', z2⟩ := z2 h
      have z2 : ∀ K : K, l_rows_are_0 w v (.int .i64 (l.length : Int)) (.int .i64 0) H (blkK [] 0 K) = K .ret [(4, .bool false)] H' := z2
      apply pure_of _ (d_rows_are _ _ H) rfl
      rotate_left 2
      · simp (disch := first | with_reducible rfl | assumption | omega | rfl | (simp only [go_sem]; first | done | omega)) only [go_sem, ↓reduceIte, reduceCtorEq, Nat.reduceEqDiff, Nat.reduceAdd, Nat.reduceSub, Nat.reduceMul, Nat.reduceDiv, Nat.reduceMod, Nat.reduceLeDiff, Nat.reduceLT, Nat.reduceBEq, Int.reduceEq, Int.reduceBEq, Int.reduceBNe, Int.reduceLT, Int.reduceLE, Int.reduceAdd, Int.reduceSub, Int.reduceNeg, Int.reduceToNat, Int.reducePow, Nat.reducePow, Int.reduceMul, Int.reduceDiv, ↓s_rows_are, l1, l2, he, z2]
        rfl
      · exact s'
  · have he : ¬ ((l.length : Int) = (ks.length : Int)) := by omega
    rw [decide_eq_false hl, Bool.false_and]
    apply pure_of _ (d_rows_are _ _ H) rfl
    rotate_left 2
    · simp (disch := first | with_reducible rfl | assumption | omega | rfl | (simp only [go_sem]; first | done | omega)) only [go_sem, ↓reduceIte, reduceCtorEq, Nat.reduceEqDiff, Nat.reduceAdd, Nat.reduceSub, Nat.reduceMul, Nat.reduceDiv, Nat.reduceMod, Nat.reduceLeDiff, Nat.reduceLT, Nat.reduceBEq, Int.reduceEq, Int.reduceBEq, Int.reduceBNe, Int.reduceLT, Int.reduceLE, Int.reduceAdd, Int.reduceSub, Int.reduceNeg, Int.reduceToNat, Int.reducePow, Nat.reducePow, Int.reduceMul, Int.reduceDiv, ↓s_rows_are, l1, l2, he]
      rfl
    · (repeat (first | exact Fr.refl _ | refine Fr.push ?_ _ | refine Fr.set ?_ _ _ (by intro h; first | omega | (simp only [go_sem] at h; omega))))

end Go.Proofs.YtlmhioanjmhaiaaDoor

/-
  Chapter 40: first, Valid.
  Conditions: none. By an AI agent.
-/
set_option maxRecDepth 10000
set_option linter.unusedSimpArgs false
set_option linter.unusedVariables false
namespace Go.Proofs.YtlmhioanjmhaiaaDoor
open Go Eng

theorem l_first (n : Int) (kv rv : Value) (kl rl : List Int) (bt : Nat) (l : List Cl) (v : Value) (H : AHeap) (hk : KR H kv kl) (hr : KR H rv rl) (hv : Rd ECl H v l) (hf : H.f bt = .cells [.int .i64 n, kv, rv] T.api_Table true) (h8 : kl.length ≤ 1000) (h8' : rl.length ≤ 1000) (hl : l.length ≤ (kl ++ rl).length) : ∀ (t : List Cl) (kt : List Int) (i : Nat), l.drop i = t → (kl ++ rl).drop i = kt →
    (are2 t kt = true → ∀ K : K, l_law_first_0 v (.pointer (some ⟨bt, 0, none⟩)) (.int .i64 (i : Int)) H (blkK [] 0 K) = K .normal [] H) ∧
    (are2 t kt = false → ∀ K : K, l_law_first_0 v (.pointer (some ⟨bt, 0, none⟩)) (.int .i64 (i : Int)) H (blkK [] 0 K) = K .ret [(4, .bool false)] H)
  | [], kt, i, hx, hy => by
    have h : l.length ≤ i := List.drop_eq_nil_iff.1 hx
    have hlt : ¬ (i : Int) < (l.length : Int) := by omega
    have hlen := hv.lenS
    refine ⟨fun _ K => ?_, fun h => by simp [are2] at h⟩
    rw [r_law_first_0]
    simp (disch := first | with_reducible rfl | assumption | omega | rfl | (simp only [go_sem]; first | done | omega)) only [go_sem, ↓reduceIte, reduceCtorEq, Nat.reduceEqDiff, Nat.reduceAdd, Nat.reduceSub, Nat.reduceMul, Nat.reduceDiv, Nat.reduceMod, Nat.reduceLeDiff, Nat.reduceLT, Nat.reduceBEq, Int.reduceEq, Int.reduceBEq, Int.reduceBNe, Int.reduceLT, Int.reduceLE, Int.reduceAdd, Int.reduceSub, Int.reduceNeg, Int.reduceToNat, Int.reducePow, Nat.reducePow, Int.reduceMul, Int.reduceDiv, ↓s_law_first_b0, hlen, hlt]
  | c :: t, [], i, hx, hy => by
    obtain ⟨h, _⟩ := drop_cons hx
    have h2 : (kl ++ rl).length ≤ i := List.drop_eq_nil_iff.1 hy
    omega
  | c :: t, k :: kt, i, hx, hy => by
    obtain ⟨h, hxa, hx'⟩ := drop_cons hx
    obtain ⟨h2, hyb, hy'⟩ := drop_cons hy
    have hlt : (i : Int) < (l.length : Int) := by simp at hl; omega
    have hi3 : (i : Int) < 3000 := by simp at h2; omega
    have hlen := hv.lenS
    obtain ⟨b1, o1, i1, c1, _⟩ := rd_cell hv h
    rw [hxa] at c1
    have m1 := q_kindAt n kv rv kl rl i H hk hr h8 h8' h2
    rw [hyb] at m1
    have m2 := q_lproper c k H
    obtain ⟨k1, k2⟩ := l_first n kv rv kl rl bt l v H hk hr hv hf h8 h8' hl t kt (i + 1) hx' hy'
    rw [Int.natCast_add] at k1 k2
    rw [show are2 (c :: t) (k :: kt) = (properP c k && are2 t kt) from rfl]
    unfold Cl.l at c1 m2
    cases hp : properP c k with
    | false =>
      rw [hp] at m2
      rw [Bool.false_and]
      refine ⟨fun h => by simp at h, fun _ K => ?_⟩
      rw [r_law_first_0]
      simp (disch := first | with_reducible rfl | assumption | omega | rfl | (simp only [go_sem]; first | done | omega)) only [go_sem, ↓reduceIte, reduceCtorEq, Nat.reduceEqDiff, Nat.reduceAdd, Nat.reduceSub, Nat.reduceMul, Nat.reduceDiv, Nat.reduceMod, Nat.reduceLeDiff, Nat.reduceLT, Nat.reduceBEq, Int.reduceEq, Int.reduceBEq, Int.reduceBNe, Int.reduceLT, Int.reduceLE, Int.reduceAdd, Int.reduceSub, Int.reduceNeg, Int.reduceToNat, Int.reducePow, Nat.reducePow, Int.reduceMul, Int.reduceDiv, ↓s_law_first_b0, hlen, hlt, i1, c1, hf, enterK_eq m1, enterK_eq m2]
    | true =>
      rw [hp] at m2
      rw [Bool.true_and]
      refine ⟨fun h3 K => ?_, fun h3 K => ?_⟩
      · have := k1 h3 K
        rw [r_law_first_0]
        simp (disch := first | with_reducible rfl | assumption | omega | rfl | (simp only [go_sem]; first | done | omega)) only [go_sem, ↓reduceIte, reduceCtorEq, Nat.reduceEqDiff, Nat.reduceAdd, Nat.reduceSub, Nat.reduceMul, Nat.reduceDiv, Nat.reduceMod, Nat.reduceLeDiff, Nat.reduceLT, Nat.reduceBEq, Int.reduceEq, Int.reduceBEq, Int.reduceBNe, Int.reduceLT, Int.reduceLE, Int.reduceAdd, Int.reduceSub, Int.reduceNeg, Int.reduceToNat, Int.reducePow, Nat.reducePow, Int.reduceMul, Int.reduceDiv, ↓s_law_first_b0, hlen, hlt, i1, c1, hf, enterK_eq m1, enterK_eq m2]
        exact this
      · have := k2 h3 K
        rw [r_law_first_0]
        simp (disch := first | with_reducible rfl | assumption | omega | rfl | (simp only [go_sem]; first | done | omega)) only [go_sem, ↓reduceIte, reduceCtorEq, Nat.reduceEqDiff, Nat.reduceAdd, Nat.reduceSub, Nat.reduceMul, Nat.reduceDiv, Nat.reduceMod, Nat.reduceLeDiff, Nat.reduceLT, Nat.reduceBEq, Int.reduceEq, Int.reduceBEq, Int.reduceBNe, Int.reduceLT, Int.reduceLE, Int.reduceAdd, Int.reduceSub, Int.reduceNeg, Int.reduceToNat, Int.reducePow, Nat.reducePow, Int.reduceMul, Int.reduceDiv, ↓s_law_first_b0, hlen, hlt, i1, c1, hf, enterK_eq m1, enterK_eq m2]
        exact this

def firstP (l : List Cl) (ks : List Int) : Bool := decide (l.length ≤ ks.length) && are2 l ks
theorem q_first (n : Int) (kv rv : Value) (kl rl : List Int) (l : List Cl) (v : Value) (H : AHeap) (hk : KR H kv kl) (hr : KR H rv rl) (hv : Rd ECl H v l) (h8 : kl.length ≤ 1000) (h8' : rl.length ≤ 1000) :
    CC F.law_first [tbV n kv rv, v] H = some (.bool (firstP l (kl ++ rl)), H) := by
  obtain ⟨H1, hH1⟩ : ∃ H1, H.push (.cells [.int .i64 n, kv, rv] T.api_Table true) = H1 := ⟨_, rfl⟩
  have s1 : Still H H1 := by rw [← hH1]; exact (Fr.refl H).push _
  have f1 : H1.f H.n = .cells [.int .i64 n, kv, rv] T.api_Table true := by rw [← hH1]; exact push_f_eq rfl
  have lk := hk.1.lenS
  have lr := hr.1.lenS
  have lv := hv.lenS
  unfold firstP
  by_cases hl : (kl.length : Int) + (rl.length : Int) < (l.length : Int)
  · rw [decide_eq_false (show ¬ l.length ≤ (kl ++ rl).length by simp; omega), Bool.false_and]
    apply pure_of _ (d_law_first _ _ H) rfl
    rotate_left 2
    · simp (disch := first | with_reducible rfl | assumption | omega | rfl | (simp only [go_sem]; first | done | omega)) only [go_sem, ↓reduceIte, reduceCtorEq, Nat.reduceEqDiff, Nat.reduceAdd, Nat.reduceSub, Nat.reduceMul, Nat.reduceDiv, Nat.reduceMod, Nat.reduceLeDiff, Nat.reduceLT, Nat.reduceBEq, Int.reduceEq, Int.reduceBEq, Int.reduceBNe, Int.reduceLT, Int.reduceLE, Int.reduceAdd, Int.reduceSub, Int.reduceNeg, Int.reduceToNat, Int.reducePow, Nat.reducePow, Int.reduceMul, Int.reduceDiv, ↓s_law_first, hH1, f1, lk, lr, lv, hl]
      rfl
    · exact s1
  · have hl2 : l.length ≤ (kl ++ rl).length := by simp; omega
    rw [decide_eq_true hl2, Bool.true_and]
    obtain ⟨z1, z2⟩ := l_first n kv rv kl rl H.n l v H1 (hk.still s1) (hr.still s1) (hv.still s1) f1 h8 h8' hl2 l (kl ++ rl) 0 rfl rfl
    cases h : are2 l (kl ++ rl) with
    | true =>
      have z1 : ∀ K : K, l_law_first_0 v (.pointer (some ⟨H.n, 0, none⟩)) (.int .i64 0) H1 (blkK [] 0 K) = K .normal [] H1 := z1 h
      apply pure_of _ (d_law_first _ _ H) rfl
      rotate_left 2
      · simp (disch := first | with_reducible rfl | assumption | omega | rfl | (simp only [go_sem]; first | done | omega)) only [go_sem, ↓reduceIte, reduceCtorEq, Nat.reduceEqDiff, Nat.reduceAdd, Nat.reduceSub, Nat.reduceMul, Nat.reduceDiv, Nat.reduceMod, Nat.reduceLeDiff, Nat.reduceLT, Nat.reduceBEq, Int.reduceEq, Int.reduceBEq, Int.reduceBNe, Int.reduceLT, Int.reduceLE, Int.reduceAdd, Int.reduceSub, Int.reduceNeg, Int.reduceToNat, Int.reducePow, Nat.reducePow, Int.reduceMul, Int.reduceDiv, ↓s_law_first, hH1, f1, lk, lr, lv, hl, z1]
        rfl
      · exact s1
    | false =>
      have z2 : ∀ K : K, l_law_first_0 v (.pointer (some ⟨H.n, 0, none⟩)) (.int .i64 0) H1 (blkK [] 0 K) = K .ret [(4, .bool false)] H1 := z2 h
      apply pure_of _ (d_law_first _ _ H) rfl
      rotate_left 2
      · simp (disch := first | with_reducible rfl | assumption | omega | rfl | (simp only [go_sem]; first | done | omega)) only [go_sem, ↓reduceIte, reduceCtorEq, Nat.reduceEqDiff, Nat.reduceAdd, Nat.reduceSub, Nat.reduceMul, Nat.reduceDiv, Nat.reduceMod, Nat.reduceLeDiff, Nat.reduceLT, Nat.reduceBEq, Int.reduceEq, Int.reduceBEq, Int.reduceBNe, Int.reduceLT, Int.reduceLE, Int.reduceAdd, Int.reduceSub, Int.reduceNeg, Int.reduceToNat, Int.reducePow, Nat.reducePow, Int.reduceMul, Int.reduceDiv, ↓s_law_first, hH1, f1, lk, lr, lv, hl, z2]
        rfl
      · exact s1

/-! ### Valid -/
theorem q_kind (k : Int) (H : AHeap) : CC F.rows_kind [.int .i64 k] H = some (.bool (kindP k), H) := by
  unfold kindP
  by_cases h1 : 1 ≤ k
  · rw [decide_eq_true h1, Bool.true_and]
    apply pure_of _ (d_rows_kind _ H) rfl
    rotate_left 2
    · simp (disch := first | with_reducible rfl | assumption | omega | rfl | (simp only [go_sem]; first | done | omega)) only [go_sem, ↓reduceIte, reduceCtorEq, Nat.reduceEqDiff, Nat.reduceAdd, Nat.reduceSub, Nat.reduceMul, Nat.reduceDiv, Nat.reduceMod, Nat.reduceLeDiff, Nat.reduceLT, Nat.reduceBEq, Int.reduceEq, Int.reduceBEq, Int.reduceBNe, Int.reduceLT, Int.reduceLE, Int.reduceAdd, Int.reduceSub, Int.reduceNeg, Int.reduceToNat, Int.reducePow, Nat.reducePow, Int.reduceMul, Int.reduceDiv, ↓s_rows_kind, h1]
      rfl
    · (repeat (first | exact Fr.refl _ | refine Fr.push ?_ _ | refine Fr.set ?_ _ _ (by intro h; first | omega | (simp only [go_sem] at h; omega))))
  · rw [decide_eq_false h1, Bool.false_and]
    apply pure_of _ (d_rows_kind _ H) rfl
    rotate_left 2
    · simp (disch := first | with_reducible rfl | assumption | omega | rfl | (simp only [go_sem]; first | done | omega)) only [go_sem, ↓reduceIte, reduceCtorEq, Nat.reduceEqDiff, Nat.reduceAdd, Nat.reduceSub, Nat.reduceMul, Nat.reduceDiv, Nat.reduceMod, Nat.reduceLeDiff, Nat.reduceLT, Nat.reduceBEq, Int.reduceEq, Int.reduceBEq, Int.reduceBNe, Int.reduceLT, Int.reduceLE, Int.reduceAdd, Int.reduceSub, Int.reduceNeg, Int.reduceToNat, Int.reducePow, Nat.reducePow, Int.reduceMul, Int.reduceDiv, ↓s_rows_kind, h1]
      rfl
    · (repeat (first | exact Fr.refl _ | refine Fr.push ?_ _ | refine Fr.set ?_ _ _ (by intro h; first | omega | (simp only [go_sem] at h; omega))))
theorem q_Valid_1 (x : Int) (H : AHeap) : CC F.rows_Valid_1 [.int .i64 x] H = some (.bool (!kindP x), H) := by
  have m1 := q_kind x H
  apply pure_of _ (d_rows_Valid_1 _ H) rfl
  rotate_left 2
  · simp (disch := first | with_reducible rfl | assumption | omega | rfl | (simp only [go_sem]; first | done | omega)) only [go_sem, ↓reduceIte, reduceCtorEq, Nat.reduceEqDiff, Nat.reduceAdd, Nat.reduceSub, Nat.reduceMul, Nat.reduceDiv, Nat.reduceMod, Nat.reduceLeDiff, Nat.reduceLT, Nat.reduceBEq, Int.reduceEq, Int.reduceBEq, Int.reduceBNe, Int.reduceLT, Int.reduceLE, Int.reduceAdd, Int.reduceSub, Int.reduceNeg, Int.reduceToNat, Int.reducePow, Nat.reducePow, Int.reduceMul, Int.reduceDiv, ↓s_rows_Valid_1, enterK_eq m1]
    rfl
  · (repeat (first | exact Fr.refl _ | refine Fr.push ?_ _ | refine Fr.set ?_ _ _ (by intro h; first | omega | (simp only [go_sem] at h; omega))))
@[go_sem, go_sem ↓] theorem e_Valid_1 (x : Int) (H : AHeap) {k : Value → AHeap → Res} : enterK CC F.rows_Valid_1 [.int .i64 x] H k = k (.bool (!kindP x)) H := enterK_eq (q_Valid_1 x H)

theorem l_index (l : List Int) (v : Value) (H : AHeap) (hr : KR H v l) (hl : l.length ≤ 1000) : ∀ (t : List Int) (i : Nat), l.drop i = t →
    (t.all kindP = true → ∀ K : K, l_slices_IndexFunc_CellKind_0 v (.func (.func F.rows_Valid_1) #[] #[]) (.int .i64 (l.length : Int)) (.int .i64 (i : Int)) H (blkK [] 0 K) = K .normal [] H) ∧
    (t.all kindP = false → ∃ j : Int, 0 ≤ j ∧ ∀ K : K, l_slices_IndexFunc_CellKind_0 v (.func (.func F.rows_Valid_1) #[] #[]) (.int .i64 (l.length : Int)) (.int .i64 (i : Int)) H (blkK [] 0 K) = K .ret [(4, .int .i64 j)] H)
  | [], i, hx => by
    have h : l.length ≤ i := List.drop_eq_nil_iff.1 hx
    have hlt : ¬ (i : Int) < (l.length : Int) := by omega
    refine ⟨fun _ K => ?_, fun h => by simp at h⟩
    rw [r_slices_IndexFunc_CellKind_0]
    simp (disch := first | with_reducible rfl | assumption | omega | rfl | (simp only [go_sem]; first | done | omega)) only [go_sem, ↓reduceIte, reduceCtorEq, Nat.reduceEqDiff, Nat.reduceAdd, Nat.reduceSub, Nat.reduceMul, Nat.reduceDiv, Nat.reduceMod, Nat.reduceLeDiff, Nat.reduceLT, Nat.reduceBEq, Int.reduceEq, Int.reduceBEq, Int.reduceBNe, Int.reduceLT, Int.reduceLE, Int.reduceAdd, Int.reduceSub, Int.reduceNeg, Int.reduceToNat, Int.reducePow, Nat.reducePow, Int.reduceMul, Int.reduceDiv, ↓s_slices_IndexFunc_CellKind_b0, hlt]
  | k :: t, i, hx => by
    obtain ⟨h, hxa, hx'⟩ := drop_cons hx
    have hlt : (i : Int) < (l.length : Int) := by omega
    obtain ⟨b2, o2, i2, c2⟩ := rd_kind hr h (iv := (i : Int)) rfl
    rw [hxa] at c2
    obtain ⟨k1, k2⟩ := l_index l v H hr hl t (i + 1) hx'
    rw [Int.natCast_add] at k1 k2
    rw [List.all_cons]
    cases hp : kindP k with
    | false =>
      rw [Bool.false_and]
      refine ⟨fun h => by simp at h, fun _ => ⟨(i : Int), by omega, fun K => ?_⟩⟩
      rw [r_slices_IndexFunc_CellKind_0]
      simp (disch := first | with_reducible rfl | assumption | omega | rfl | (simp only [go_sem]; first | done | omega)) only [go_sem, ↓reduceIte, reduceCtorEq, Nat.reduceEqDiff, Nat.reduceAdd, Nat.reduceSub, Nat.reduceMul, Nat.reduceDiv, Nat.reduceMod, Nat.reduceLeDiff, Nat.reduceLT, Nat.reduceBEq, Int.reduceEq, Int.reduceBEq, Int.reduceBNe, Int.reduceLT, Int.reduceLE, Int.reduceAdd, Int.reduceSub, Int.reduceNeg, Int.reduceToNat, Int.reducePow, Nat.reducePow, Int.reduceMul, Int.reduceDiv, ↓s_slices_IndexFunc_CellKind_b0, hlt, i2, c2, c_rows_Valid_1, e_Valid_1, hp, Bool.not_false]
    | true =>
      rw [Bool.true_and]
      refine ⟨fun h3 K => ?_, fun h3 => ?_⟩
      · have := k1 h3 K
        rw [r_slices_IndexFunc_CellKind_0]
        simp (disch := first | with_reducible rfl | assumption | omega | rfl | (simp only [go_sem]; first | done | omega)) only [go_sem, ↓reduceIte, reduceCtorEq, Nat.reduceEqDiff, Nat.reduceAdd, Nat.reduceSub, Nat.reduceMul, Nat.reduceDiv, Nat.reduceMod, Nat.reduceLeDiff, Nat.reduceLT, Nat.reduceBEq, Int.reduceEq, Int.reduceBEq, Int.reduceBNe, Int.reduceLT, Int.reduceLE, Int.reduceAdd, Int.reduceSub, Int.reduceNeg, Int.reduceToNat, Int.reducePow, Nat.reducePow, Int.reduceMul, Int.reduceDiv, ↓s_slices_IndexFunc_CellKind_b0, hlt, i2, c2, c_rows_Valid_1, e_Valid_1, hp, Bool.not_true]
        exact this
      · obtain ⟨j, hj, e⟩ := k2 h3
        refine ⟨j, hj, fun K => ?_⟩
        have := e K
        rw [r_slices_IndexFunc_CellKind_0]
        simp (disch := first | with_reducible rfl | assumption | omega | rfl | (simp only [go_sem]; first | done | omega)) only [go_sem, ↓reduceIte, reduceCtorEq, Nat.reduceEqDiff, Nat.reduceAdd, Nat.reduceSub, Nat.reduceMul, Nat.reduceDiv, Nat.reduceMod, Nat.reduceLeDiff, Nat.reduceLT, Nat.reduceBEq, Int.reduceEq, Int.reduceBEq, Int.reduceBNe, Int.reduceLT, Int.reduceLE, Int.reduceAdd, Int.reduceSub, Int.reduceNeg, Int.reduceToNat, Int.reducePow, Nat.reducePow, Int.reduceMul, Int.reduceDiv, ↓s_slices_IndexFunc_CellKind_b0, hlt, i2, c2, c_rows_Valid_1, e_Valid_1, hp, Bool.not_true]
        exact this
theorem q_contains (l : List Int) (v : Value) (H : AHeap) (hr : KR H v l) (hl : l.length ≤ 1000) : CC F.slices_ContainsFunc_CellKind [v, .func (.func F.rows_Valid_1) #[] #[]] H = some (.bool (!l.all kindP), H) := by
  have hlen := hr.1.lenS
  obtain ⟨z1, z2⟩ := l_index l v H hr hl l 0 rfl
  cases h : l.all kindP with
  | true =>
    have z1 : ∀ K : K, l_slices_IndexFunc_CellKind_0 v (.func (.func F.rows_Valid_1) #[] #[]) (.int .i64 (l.length : Int)) (.int .i64 0) H (blkK [] 0 K) = K .normal [] H := z1 h
    have m1 : CC F.slices_IndexFunc_CellKind [v, .func (.func F.rows_Valid_1) #[] #[]] H = some (.int .i64 (-1), H) := by
      apply pure_of _ (d_slices_IndexFunc_CellKind _ _ H) rfl
      rotate_left 2
      · simp (disch := first | with_reducible rfl | assumption | omega | rfl | (simp only [go_sem]; first | done | omega)) only [go_sem, ↓reduceIte, reduceCtorEq, Nat.reduceEqDiff, Nat.reduceAdd, Nat.reduceSub, Nat.reduceMul, Nat.reduceDiv, Nat.reduceMod, Nat.reduceLeDiff, Nat.reduceLT, Nat.reduceBEq, Int.reduceEq, Int.reduceBEq, Int.reduceBNe, Int.reduceLT, Int.reduceLE, Int.reduceAdd, Int.reduceSub, Int.reduceNeg, Int.reduceToNat, Int.reducePow, Nat.reducePow, Int.reduceMul, Int.reduceDiv, ↓s_slices_IndexFunc_CellKind, hlen, z1]
        rfl
      · (repeat (first | exact Fr.refl _ | refine Fr.push ?_ _ | refine Fr.set ?_ _ _ (by intro h; first | omega | (simp only [go_sem] at h; omega))))
    apply pure_of _ (d_slices_ContainsFunc_CellKind _ _ H) rfl
    rotate_left 2
    · simp (disch := first | with_reducible rfl | assumption | omega | rfl | (simp only [go_sem]; first | done | omega)) only [go_sem, ↓reduceIte, reduceCtorEq, Nat.reduceEqDiff, Nat.reduceAdd, Nat.reduceSub, Nat.reduceMul, Nat.reduceDiv, Nat.reduceMod, Nat.reduceLeDiff, Nat.reduceLT, Nat.reduceBEq, Int.reduceEq, Int.reduceBEq, Int.reduceBNe, Int.reduceLT, Int.reduceLE, Int.reduceAdd, Int.reduceSub, Int.reduceNeg, Int.reduceToNat, Int.reducePow, Nat.reducePow, Int.reduceMul, Int.reduceDiv, ↓s_slices_ContainsFunc_CellKind, enterK_eq m1]
      rfl
    · (repeat (first | exact Fr.refl _ | refine Fr.push ?_ _ | refine Fr.set ?_ _ _ (by intro h; first | omega | (simp only [go_sem] at h; omega))))
  | false =>
    obtain ⟨j, hj, z2⟩ := z2 h
    have z2 : ∀ K : K, l_slices_IndexFunc_CellKind_0 v (.func (.func F.rows_Valid_1) #[] #[]) (.int .i64 (l.length : Int)) (.int .i64 0) H (blkK [] 0 K) = K .ret [(4, .int .i64 j)] H := z2
    have m1 : CC F.slices_IndexFunc_CellKind [v, .func (.func F.rows_Valid_1) #[] #[]] H = some (.int .i64 j, H) := by
      apply pure_of _ (d_slices_IndexFunc_CellKind _ _ H) rfl
      rotate_left 2
      · simp (disch := first | with_reducible rfl | assumption | omega | rfl | (simp only [go_sem]; first | done | omega)) only [go_sem, ↓reduceIte, reduceCtorEq, Nat.reduceEqDiff, Nat.reduceAdd, Nat.reduceSub, Nat.reduceMul, Nat.reduceDiv, Nat.reduceMod, Nat.reduceLeDiff, Nat.reduceLT, Nat.reduceBEq, Int.reduceEq, Int.reduceBEq, Int.reduceBNe, Int.reduceLT, Int.reduceLE, Int.reduceAdd, Int.reduceSub, Int.reduceNeg, Int.reduceToNat, Int.reducePow, Nat.reducePow, Int.reduceMul, Int.reduceDiv, ↓s_slices_IndexFunc_CellKind, hlen, z2]
        rfl
      · (repeat (first | exact Fr.refl _ | refine Fr.push ?_ _ | refine Fr.set ?_ _ _ (by intro h; first | omega | (simp only [go_sem] at h; omega))))
    apply pure_of _ (d_slices_ContainsFunc_CellKind _ _ H) rfl
    rotate_left 2
    · simp (disch := first | with_reducible rfl | assumption | omega | rfl | (simp only [go_sem]; first | done | omega)) only [go_sem, ↓reduceIte, reduceCtorEq, Nat.reduceEqDiff, Nat.reduceAdd, Nat.reduceSub, Nat.reduceMul, Nat.reduceDiv, Nat.reduceMod, Nat.reduceLeDiff, Nat.reduceLT, Nat.reduceBEq, Int.reduceEq, Int.reduceBEq, Int.reduceBNe, Int.reduceLT, Int.reduceLE, Int.reduceAdd, Int.reduceSub, Int.reduceNeg, Int.reduceToNat, Int.reducePow, Nat.reducePow, Int.reduceMul, Int.reduceDiv, ↓s_slices_ContainsFunc_CellKind, enterK_eq m1, hj]
      rfl
    · (repeat (first | exact Fr.refl _ | refine Fr.push ?_ _ | refine Fr.set ?_ _ _ (by intro h; first | omega | (simp only [go_sem] at h; omega))))

end Go.Proofs.YtlmhioanjmhaiaaDoor

/-
  Chapter 40: Valid.
  Conditions: none. By an AI agent.
-/
set_option maxRecDepth 10000
set_option linter.unusedSimpArgs false
set_option linter.unusedVariables false
namespace Go.Proofs.YtlmhioanjmhaiaaDoor
open Go Eng

theorem zeros_K : ∀ n : Nat, zeros [.int .i64 0] n = EK.cells (List.replicate n 0)
  | 0 => rfl
  | n + 1 => by rw [zeros, zeros_K n, List.replicate_succ]; rfl

/-- A row of kinds of its own, made since. -/
structure SinceK (H0 H : AHeap) (v : Value) (l : List Int) : Prop where
  still : Still H0 H
  own : Own EK H T.api_CellKind v l
  new : ∀ b, blockOf v = some b → H0.n ≤ b
theorem SinceK.app {H0 H : AHeap} {v : Value} {l : List Int} (r : SinceK H0 H v l) (m : List Int) {src : Option (Nat × List Value)} (hsrc : src = some (m.length, EK.cells m)) (hb : l.length + m.length ≤ 1000000) :
    ∃ v' H', Eng.app T.api_CellKind 1 8 v src H = some (v', H') ∧ SinceK H0 H' v' (l ++ m) := by
  obtain ⟨v', H', e1, e2, e3, e4⟩ := r.own.appA m (sz := 1) (bytes := 8) rfl (by omega) (by omega) hsrc
  refine ⟨v', H', e1, r.still.then e3 fun b hb h => ?_, e2, fun b h => ?_⟩
  · unfold OnlyOf at h; have := r.new b h; omega
  · rcases e4 with h4 | h4
    · rw [h4] at h; exact r.new b h
    · rw [h4] at h; cases h; exact r.still.n

theorem q_Grow (n : Nat) (H : AHeap) (h1 : 1 ≤ n) (h2 : n ≤ 1000) : ∃ v' H', CC F.slices_Grow_CellKind [.slice none 0 0, .int .i64 (n : Int)] H = some (v', H') ∧ SinceK H H' v' [] := by
  have s0 : SinceK H H (.slice none 0 0) [] := ⟨Fr.refl H, .inl ⟨rfl, rfl⟩, fun b h => by cases h⟩
  have hsrc : srcZ [.int .i64 0] 8 (.int .i64 (n : Int)) = some ((List.replicate n (0 : Int)).length, EK.cells (List.replicate n 0)) := by
    unfold srcZ
    simp only
    rw [if_pos ⟨by omega, by omega, by omega⟩, Int.toNat_natCast, zeros_K, List.length_replicate]
  obtain ⟨v1, H1, a1, s1⟩ := s0.app (List.replicate n 0) hsrc (by simp; omega)
  have hcap : ∀ H : AHeap, xbuiltin Tryd.prog .cap [T.sl_api_CellKind] [.slice none 0 0] H = some (.val (.int .i64 0) H) := fun H => rfl
  have sl0 : ∀ H : AHeap, slS T.api_CellKind 1 (.slice none 0 0) none (some (.int .i64 0)) none H = some (.slice none 0 0) := fun H => rfl
  have hn0 : ¬ (n : Int) < 0 := by omega
  have hn1 : 0 < (n : Int) := by omega
  have l0 : lenS (.slice none 0 0) = some (.int .i64 0) := rfl
  obtain ⟨hs, ho, hn⟩ := s1
  rcases ho with ⟨e, _⟩ | ⟨e, _⟩ | ⟨b, o, c, xs, rfl, hl, hb, hf, hoc, hx⟩
  · simp at e; omega
  · simp at e; omega
  · have sl1 := sl_hi (e := T.api_CellKind) (H := H1) (b := b) (o := o) (n := ([] ++ List.replicate n (0 : Int)).length) (c := c) (i := 0) (sz := 1) (q := .i64) hf (Nat.zero_le _)
    have sl1 : slS T.api_CellKind 1 (.slice (some ⟨b, o, none⟩) ([] ++ List.replicate n (0 : Int)).length (2 * c + 1)) none (some (.int .i64 0)) none H1 = some (.slice (some ⟨b, o, none⟩) 0 (2 * c + 1)) := sl1
    refine ⟨.slice (some ⟨b, o, none⟩) 0 (2 * c + 1), H1, (d_slices_Grow_CellKind _ _ H ?_).trans (congrArg some (tidy_mem rfl)), hs, .inr (.inr ⟨b, o, c, xs, rfl, Nat.zero_le _, hb, hf, hoc, by simp [EK]⟩), hn⟩
    generalize ([] ++ List.replicate n (0 : Int)).length = L at a1 sl1
    simp (disch := first | with_reducible rfl | assumption | omega | rfl | (simp only [go_sem]; first | done | omega)) only [go_sem, ↓reduceIte, reduceCtorEq, Nat.reduceEqDiff, Nat.reduceAdd, Nat.reduceSub, Nat.reduceMul, Nat.reduceDiv, Nat.reduceMod, Nat.reduceLeDiff, Nat.reduceLT, Nat.reduceBEq, Int.reduceEq, Int.reduceBEq, Int.reduceBNe, Int.reduceLT, Int.reduceLE, Int.reduceAdd, Int.reduceSub, Int.reduceNeg, Int.reduceToNat, Int.reducePow, Nat.reducePow, Int.reduceMul, Int.reduceDiv, ↓s_slices_Grow_CellKind, hn0, hcap, l0, Int.sub_zero, hn1, sl0, a1, sl1]

theorem q_Concat (b : Nat) (kv rv : Value) (kl rl : List Int) (H : AHeap) (hb : b < H.n) (hf : H.f b = .cells [kv, rv] T.sl_api_CellKind true) (hk : KR H kv kl) (hr : KR H rv rl) (h1 : 1 ≤ kl.length) (h8 : kl.length ≤ 8) (h8' : rl.length ≤ 8) :
    ∃ v' H', CC F.slices_Concat_CellKind [.slice (some ⟨b, 0, none⟩) 2 4] H = some (v', H') ∧ KR H' v' (kl ++ rl) ∧ Still H H' := by
  have lk := hk.1.lenS
  have lr := hr.1.lenS
  have ix0 : ixS 1 (.slice (some ⟨b, 0, none⟩) 2 4) (.int .i64 0) = some (.pointer (some ⟨b, 0, none⟩)) := rfl
  have ix1 : ixS 1 (.slice (some ⟨b, 0, none⟩) 2 4) (.int .i64 1) = some (.pointer (some ⟨b, 1, none⟩)) := rfl
  have c0 : ∀ {Hx : AHeap}, Still H Hx → cellB (Hx.f b) 0 = some kv ∧ cellB (Hx.f b) 1 = some rv := fun s => by
    rw [s.f hb fun h => h, hf]; exact ⟨rfl, rfl⟩
  obtain ⟨g0, g1⟩ := c0 (Fr.refl H)
  obtain ⟨n, hn⟩ : ∃ n : Nat, (kl.length : Int) + (rl.length : Int) = n := ⟨kl.length + rl.length, by omega⟩
  have nk : ¬ (kl.length : Int) < 0 := by omega
  have nn : ¬ (n : Int) < 0 := by omega
  have add0 : ∀ ox oy, xbin Tryd.prog .add T.int ox oy (.int .i64 0) (.int .i64 (kl.length : Int)) = some (.int .i64 (kl.length : Int)) := fun ox oy => by
    have := add_i64 (P := Tryd.prog) (t := T.int) (ox := ox) (oy := oy) (a := 0) (b := (kl.length : Int)) (by omega)
    rwa [Int.zero_add] at this
  have add1 : ∀ ox oy, xbin Tryd.prog .add T.int ox oy (.int .i64 (kl.length : Int)) (.int .i64 (rl.length : Int)) = some (.int .i64 (n : Int)) := fun ox oy => by rw [← hn]; exact add_i64 (by omega)
  have e2 : ∀ (x : Value) (K : K), l_slices_Concat_CellKind_0 (.slice (some ⟨b, 0, none⟩) 2 4) x (.slice (some ⟨b, 0, none⟩) 2 4) (.int .i64 2) (.int .i64 2) H (blkK [0, 3] 0 K) = K .normal [(0, .slice (some ⟨b, 0, none⟩) 2 4), (3, x)] H := fun x K => by
    rw [r_slices_Concat_CellKind_0]
    simp (disch := first | with_reducible rfl | assumption | omega | rfl | (simp only [go_sem]; first | done | omega)) only [go_sem, ↓reduceIte, reduceCtorEq, Nat.reduceEqDiff, Nat.reduceAdd, Nat.reduceSub, Nat.reduceMul, Nat.reduceDiv, Nat.reduceMod, Nat.reduceLeDiff, Nat.reduceLT, Nat.reduceBEq, Int.reduceEq, Int.reduceBEq, Int.reduceBNe, Int.reduceLT, Int.reduceLE, Int.reduceAdd, Int.reduceSub, Int.reduceNeg, Int.reduceToNat, Int.reducePow, Nat.reducePow, Int.reduceMul, Int.reduceDiv, ↓s_slices_Concat_CellKind_b0]
  have e1 : ∀ (K : K), l_slices_Concat_CellKind_0 (.slice (some ⟨b, 0, none⟩) 2 4) (.int .i64 (kl.length : Int)) (.slice (some ⟨b, 0, none⟩) 2 4) (.int .i64 2) (.int .i64 1) H (blkK [0, 3] 0 K) = K .normal [(0, .slice (some ⟨b, 0, none⟩) 2 4), (3, .int .i64 (n : Int))] H := fun K => by
    rw [r_slices_Concat_CellKind_0]
    simp (disch := first | with_reducible rfl | assumption | omega | rfl | (simp only [go_sem]; first | done | omega)) only [go_sem, ↓reduceIte, reduceCtorEq, Nat.reduceEqDiff, Nat.reduceAdd, Nat.reduceSub, Nat.reduceMul, Nat.reduceDiv, Nat.reduceMod, Nat.reduceLeDiff, Nat.reduceLT, Nat.reduceBEq, Int.reduceEq, Int.reduceBEq, Int.reduceBNe, Int.reduceLT, Int.reduceLE, Int.reduceAdd, Int.reduceSub, Int.reduceNeg, Int.reduceToNat, Int.reducePow, Nat.reducePow, Int.reduceMul, Int.reduceDiv, ↓s_slices_Concat_CellKind_b0, ix1, g1, lr, add1, nn]
    exact e2 _ K
  have e0 : ∀ (K : K), l_slices_Concat_CellKind_0 (.slice (some ⟨b, 0, none⟩) 2 4) (.int .i64 0) (.slice (some ⟨b, 0, none⟩) 2 4) (.int .i64 2) (.int .i64 0) H (blkK [0, 3] 0 K) = K .normal [(0, .slice (some ⟨b, 0, none⟩) 2 4), (3, .int .i64 (n : Int))] H := fun K => by
    rw [r_slices_Concat_CellKind_0]
    simp (disch := first | with_reducible rfl | assumption | omega | rfl | (simp only [go_sem]; first | done | omega)) only [go_sem, ↓reduceIte, reduceCtorEq, Nat.reduceEqDiff, Nat.reduceAdd, Nat.reduceSub, Nat.reduceMul, Nat.reduceDiv, Nat.reduceMod, Nat.reduceLeDiff, Nat.reduceLT, Nat.reduceBEq, Int.reduceEq, Int.reduceBEq, Int.reduceBNe, Int.reduceLT, Int.reduceLE, Int.reduceAdd, Int.reduceSub, Int.reduceNeg, Int.reduceToNat, Int.reducePow, Nat.reducePow, Int.reduceMul, Int.reduceDiv, ↓s_slices_Concat_CellKind_b0, ix0, g0, lk, add0, nk]
    exact e1 K
  obtain ⟨v1, H1, m1, s1⟩ := q_Grow n H (by omega) (by omega)
  obtain ⟨v2, H2, a2, s2⟩ := s1.app kl ((hk.still s1.still).1.src (sz := 1) rfl) (by simp; omega)
  obtain ⟨v3, H3, a3, s3⟩ := s2.app rl ((hr.still s2.still).1.src (sz := 1) rfl) (by simp; omega)
  rw [List.nil_append] at s3
  obtain ⟨g2, _⟩ := c0 s1.still
  obtain ⟨_, g3⟩ := c0 s2.still
  have d2 : ∀ (K : K), l_slices_Concat_CellKind_1 v3 (.slice (some ⟨b, 0, none⟩) 2 4) (.int .i64 2) (.int .i64 2) H3 (blkK [6] 2 K) = K .normal [(6, v3)] H3 := fun K => by
    rw [r_slices_Concat_CellKind_1]
    simp (disch := first | with_reducible rfl | assumption | omega | rfl | (simp only [go_sem]; first | done | omega)) only [go_sem, ↓reduceIte, reduceCtorEq, Nat.reduceEqDiff, Nat.reduceAdd, Nat.reduceSub, Nat.reduceMul, Nat.reduceDiv, Nat.reduceMod, Nat.reduceLeDiff, Nat.reduceLT, Nat.reduceBEq, Int.reduceEq, Int.reduceBEq, Int.reduceBNe, Int.reduceLT, Int.reduceLE, Int.reduceAdd, Int.reduceSub, Int.reduceNeg, Int.reduceToNat, Int.reducePow, Nat.reducePow, Int.reduceMul, Int.reduceDiv, ↓s_slices_Concat_CellKind_b1]
  have d1 : ∀ (K : K), l_slices_Concat_CellKind_1 v2 (.slice (some ⟨b, 0, none⟩) 2 4) (.int .i64 2) (.int .i64 1) H2 (blkK [6] 2 K) = K .normal [(6, v3)] H3 := fun K => by
    rw [r_slices_Concat_CellKind_1]
    simp (disch := first | with_reducible rfl | assumption | omega | rfl | (simp only [go_sem]; first | done | omega)) only [go_sem, ↓reduceIte, reduceCtorEq, Nat.reduceEqDiff, Nat.reduceAdd, Nat.reduceSub, Nat.reduceMul, Nat.reduceDiv, Nat.reduceMod, Nat.reduceLeDiff, Nat.reduceLT, Nat.reduceBEq, Int.reduceEq, Int.reduceBEq, Int.reduceBNe, Int.reduceLT, Int.reduceLE, Int.reduceAdd, Int.reduceSub, Int.reduceNeg, Int.reduceToNat, Int.reducePow, Nat.reducePow, Int.reduceMul, Int.reduceDiv, ↓s_slices_Concat_CellKind_b1, ix1, g3, a3]
    exact d2 K
  have d0 : ∀ (K : K), l_slices_Concat_CellKind_1 v1 (.slice (some ⟨b, 0, none⟩) 2 4) (.int .i64 2) (.int .i64 0) H1 (blkK [6] 2 K) = K .normal [(6, v3)] H3 := fun K => by
    rw [r_slices_Concat_CellKind_1]
    simp (disch := first | with_reducible rfl | assumption | omega | rfl | (simp only [go_sem]; first | done | omega)) only [go_sem, ↓reduceIte, reduceCtorEq, Nat.reduceEqDiff, Nat.reduceAdd, Nat.reduceSub, Nat.reduceMul, Nat.reduceDiv, Nat.reduceMod, Nat.reduceLeDiff, Nat.reduceLT, Nat.reduceBEq, Int.reduceEq, Int.reduceBEq, Int.reduceBNe, Int.reduceLT, Int.reduceLE, Int.reduceAdd, Int.reduceSub, Int.reduceNeg, Int.reduceToNat, Int.reducePow, Nat.reducePow, Int.reduceMul, Int.reduceDiv, ↓s_slices_Concat_CellKind_b1, ix0, g2, a2]
    exact d1 K
  have hg : gr 9 v3 = false := by
    rcases s3.own with ⟨e, _⟩ | ⟨e, _⟩ | ⟨b', o', c', xs', h, _⟩
    · have : (kl ++ rl).length = 0 := by rw [e]; rfl
      simp at this; rw [this.1] at h1; simp at h1
    · have : (kl ++ rl).length = 0 := by rw [e]; rfl
      simp at this; rw [this.1] at h1; simp at h1
    · rw [h]; rfl
  have l2 : lenS (.slice (some ⟨b, 0, none⟩) 2 4) = some (.int .i64 2) := rfl
  refine ⟨v3, H3, (d_slices_Concat_CellKind _ H ?_).trans (congrArg some (tidy_mem hg)), s3.own.sl, s3.still⟩
  simp (disch := first | with_reducible rfl | assumption | omega | rfl | (simp only [go_sem]; first | done | omega)) only [go_sem, ↓reduceIte, reduceCtorEq, Nat.reduceEqDiff, Nat.reduceAdd, Nat.reduceSub, Nat.reduceMul, Nat.reduceDiv, Nat.reduceMod, Nat.reduceLeDiff, Nat.reduceLT, Nat.reduceBEq, Int.reduceEq, Int.reduceBEq, Int.reduceBNe, Int.reduceLT, Int.reduceLE, Int.reduceAdd, Int.reduceSub, Int.reduceNeg, Int.reduceToNat, Int.reducePow, Nat.reducePow, Int.reduceMul, Int.reduceDiv, ↓s_slices_Concat_CellKind, l2, e0, enterK_eq m1, d0]

theorem q_Valid (n : Int) (kv rv : Value) (kl rl : List Int) (H : AHeap) (hk : KR H kv kl) (hr : KR H rv rl) : CC F.rows_Valid [tbV n kv rv] H = some (.bool (validP n kl rl), H) := by
  obtain ⟨ak, ck, rfl⟩ := hk.1.shape
  obtain ⟨ar, cr, rfl⟩ := hr.1.shape
  obtain ⟨K1, hK1⟩ : ∃ K1, kl.length = K1 := ⟨_, rfl⟩
  obtain ⟨R1, hR1⟩ : ∃ R1, rl.length = R1 := ⟨_, rfl⟩
  have lk := hk.1.lenS
  have lr := hr.1.lenS
  unfold validP
  rw [hK1] at hk lk ⊢
  rw [hR1] at hr lr ⊢
  obtain ⟨H1, hH1⟩ : ∃ H1, H.push (.cells [.int .i64 n, .slice ak K1 ck, .slice ar R1 cr] T.api_Table true) = H1 := ⟨_, rfl⟩
  have s1 : Still H H1 := by rw [← hH1]; exact (Fr.refl H).push _
  have f1 : H1.f H.n = .cells [.int .i64 n, .slice ak K1 ck, .slice ar R1 cr] T.api_Table true := by rw [← hH1]; exact push_f_eq rfl
  refine (Classical.em (1 ≤ n)).elim (fun h1 => ?_) fun h1 => ?_
  rotate_left
  · rw [decide_eq_false h1, Bool.false_and]
    apply pure_of _ (d_rows_Valid _ H) rfl
    rotate_left 2
    · simp (disch := first | with_reducible rfl | assumption | omega | rfl | (simp only [go_sem]; first | done | omega)) only [go_sem, ↓reduceIte, reduceCtorEq, Nat.reduceEqDiff, Nat.reduceAdd, Nat.reduceSub, Nat.reduceMul, Nat.reduceDiv, Nat.reduceMod, Nat.reduceLeDiff, Nat.reduceLT, Nat.reduceBEq, Int.reduceEq, Int.reduceBEq, Int.reduceBNe, Int.reduceLT, Int.reduceLE, Int.reduceAdd, Int.reduceSub, Int.reduceNeg, Int.reduceToNat, Int.reducePow, Nat.reducePow, Int.reduceMul, Int.reduceDiv, ↓s_rows_Valid, hH1, f1, h1]
      rfl
    · exact s1
  rw [decide_eq_true h1, Bool.true_and]
  refine (Classical.em (n ≤ 255)).elim (fun h2 => ?_) fun h2 => ?_
  rotate_left
  · rw [decide_eq_false h2, Bool.false_and]
    apply pure_of _ (d_rows_Valid _ H) rfl
    rotate_left 2
    · simp (disch := first | with_reducible rfl | assumption | omega | rfl | (simp only [go_sem]; first | done | omega)) only [go_sem, ↓reduceIte, reduceCtorEq, Nat.reduceEqDiff, Nat.reduceAdd, Nat.reduceSub, Nat.reduceMul, Nat.reduceDiv, Nat.reduceMod, Nat.reduceLeDiff, Nat.reduceLT, Nat.reduceBEq, Int.reduceEq, Int.reduceBEq, Int.reduceBNe, Int.reduceLT, Int.reduceLE, Int.reduceAdd, Int.reduceSub, Int.reduceNeg, Int.reduceToNat, Int.reducePow, Nat.reducePow, Int.reduceMul, Int.reduceDiv, ↓s_rows_Valid, hH1, f1, h1, h2]
      rfl
    · exact s1
  rw [decide_eq_true h2, Bool.true_and]
  refine (Classical.em (1 ≤ K1)).elim (fun h3 => ?_) fun h3 => ?_
  rotate_left
  · have h3' : ¬ 1 ≤ (K1 : Int) := by omega
    rw [decide_eq_false h3, Bool.false_and]
    apply pure_of _ (d_rows_Valid _ H) rfl
    rotate_left 2
    · simp (disch := first | with_reducible rfl | assumption | omega | rfl | (simp only [go_sem]; first | done | omega)) only [go_sem, ↓reduceIte, reduceCtorEq, Nat.reduceEqDiff, Nat.reduceAdd, Nat.reduceSub, Nat.reduceMul, Nat.reduceDiv, Nat.reduceMod, Nat.reduceLeDiff, Nat.reduceLT, Nat.reduceBEq, Int.reduceEq, Int.reduceBEq, Int.reduceBNe, Int.reduceLT, Int.reduceLE, Int.reduceAdd, Int.reduceSub, Int.reduceNeg, Int.reduceToNat, Int.reducePow, Nat.reducePow, Int.reduceMul, Int.reduceDiv, ↓s_rows_Valid, hH1, f1, h1, h2, h3']
      rfl
    · exact s1
  have h3' : 1 ≤ (K1 : Int) := by omega
  rw [decide_eq_true h3, Bool.true_and]
  refine (Classical.em (K1 ≤ 8)).elim (fun h4 => ?_) fun h4 => ?_
  rotate_left
  · have h4' : ¬ (K1 : Int) ≤ 8 := by omega
    rw [decide_eq_false h4, Bool.false_and]
    apply pure_of _ (d_rows_Valid _ H) rfl
    rotate_left 2
    · simp (disch := first | with_reducible rfl | assumption | omega | rfl | (simp only [go_sem]; first | done | omega)) only [go_sem, ↓reduceIte, reduceCtorEq, Nat.reduceEqDiff, Nat.reduceAdd, Nat.reduceSub, Nat.reduceMul, Nat.reduceDiv, Nat.reduceMod, Nat.reduceLeDiff, Nat.reduceLT, Nat.reduceBEq, Int.reduceEq, Int.reduceBEq, Int.reduceBNe, Int.reduceLT, Int.reduceLE, Int.reduceAdd, Int.reduceSub, Int.reduceNeg, Int.reduceToNat, Int.reducePow, Nat.reducePow, Int.reduceMul, Int.reduceDiv, ↓s_rows_Valid, hH1, f1, h1, h2, h3', h4']
      rfl
    · exact s1
  have h4' : (K1 : Int) ≤ 8 := by omega
  rw [decide_eq_true h4, Bool.true_and]
  refine (Classical.em (R1 ≤ 8)).elim (fun h5 => ?_) fun h5 => ?_
  rotate_left
  · have h5' : ¬ (R1 : Int) ≤ 8 := by omega
    rw [decide_eq_false h5, Bool.false_and]
    apply pure_of _ (d_rows_Valid _ H) rfl
    rotate_left 2
    · simp (disch := first | with_reducible rfl | assumption | omega | rfl | (simp only [go_sem]; first | done | omega)) only [go_sem, ↓reduceIte, reduceCtorEq, Nat.reduceEqDiff, Nat.reduceAdd, Nat.reduceSub, Nat.reduceMul, Nat.reduceDiv, Nat.reduceMod, Nat.reduceLeDiff, Nat.reduceLT, Nat.reduceBEq, Int.reduceEq, Int.reduceBEq, Int.reduceBNe, Int.reduceLT, Int.reduceLE, Int.reduceAdd, Int.reduceSub, Int.reduceNeg, Int.reduceToNat, Int.reducePow, Nat.reducePow, Int.reduceMul, Int.reduceDiv, ↓s_rows_Valid, hH1, f1, h1, h2, h3', h4', h5']
      rfl
    · exact s1
  have h5' : (R1 : Int) ≤ 8 := by omega
  rw [decide_eq_true h5, Bool.true_and]
  obtain ⟨H2, hH2⟩ : ∃ H2, H1.push (.cells [.slice ak K1 ck, .slice ar R1 cr] T.sl_api_CellKind true) = H2 := ⟨_, rfl⟩
  have s2 : Still H1 H2 := by rw [← hH2]; exact (Fr.refl H1).push _
  have f2 : H2.f H1.n = .cells [.slice ak K1 ck, .slice ar R1 cr] T.sl_api_CellKind true := by rw [← hH2]; exact push_f_eq rfl
  have n2 : H1.n < H2.n := by rw [← hH2]; exact Nat.lt_succ_self _
  obtain ⟨v3, H3, m3, r3, s3⟩ := q_Concat H1.n (.slice ak K1 ck) (.slice ar R1 cr) kl rl H2 n2 f2 ((hk.still s1).still s2) ((hr.still s1).still s2) (by omega) (by omega) (by omega)
  have m4 := q_contains (kl ++ rl) v3 H3 r3 (by simp; omega)
  rw [show (kl ++ rl).all kindP = !(!(kl ++ rl).all kindP) by simp]
  apply pure_of _ (d_rows_Valid _ H) rfl
  rotate_left 2
  · simp (disch := first | with_reducible rfl | assumption | omega | rfl | (simp only [go_sem]; first | done | omega)) only [go_sem, ↓reduceIte, reduceCtorEq, Nat.reduceEqDiff, Nat.reduceAdd, Nat.reduceSub, Nat.reduceMul, Nat.reduceDiv, Nat.reduceMod, Nat.reduceLeDiff, Nat.reduceLT, Nat.reduceBEq, Int.reduceEq, Int.reduceBEq, Int.reduceBNe, Int.reduceLT, Int.reduceLE, Int.reduceAdd, Int.reduceSub, Int.reduceNeg, Int.reduceToNat, Int.reducePow, Nat.reducePow, Int.reduceMul, Int.reduceDiv, ↓s_rows_Valid, hH1, f1, h1, h2, h3', h4', h5', hH2, enterK_eq m3, enterK_eq m4]
    rfl
  · exact (s1.trans s2).trans s3

end Go.Proofs.YtlmhioanjmhaiaaDoor

/-
  Chapter 40: rows of bytes; digits; zero bytes escaped.
  Conditions: none. By an AI agent.
-/
set_option maxRecDepth 10000
set_option linter.unusedSimpArgs false
set_option linter.unusedVariables false
namespace Go.Proofs.YtlmhioanjmhaiaaDoor
open Go Eng

abbrev BR (H : AHeap) (v : Value) (l : List UInt8) : Prop := RdS EB T.uint8 H v l
theorem BR.str {H : AHeap} {v : Value} {l : List UInt8} (r : BR H v l) : xconv Tryd.prog T.sl_uint8 T.string v H = some (.string (mk l), H) :=
  conv_bs (P := Tryd.prog) (t := T.sl_uint8) (s := T.string) (e := T.uint8) Tryd.underlying31 Tryd.underlying5 Tryd.underlying9 r.1
theorem newB {H : AHeap} {l : List UInt8} {b : Nat} (hb : b < H.n) (hf : H.f b = .cells (EB.cells l) T.uint8 true) : RdS EB T.uint8 H (.slice (some ⟨b, 0, none⟩) l.length (2 * l.length)) l := by
  refine ⟨?_, .inr ⟨b, 0, _, _, rfl, by omega, .inl (by omega), hb⟩⟩
  by_cases h0 : l = []
  · subst h0; exact .inr (.inl ⟨rfl, _, _, rfl, rfl⟩)
  · refine .inr (.inr ⟨b, 0, _, rfl, h0, hb, ?_⟩)
    rw [hf, cutB_c (by simp), List.drop_zero, List.take_of_length_le (by simp)]
def by8 (n : Nat) : UInt8 := UInt8.ofNat n
theorem by8_cell (n : Nat) : byteCell (by8 n) = .int .u8 ((n : Int) % 256) := by
  unfold byteCell by8
  rw [UInt8.toNat_ofNat']
  rfl
theorem cells_one (a : Nat) : EB.cells [by8 a] = [.int .u8 ((a : Int) % 256)] := by
  rw [EB_cells]; simp only [List.map_cons, List.map_nil, by8_cell]

/-- In a heap in which nothing that was in H0 has turned, a row of its own made since. -/
structure Since (H0 H : AHeap) (v : Value) (l : List UInt8) : Prop where
  still : Still H0 H
  own : Own EB H T.uint8 v l
  new : ∀ b, blockOf v = some b → H0.n ≤ b
theorem Since.nil {H : AHeap} : Since H H (.slice none 0 0) [] := ⟨Fr.refl H, .inl ⟨rfl, rfl⟩, fun b h => by cases h⟩
theorem Since.app {H0 H : AHeap} {v : Value} {l : List UInt8} (r : Since H0 H v l) (m : List UInt8) {src : Option (Nat × List Value)} (hsrc : src = some (m.length, EB.cells m)) (hb : l.length + m.length ≤ 1000000000000) :
    ∃ v' H', Eng.app T.uint8 1 1 v src H = some (v', H') ∧ Since H0 H' v' (l ++ m) := by
  obtain ⟨v', H', e1, e2, e3, e4⟩ := r.own.appA m (sz := 1) (bytes := 1) rfl (by omega) (by omega) hsrc
  refine ⟨v', H', e1, r.still.then e3 fun b hb h => ?_, e2, fun b h => ?_⟩
  · unfold OnlyOf at h; have := r.new b h; omega
  · rcases e4 with h4 | h4
    · rw [h4] at h; exact r.new b h
    · rw [h4] at h; cases h; exact r.still.n
theorem Since.to {H0 H H' : AHeap} {v : Value} {l : List UInt8} (r : Since H0 H v l) (s : Still H H') : Since H0 H' v l := ⟨r.still.trans s, r.own.still s, r.new⟩
theorem Since.lit {H0 H : AHeap} {v : Value} {l : List UInt8} (r : Since H0 H v l) (m : List UInt8) {H1 : AHeap} (h1 : H.push (.cells (EB.cells m) T.uint8 true) = H1) (hb : l.length + m.length ≤ 1000000000000) :
    ∃ v' H', Eng.app T.uint8 1 1 v (srcS 1 (.slice (some ⟨H.n, 0, none⟩) m.length (2 * m.length)) H1) H1 = some (v', H') ∧ Since H0 H' v' (l ++ m) := by
  have s1 : Still H H1 := by rw [← h1]; exact (Fr.refl H).push _
  have n1 : H1.n = H.n + 1 := by rw [← h1]; rfl
  have f1 : H1.f H.n = .cells (EB.cells m) T.uint8 true := by rw [← h1]; exact push_f_eq rfl
  have rm : BR H1 (.slice (some ⟨H.n, 0, none⟩) m.length (2 * m.length)) m := newB (by omega) f1
  exact (r.to s1).app m (rm.1.src (sz := 1) rfl) hb
theorem str_add {t : TypeId} {ox oy : Operand} {a b : ByteArray} (h : (bl a).length + (bl b).length ≤ 4611686018427387904) : xbin Tryd.prog .add t ox oy (.string a) (.string b) = some (.string (mk (bl a ++ bl b))) := by
  show strOp .add a b = _
  unfold strOp
  simp only [if_pos h]
theorem str_add' {t : TypeId} {ox oy : Operand} {a b : List UInt8} (h : a.length + b.length ≤ 4611686018427387904) : xbin Tryd.prog .add t ox oy (.string (mk a)) (.string (mk b)) = some (.string (mk (a ++ b))) := by
  have := str_add (t := t) (ox := ox) (oy := oy) (a := mk a) (b := mk b) (by rw [bl_mk, bl_mk]; exact h)
  rwa [bl_mk, bl_mk] at this
theorem srcT_b (s : ByteArray) : srcT (.string s) = some ((bl s).length, EB.cells (bl s)) := by
  show some ((bl s).length, (bl s).map byteCell) = _
  rw [EB_cells]
/-- A string of one byte. -/
theorem one_str {H : AHeap} (a : Nat) {H1 : AHeap} (h1 : H.push (.cells [.int .u8 ((a : Int) % 256)] T.uint8 true) = H1) : Still H H1 ∧ xconv Tryd.prog T.sl_uint8 T.string (.slice (some ⟨H.n, 0, none⟩) 1 2) H1 = some (.string (mk [by8 a]), H1) := by
  have s1 : Still H H1 := by rw [← h1]; exact (Fr.refl H).push _
  have n1 : H1.n = H.n + 1 := by rw [← h1]; rfl
  have f1 : H1.f H.n = .cells (EB.cells [by8 a]) T.uint8 true := by rw [cells_one, ← h1]; exact push_f_eq rfl
  exact ⟨s1, BR.str (newB (l := [by8 a]) (by omega) f1)⟩

/-! ### digits -/
def dg (n : Nat) : List UInt8 := if h : n = 0 then [] else dg (n / 256) ++ [by8 n]
  decreasing_by omega
theorem dg_zero : dg 0 = [] := by rw [dg]; rfl
theorem dg_pos {n : Nat} (h : n ≠ 0) : dg n = dg (n / 256) ++ [by8 n] := by rw [dg]; simp [h]
theorem by8_mod (n : Nat) : by8 (n % 256) = by8 n := by
  apply UInt8.toNat_inj.1
  unfold by8
  rw [UInt8.toNat_ofNat', UInt8.toNat_ofNat']
  omega
theorem dg_len : ∀ (k n : Nat), n < 256 ^ k → (dg n).length ≤ k
  | 0, n, h => by
    have h : n < 1 := h
    have : n = 0 := by omega
    subst this; rw [dg_zero]; simp
  | k + 1, n, h => by
    by_cases h0 : n = 0
    · subst h0; rw [dg_zero]; simp
    · rw [dg_pos h0]
      have := dg_len k (n / 256) (by rw [Nat.pow_succ] at h; omega)
      simp; omega

theorem q_ldigits : ∀ (k n : Nat) (H : AHeap), n < 256 ^ k → k ≤ 8 → CC F.law_digits [.int .u64 (n : Int)] H = some (.string (mk (dg n)), H)
  | 0, n, H, h, hk => by
    have h : n < 1 := h
    have : n = 0 := by omega
    subst this
    rw [dg_zero]
    apply pure_of _ (d_law_digits _ H) rfl
    rotate_left 2
    · simp (disch := first | with_reducible rfl | assumption | omega | rfl | (simp only [go_sem]; first | done | omega)) only [go_sem, ↓reduceIte, reduceCtorEq, Nat.reduceEqDiff, Nat.reduceAdd, Nat.reduceSub, Nat.reduceMul, Nat.reduceDiv, Nat.reduceMod, Nat.reduceLeDiff, Nat.reduceLT, Nat.reduceBEq, Int.reduceEq, Int.reduceBEq, Int.reduceBNe, Int.reduceLT, Int.reduceLE, Int.reduceAdd, Int.reduceSub, Int.reduceNeg, Int.reduceToNat, Int.reducePow, Nat.reducePow, Int.reduceMul, Int.reduceDiv, ↓s_law_digits]
      rfl
    · (repeat (first | exact Fr.refl _ | refine Fr.push ?_ _ | refine Fr.set ?_ _ _ (by intro h; first | omega | (simp only [go_sem] at h; omega))))
  | k + 1, n, H, h, hk => by
    by_cases h0 : n = 0
    · subst h0
      rw [dg_zero]
      apply pure_of _ (d_law_digits _ H) rfl
      rotate_left 2
      · simp (disch := first | with_reducible rfl | assumption | omega | rfl | (simp only [go_sem]; first | done | omega)) only [go_sem, ↓reduceIte, reduceCtorEq, Nat.reduceEqDiff, Nat.reduceAdd, Nat.reduceSub, Nat.reduceMul, Nat.reduceDiv, Nat.reduceMod, Nat.reduceLeDiff, Nat.reduceLT, Nat.reduceBEq, Int.reduceEq, Int.reduceBEq, Int.reduceBNe, Int.reduceLT, Int.reduceLE, Int.reduceAdd, Int.reduceSub, Int.reduceNeg, Int.reduceToNat, Int.reducePow, Nat.reducePow, Int.reduceMul, Int.reduceDiv, ↓s_law_digits]
        rfl
      · (repeat (first | exact Fr.refl _ | refine Fr.push ?_ _ | refine Fr.set ?_ _ _ (by intro h; first | omega | (simp only [go_sem] at h; omega))))
    · have hn : n / 256 < 256 ^ k := by rw [Nat.pow_succ] at h; omega
      have h64 : n < 18446744073709551616 := Nat.lt_of_lt_of_le h (Nat.pow_le_pow_right (by decide) hk)
      have m1 := q_ldigits k (n / 256) H hn (by omega)
      have hl := dg_len k (n / 256) hn
      have h0' : ¬ (n : Int) = 0 := by omega
      have e1 : ∀ ox oy, xbin Tryd.prog .quo T.uint64 ox oy (.int .u64 (n : Int)) (.int .u64 256) = some (.int .u64 ((n / 256 : Nat) : Int)) := fun ox oy => by
        rw [quoP (by omega) (by decide), wrap_u64 (by omega)]
        rfl
      have e2 : ∀ ox oy, xbin Tryd.prog .rem T.uint64 ox oy (.int .u64 (n : Int)) (.int .u64 256) = some (.int .u64 ((n % 256 : Nat) : Int)) := fun ox oy => remN (b := 256) (by decide)
      have e3 : ∀ H : AHeap, xconv Tryd.prog T.uint64 T.uint8 (.int .u64 ((n % 256 : Nat) : Int)) H = some (.int .u8 (((n % 256 : Nat) : Int) % 256), H) := fun H => by rw [x_uint64_uint8, wrapU8]
      obtain ⟨H1, hH1⟩ : ∃ H1, H.push (.cells [.int .u8 (((n % 256 : Nat) : Int) % 256)] T.uint8 true) = H1 := ⟨_, rfl⟩
      obtain ⟨s1, st⟩ := one_str (n % 256) hH1
      rw [by8_mod] at st
      have ad : ∀ ox oy, xbin Tryd.prog .add T.string ox oy (.string (mk (dg (n / 256)))) (.string (mk [by8 n])) = some (.string (mk (dg (n / 256) ++ [by8 n]))) := fun ox oy => str_add' (by simp; omega)
      rw [dg_pos h0]
      apply pure_of _ (d_law_digits _ H) rfl
      rotate_left 2
      · simp (disch := first | with_reducible rfl | assumption | omega | rfl | (simp only [go_sem]; first | done | omega)) only [go_sem, ↓reduceIte, reduceCtorEq, Nat.reduceEqDiff, Nat.reduceAdd, Nat.reduceSub, Nat.reduceMul, Nat.reduceDiv, Nat.reduceMod, Nat.reduceLeDiff, Nat.reduceLT, Nat.reduceBEq, Int.reduceEq, Int.reduceBEq, Int.reduceBNe, Int.reduceLT, Int.reduceLE, Int.reduceAdd, Int.reduceSub, Int.reduceNeg, Int.reduceToNat, Int.reducePow, Nat.reducePow, Int.reduceMul, Int.reduceDiv, ↓s_law_digits, h0', e1, enterK_eq m1, e2, e3, hH1, st, ad]
        rfl
      · exact s1

/-! ### zero bytes escaped -/
def esc : List UInt8 → List UInt8
  | [] => []
  | c :: l => if c = 0 then 0 :: 255 :: esc l else c :: esc l
theorem index_zero (l : List UInt8) : Lib.index (0 :: l) [0] = 0 := by simp [Lib.index]
theorem index_other {c : UInt8} (h : c ≠ 0) (l : List UInt8) : Lib.index (c :: l) [0] = if Lib.index l [0] = -1 then -1 else Lib.index l [0] + 1 := by
  have : ([0] : List UInt8).isPrefixOf (c :: l) = false := by simp [List.isPrefixOf]; exact fun e => h e.symm
  rw [Lib.index, this]
  by_cases h1 : Lib.index l [0] = -1
  · simp [h1]
  · simp [h1]
theorem count_other {c : UInt8} (h : c ≠ 0) (l : List UInt8) : Lib.count (c :: l) [0] = Lib.count l [0] := by
  by_cases h1 : Lib.index l [0] = -1
  · rw [Lib.count_miss h1, Lib.count_miss (by rw [index_other h, if_pos h1])]
  · have hg := Lib.index_ge l [0]
    obtain ⟨i, hi⟩ : ∃ i : Nat, Lib.index l [0] = i := ⟨(Lib.index l [0]).toNat, by omega⟩
    rw [Lib.count_hit (i := i) (by simp) hi, Lib.count_hit (i := i + 1) (by simp) (by rw [index_other h, if_neg h1, hi]; omega)]
    rfl
theorem count_zero (l : List UInt8) : Lib.count (0 :: l) [0] = 1 + Lib.count l [0] := by
  rw [Lib.count_hit (i := 0) (by simp) (by rw [index_zero]; rfl)]
  rfl
theorem replaceK_other {c : UInt8} (h : c ≠ 0) (w : List UInt8) : ∀ (k : Nat) (l : List UInt8), Lib.replaceK [0] w k (c :: l) = c :: Lib.replaceK [0] w k l
  | 0, _ => rfl
  | k + 1, l => by
    by_cases h1 : Lib.index l [0] = -1
    · have h2 : Lib.index (c :: l) [0] = -1 := by rw [index_other h, if_pos h1]
      simp [Lib.replaceK, h1, h2]
    · have hg := Lib.index_ge l [0]
      obtain ⟨i, hi⟩ : ∃ i : Nat, Lib.index l [0] = i := ⟨(Lib.index l [0]).toNat, by omega⟩
      rw [Lib.replaceK_hit _ _ _ _ i hi, Lib.replaceK_hit _ _ _ _ (i + 1) (by rw [index_other h, if_neg h1, hi]; omega)]
      rfl
theorem repl_esc : ∀ (l : List UInt8), Lib.replaceK [0] [0, 255] (Lib.count l [0]) l = esc l
  | [] => by simp [Lib.count, Lib.countFrom, Lib.index, Lib.replaceK, esc]
  | c :: l => by
    by_cases h : c = 0
    · subst h
      rw [count_zero, Nat.add_comm, Lib.replaceK_hit _ _ _ _ 0 (by rw [index_zero]; rfl)]
      show [] ++ [0, 255] ++ Lib.replaceK [0] [0, 255] (Lib.count l [0]) l = _
      rw [repl_esc l]
      rfl
    · rw [count_other h, replaceK_other h, repl_esc l]
      simp [esc, h]
theorem replaceAll_esc (l : List UInt8) : Lib.replaceAll l [0] [0, 255] = esc l := by
  unfold Lib.replaceAll Lib.replace Lib.replaceNum
  have h : ¬ (([0] : List UInt8) == [0, 255]) = true := by decide
  rw [if_neg h, if_pos (.inl (by decide))]
  exact repl_esc l

theorem q_ReplaceAll (s : ByteArray) (H : AHeap) (hs : (bl s).length ≤ 1000000) : CC F.strings_ReplaceAll [.string s, .string (mk [0]), .string (mk [0, 255])] H = some (.string (mk (esc (bl s))), H) := by
  refine D_prim (show prims1 F.strings_ReplaceAll = some replP by kernel_rfl) ?_
  have h1 : s.size < 4294967281 ∧ 1 ≤ (mk [0]).size ∧ (mk [0, 255]).size ≤ 100 := by
    have e : s.size = (bl s).length := by cases s; rfl
    exact ⟨by omega, by decide, by decide⟩
  show (if s.size < 4294967281 ∧ 1 ≤ (mk [0]).size ∧ (mk [0, 255]).size ≤ 100 then some (Value.string ⟨(Lib.replaceAll s.data.toList (mk [0]).data.toList (mk [0, 255]).data.toList).toArray⟩, H) else none) = _
  rw [if_pos h1]
  have : Lib.replaceAll s.data.toList (mk [0]).data.toList (mk [0, 255]).data.toList = esc (bl s) := replaceAll_esc _
  rw [this]
  rfl

end Go.Proofs.YtlmhioanjmhaiaaDoor

/-
  Chapter 40: Reverse; rows.digits.
  Conditions: none. By an AI agent.
-/
set_option maxRecDepth 10000
set_option linter.unusedSimpArgs false
set_option linter.unusedVariables false
namespace Go.Proofs.YtlmhioanjmhaiaaDoor
open Go Eng

abbrev OkH (H : AHeap) : Prop := ∀ b, H.ver b < H.clk
theorem map_set' {α β : Type} (f : α → β) : ∀ (l : List α) (i : Nat) (a : α), (l.set i a).map f = (l.map f).set i (f a)
  | [], _, _ => rfl
  | _ :: _, 0, _ => rfl
  | x :: l, i + 1, a => by simp [map_set' f l i a]

/-- An element of one cell is set. -/
theorem Own.set1 {α : Type} {E : Enc α} {H : AHeap} {e : TypeId} {v : Value} {l : List α} (f : α → Value) (hw : E.w = 1) (hcells : ∀ l : List α, E.cells l = l.map f) (ho : ∀ a, Eng.one (f a) = true) (r : Own E H e v l) {i : Nat} (hi : i < l.length) (x : α) :
    ∃ b o k, ixS 1 v (.int .i64 (i : Int)) = some (.pointer (some ⟨b, o, none⟩)) ∧ blockOf v = some b ∧ b < H.n ∧ cellB (H.f b) o = some (f l[i]) ∧ wr1 (H.f b) o (f x) = some k ∧ Own E (H.set b k) e v (l.set i x) ∧ Fr (OnlyOf v) H (H.set b k) := by
  rcases r with ⟨h, _⟩ | ⟨h, _⟩ | ⟨b, o, c, xs, rfl, hl, hb, hf, hoc, hx⟩
  · subst h; simp at hi
  · subst h; simp at hi
  · rw [hw, Nat.mul_one] at hoc
    rw [hw, Nat.mul_one, hcells] at hx
    have hlen : o + i < xs.length := by omega
    have hcell : xs[o + i]? = some (f l[i]) := by
      have : ((xs.drop o).take l.length)[i]? = (l.map f)[i]? := by rw [hx]
      rw [List.getElem?_take_of_lt hi, List.getElem?_drop, List.getElem?_map, List.getElem?_eq_getElem hi] at this
      exact this
    have hix := ixS_nat (b := b) (o := o) (sz := 1) (code := 2 * c + 1) (q := .i64) hi
    rw [Nat.mul_one] at hix
    refine ⟨b, o + i, .cells (xs.set (o + i) (f x)) e true, hix, rfl, hb, by rw [hf]; exact hcell, by rw [hf]; exact wr1_c hlen (ho x), ?_, Fr.set (Fr.refl H) _ _ fun _ => rfl⟩
    refine .inr (.inr ⟨b, o, c, xs.set (o + i) (f x), by simp, by simpa using hl, hb, set_f_eq, by simp [hw]; exact hoc, ?_⟩)
    rw [hw, Nat.mul_one, hcells, map_set', List.length_set, ← hx, List.drop_set, if_neg (by omega), List.take_set]
    congr 1
    omega

theorem Since.set {H0 H : AHeap} {v : Value} {l : List UInt8} (r : Since H0 H v l) {i : Nat} (hi : i < l.length) (x : UInt8) :
    ∃ b o k, ixS 1 v (.int .i64 (i : Int)) = some (.pointer (some ⟨b, o, none⟩)) ∧ cellB (H.f b) o = some (.int .u8 (l[i].toNat : Int)) ∧ wr1 (H.f b) o (.int .u8 (x.toNat : Int)) = some k ∧ Since H0 (H.set b k) v (l.set i x) := by
  obtain ⟨b, o, k, e1, e2, e3, e4, e5, e6, e7⟩ := Own.set1 byteCell rfl EB_cells (fun _ => rfl) r.own hi x
  exact ⟨b, o, k, e1, e4, e5, r.still.then e7 fun c hc h => by unfold OnlyOf at h; have := r.new c h; omega, e6, r.new⟩

theorem l_Rev (v : Value) (H0 : AHeap) : ∀ (d : Nat) (mid pre suf : List UInt8) (H : AHeap) (i j : Int), mid.length = d → Since H0 H v (pre ++ mid ++ suf) → i = pre.length → j = (pre.length : Int) + mid.length - 1 → (pre ++ mid ++ suf).length ≤ 1000000 →
    ∃ H', Since H0 H' v (pre ++ mid.reverse ++ suf) ∧ H'.n = H.n ∧ Fr (OnlyOf v) H H' ∧ ∀ K : K, l_slices_Reverse_byte_0 v (.int .i64 i) (.int .i64 j) H (blkK [] 0 K) = K .normal [] H' := by
  intro d
  induction d using Nat.strongRecOn with
  | ind d ihd =>
    intro mid pre suf H i j hd so hi hj hlen
    cases mid with
    | nil =>
      have hlt : ¬ i < j := by simp at hj; omega
      refine ⟨H, so, rfl, Fr.refl H, fun K => ?_⟩
      rw [r_slices_Reverse_byte_0]
      simp (disch := first | with_reducible rfl | assumption | omega | rfl | (simp only [go_sem]; first | done | omega)) only [go_sem, ↓reduceIte, reduceCtorEq, Nat.reduceEqDiff, Nat.reduceAdd, Nat.reduceSub, Nat.reduceMul, Nat.reduceDiv, Nat.reduceMod, Nat.reduceLeDiff, Nat.reduceLT, Nat.reduceBEq, Int.reduceEq, Int.reduceBEq, Int.reduceBNe, Int.reduceLT, Int.reduceLE, Int.reduceAdd, Int.reduceSub, Int.reduceNeg, Int.reduceToNat, Int.reducePow, Nat.reducePow, Int.reduceMul, Int.reduceDiv, ↓s_slices_Reverse_byte_b0, hlt]
    | cons a t =>
      by_cases ht : t = []
      · subst ht
        have hlt : ¬ i < j := by simp at hj; omega
        refine ⟨H, so, rfl, Fr.refl H, fun K => ?_⟩
        rw [r_slices_Reverse_byte_0]
        simp (disch := first | with_reducible rfl | assumption | omega | rfl | (simp only [go_sem]; first | done | omega)) only [go_sem, ↓reduceIte, reduceCtorEq, Nat.reduceEqDiff, Nat.reduceAdd, Nat.reduceSub, Nat.reduceMul, Nat.reduceDiv, Nat.reduceMod, Nat.reduceLeDiff, Nat.reduceLT, Nat.reduceBEq, Int.reduceEq, Int.reduceBEq, Int.reduceBNe, Int.reduceLT, Int.reduceLE, Int.reduceAdd, Int.reduceSub, Int.reduceNeg, Int.reduceToNat, Int.reducePow, Nat.reducePow, Int.reduceMul, Int.reduceDiv, ↓s_slices_Reverse_byte_b0, hlt]
      · obtain ⟨m, b, hmb⟩ : ∃ m b, t = m ++ [b] := ⟨t.dropLast, t.getLast ht, (List.dropLast_concat_getLast ht).symm⟩
        subst hmb
        obtain ⟨L, hL⟩ : ∃ L, pre ++ a :: (m ++ b :: suf) = L := ⟨_, rfl⟩
        have e0 : pre ++ a :: (m ++ [b]) ++ suf = L := by rw [← hL]; simp
        rw [e0] at so hlen
        have hLl : L.length = pre.length + m.length + 2 + suf.length := by rw [← hL]; simp; omega
        have hlt : i < j := by simp at hj; omega
        have hjn : j = ((pre.length + m.length + 1 : Nat) : Int) := by simp at hj; omega
        have gi : L[pre.length]'(by omega) = a := by simp [← hL]
        have gj : L[pre.length + m.length + 1]'(by omega) = b := by
          simp only [← hL]
          rw [List.getElem_append_right (by omega)]
          simp [show pre.length + m.length + 1 - pre.length = m.length + 1 by omega]
        obtain ⟨bi, oi, ki, ixi, ci, wi, so1⟩ := so.set (i := pre.length) (by omega) b
        obtain ⟨H1, hH1⟩ : ∃ H1, H.set bi ki = H1 := ⟨_, rfl⟩
        rw [hH1] at so1
        obtain ⟨bj0, oj0, _, ixj0, cj0, _, _⟩ := so.set (i := pre.length + m.length + 1) (by omega) a
        obtain ⟨bj, oj, kj, ixj, _, wj, so2⟩ := so1.set (i := pre.length + m.length + 1) (by simp; omega) a
        rw [ixj0] at ixj
        cases ixj
        obtain ⟨H2, hH2⟩ : ∃ H2, H1.set bj0 kj = H2 := ⟨_, rfl⟩
        rw [hH2] at so2
        rw [gi] at ci
        rw [gj] at cj0
        have e1 : (L.set pre.length b).set (pre.length + m.length + 1) a = pre ++ [b] ++ m ++ (a :: suf) := by
          rw [← hL, List.set_append_right _ _ (Nat.le_refl _), Nat.sub_self, List.set_cons_zero, List.set_append_right _ _ (by omega), show pre.length + m.length + 1 - pre.length = m.length + 1 by omega, List.set_cons_succ, List.set_append_right _ _ (Nat.le_refl _), Nat.sub_self, List.set_cons_zero]
          simp
        rw [e1] at so2
        obtain ⟨H', so3, n3, f3, e3⟩ := ihd m.length (by rw [← hd]; simp; omega) m (pre ++ [b]) (a :: suf) H2 (i + 1) (j - 1) rfl so2 (by simp; omega) (by simp; omega) (by simp; omega)
        have n1 : H1.n = H.n := by rw [← hH1]; rfl
        have n2 : H2.n = H1.n := by rw [← hH2]; rfl
        have hblk : ∀ {iv : Int} {x y : Nat}, ixS 1 v (.int .i64 iv) = some (.pointer (some ⟨x, y, none⟩)) → blockOf v = some x := fun {iv x y} h => by
          obtain ⟨aa, cc, e⟩ := so.own.rd.shape
          rw [e] at h ⊢
          cases aa with
          | none => simp [ixS] at h
          | some ad =>
            obtain ⟨p, q, r⟩ := ad
            cases r with
            | some z => simp [ixS] at h
            | none =>
              unfold ixS at h
              simp only at h
              split at h
              · injection h with h; injection h with h; injection h with h; injection h with h1 h2 h3; subst h1; rfl
              · cases h
        have fr1 : Fr (OnlyOf v) H H1 := by rw [← hH1]; exact Fr.set (Fr.refl H) _ _ fun _ => hblk ixi
        have fr2 : Fr (OnlyOf v) H1 H2 := by rw [← hH2]; exact Fr.set (Fr.refl H1) _ _ fun _ => hblk ixj0
        refine ⟨H', ?_, by omega, (fr1.trans fr2).trans f3, fun K => ?_⟩
        · have : pre ++ (a :: (m ++ [b])).reverse ++ suf = pre ++ [b] ++ m.reverse ++ (a :: suf) := by simp
          rw [this]; exact so3
        · have hck : okV (some true) none H H1 H H = true := okV_none (.inl (Nat.le_refl _))
          have hai : ∀ ox oy, xbin Tryd.prog .add T.int ox oy (.int .i64 i) (.int .i64 1) = some (.int .i64 (i + 1)) := fun ox oy => add_i64 (by omega)
          have haj : ∀ ox oy, xbin Tryd.prog .sub T.int ox oy (.int .i64 j) (.int .i64 1) = some (.int .i64 (j - 1)) := fun ox oy => sub_i64 (by omega)
          have ixi' : ixS 1 v (.int .i64 i) = some (.pointer (some ⟨bi, oi, none⟩)) := by rw [hi]; exact ixi
          have ixj' : ixS 1 v (.int .i64 j) = some (.pointer (some ⟨bj0, oj0, none⟩)) := by rw [hjn]; exact ixj0
          have := e3 K
          rw [r_slices_Reverse_byte_0]
          simp (disch := first | with_reducible rfl | assumption | omega | rfl | (simp only [go_sem]; first | done | omega)) only [go_sem, ↓reduceIte, reduceCtorEq, Nat.reduceEqDiff, Nat.reduceAdd, Nat.reduceSub, Nat.reduceMul, Nat.reduceDiv, Nat.reduceMod, Nat.reduceLeDiff, Nat.reduceLT, Nat.reduceBEq, Int.reduceEq, Int.reduceBEq, Int.reduceBNe, Int.reduceLT, Int.reduceLE, Int.reduceAdd, Int.reduceSub, Int.reduceNeg, Int.reduceToNat, Int.reducePow, Nat.reducePow, Int.reduceMul, Int.reduceDiv, ↓s_slices_Reverse_byte_b0, hlt, ixj', cj0, ixi', ci, wi, hH1, wj, hH2, hck, hai, haj]
          exact this

theorem q_Reverse (v : Value) (l : List UInt8) (H0 H : AHeap) (ok : OkH H) (so : Since H0 H v l) (hl : l.length ≤ 1000) : ∃ H', CC F.slices_Reverse_byte [v] H = some (.tuple #[], H') ∧ Since H0 H' v l.reverse := by
  have hlen := so.own.rd.lenS
  obtain ⟨H', so', n', f', e'⟩ := l_Rev v H0 l.length l [] [] H 0 ((l.length : Int) - 1) rfl (by simpa using so) rfl (by simp) (by simp; omega)
  have so' : Since H0 H' v l.reverse := by simpa using so'
  have key : s_slices_Reverse_byte guardK condL shareL Tryd.prog CC l_slices_Reverse_byte_0 v H (endK Tryd.prog []) = some (.tuple #[], H') := by
    simp (disch := first | with_reducible rfl | assumption | omega | rfl | (simp only [go_sem]; first | done | omega)) only [go_sem, ↓reduceIte, reduceCtorEq, Nat.reduceEqDiff, Nat.reduceAdd, Nat.reduceSub, Nat.reduceMul, Nat.reduceDiv, Nat.reduceMod, Nat.reduceLeDiff, Nat.reduceLT, Nat.reduceBEq, Int.reduceEq, Int.reduceBEq, Int.reduceBNe, Int.reduceLT, Int.reduceLE, Int.reduceAdd, Int.reduceSub, Int.reduceNeg, Int.reduceToNat, Int.reducePow, Nat.reducePow, Int.reduceMul, Int.reduceDiv, ↓s_slices_Reverse_byte, hlen, e']
    try rfl
  have hd := d_slices_Reverse_byte v H key
  unfold tidy at hd
  split at hd
  · rename_i hg
    simp only [Bool.and_eq_true] at hg
    refine ⟨H, hd, so.still, ?_, so.new⟩
    -- nothing has turned
    have hsame : ∀ c, c < H.n → H'.f c = H.f c := by
      intro c hc
      rcases f'.old c hc with h | ⟨h, _⟩
      · exact h.2
      · have := List.all_eq_true.1 hg.2 c (by simpa using hc)
        have := ok c
        simp at *
        omega
    rcases so'.own with h | ⟨h1, a, h2, h3, h4⟩ | ⟨b, o, c, xs, h1, h2, h3, h4, h5⟩
    · exact .inl h
    · exact .inr (.inl ⟨h1, a, h2, h3, by omega⟩)
    · exact .inr (.inr ⟨b, o, c, xs, h1, h2, by omega, by rw [← hsame b (by omega)]; exact h4, h5⟩)
  · exact ⟨H', hd, so'⟩

theorem l_digits (H0 : AHeap) : ∀ (k n : Nat) (H : AHeap) (v : Value) (acc : List UInt8), n < 256 ^ k → k ≤ 8 → acc.length + k ≤ 1000 → Since H0 H v acc →
    ∃ v' H', Since H0 H' v' (acc ++ (dg n).reverse) ∧ ∀ K : K, l_rows_digits_0 (.int .u64 (n : Int)) v H (blkK [3] 0 K) = K .normal [(3, v')] H'
  | 0, n, H, v, acc, h, hk, hc, so => by
    have h : n < 1 := h
    have : n = 0 := by omega
    subst this
    refine ⟨v, H, by rw [dg_zero]; simpa using so, fun K => ?_⟩
    rw [r_rows_digits_0]
    simp (disch := first | with_reducible rfl | assumption | omega | rfl | (simp only [go_sem]; first | done | omega)) only [go_sem, ↓reduceIte, reduceCtorEq, Nat.reduceEqDiff, Nat.reduceAdd, Nat.reduceSub, Nat.reduceMul, Nat.reduceDiv, Nat.reduceMod, Nat.reduceLeDiff, Nat.reduceLT, Nat.reduceBEq, Int.reduceEq, Int.reduceBEq, Int.reduceBNe, Int.reduceLT, Int.reduceLE, Int.reduceAdd, Int.reduceSub, Int.reduceNeg, Int.reduceToNat, Int.reducePow, Nat.reducePow, Int.reduceMul, Int.reduceDiv, ↓s_rows_digits_b0]
  | k + 1, n, H, v, acc, h, hk, hc, so => by
    by_cases h0 : n = 0
    · subst h0
      refine ⟨v, H, by rw [dg_zero]; simpa using so, fun K => ?_⟩
      rw [r_rows_digits_0]
      simp (disch := first | with_reducible rfl | assumption | omega | rfl | (simp only [go_sem]; first | done | omega)) only [go_sem, ↓reduceIte, reduceCtorEq, Nat.reduceEqDiff, Nat.reduceAdd, Nat.reduceSub, Nat.reduceMul, Nat.reduceDiv, Nat.reduceMod, Nat.reduceLeDiff, Nat.reduceLT, Nat.reduceBEq, Int.reduceEq, Int.reduceBEq, Int.reduceBNe, Int.reduceLT, Int.reduceLE, Int.reduceAdd, Int.reduceSub, Int.reduceNeg, Int.reduceToNat, Int.reducePow, Nat.reducePow, Int.reduceMul, Int.reduceDiv, ↓s_rows_digits_b0]
    · have hn : n / 256 < 256 ^ k := by rw [Nat.pow_succ] at h; omega
      have h0' : 0 < (n : Int) := by omega
      obtain ⟨H1, hH1⟩ : ∃ H1, H.push (.cells [.int .u8 ((n : Int) % 256)] T.uint8 true) = H1 := ⟨_, rfl⟩
      have hH1' : H.push (.cells (EB.cells [by8 n]) T.uint8 true) = H1 := by rw [cells_one]; exact hH1
      obtain ⟨v1, H2, a1, so1⟩ := so.lit [by8 n] hH1' (by simp; omega)
      have a1 : Eng.app T.uint8 1 1 v (srcS 1 (.slice (some ⟨H.n, 0, none⟩) 1 2) H1) H1 = some (v1, H2) := a1
      obtain ⟨v2, H3, so2, e2⟩ := l_digits H0 k (n / 256) H2 v1 (acc ++ [by8 n]) hn (by omega) (by simp; omega) so1
      have sh : ∀ ox oy, xbin Tryd.prog .shr T.uint64 ox oy (.int .u64 (n : Int)) (.int .u64 8) = some (.int .u64 ((n / 256 : Nat) : Int)) := fun ox oy => shrP (by decide)
      have cA : ∀ H : AHeap, xconv Tryd.prog T.uint64 T.uint8 (.int .u64 (n : Int)) H = some (.int .u8 ((n : Int) % 256), H) := fun H => by rw [x_uint64_uint8, wrapU8]
      refine ⟨v2, H3, ?_, fun K => ?_⟩
      · rw [dg_pos h0, List.reverse_append]
        simpa using so2
      · have := e2 K
        rw [r_rows_digits_0]
        simp (disch := first | with_reducible rfl | assumption | omega | rfl | (simp only [go_sem]; first | done | omega)) only [go_sem, ↓reduceIte, reduceCtorEq, Nat.reduceEqDiff, Nat.reduceAdd, Nat.reduceSub, Nat.reduceMul, Nat.reduceDiv, Nat.reduceMod, Nat.reduceLeDiff, Nat.reduceLT, Nat.reduceBEq, Int.reduceEq, Int.reduceBEq, Int.reduceBNe, Int.reduceLT, Int.reduceLE, Int.reduceAdd, Int.reduceSub, Int.reduceNeg, Int.reduceToNat, Int.reducePow, Nat.reducePow, Int.reduceMul, Int.reduceDiv, ↓s_rows_digits_b0, h0', cA, hH1, a1, sh]
        exact this

end Go.Proofs.YtlmhioanjmhaiaaDoor

/-
  Chapter 40: rows.digits; a row of bytes that grows; the bytes of a cell.
  Conditions: none. By an AI agent.
-/
set_option maxRecDepth 10000
set_option linter.unusedSimpArgs false
set_option linter.unusedVariables false
namespace Go.Proofs.YtlmhioanjmhaiaaDoor
open Go Eng

theorem q_rdigits (k n : Nat) (H : AHeap) (ok : OkH H) (hn : n < 256 ^ k) (hk : k ≤ 8) : ∃ v' H', CC F.rows_digits [.int .u64 (n : Int)] H = some (v', H') ∧ Since H H' v' (dg n) := by
  obtain ⟨v1, H1, s1, e1⟩ := l_digits H k n H (.slice none 0 0) [] hn hk (by simp; omega) Since.nil
  rw [List.nil_append] at s1
  have hl := dg_len k n hn
  obtain ⟨H2, m2, s2⟩ := q_Reverse v1 (dg n).reverse H H1 (s1.still.ok ok) s1 (by simp; omega)
  rw [List.reverse_reverse] at s2
  have key : s_rows_digits guardK condL shareL Tryd.prog CC l_rows_digits_0 (.int .u64 (n : Int)) H (endK Tryd.prog [.tmp 2]) = some (v1, H2) := by
    simp (disch := first | with_reducible rfl | assumption | omega | rfl | (simp only [go_sem]; first | done | omega)) only [go_sem, ↓reduceIte, reduceCtorEq, Nat.reduceEqDiff, Nat.reduceAdd, Nat.reduceSub, Nat.reduceMul, Nat.reduceDiv, Nat.reduceMod, Nat.reduceLeDiff, Nat.reduceLT, Nat.reduceBEq, Int.reduceEq, Int.reduceBEq, Int.reduceBNe, Int.reduceLT, Int.reduceLE, Int.reduceAdd, Int.reduceSub, Int.reduceNeg, Int.reduceToNat, Int.reducePow, Nat.reducePow, Int.reduceMul, Int.reduceDiv, ↓s_rows_digits, e1, enterK_eq m2]
    try rfl
  have hd := d_rows_digits (.int .u64 (n : Int)) H key
  unfold tidy at hd
  split at hd
  · rename_i hg
    simp only [Bool.and_eq_true] at hg
    have hv : v1 = .slice none 0 0 := by
      rcases s2.own with ⟨_, h⟩ | ⟨_, a, h, _⟩ | ⟨b, o', c, xs, h, _⟩
      · exact h
      · rw [h] at hg; simp [gr] at hg
      · rw [h] at hg; simp [gr] at hg
    refine ⟨v1, H, hd, Fr.refl H, ?_, fun b h => by rw [hv] at h; cases h⟩
    rcases s2.own with ⟨h1, h⟩ | ⟨_, a, h, _⟩ | ⟨b, o', c, xs, h, _⟩
    · exact .inl ⟨h1, h⟩
    · rw [hv] at h; cases h
    · rw [hv] at h; cases h
  · exact ⟨v1, H2, hd, s2⟩

/-- A row of bytes that may be appended to. -/
structure Grw (H0 H : AHeap) (v : Value) (l : List UInt8) : Prop where
  still : Still H0 H
  rd : BR H v l
  new : ∀ b, blockOf v = some b → H0.n ≤ b
  gr : Own EB H T.uint8 v l ∨ Full v
theorem Since.grw {H0 H : AHeap} {v : Value} {l : List UInt8} (r : Since H0 H v l) : Grw H0 H v l := ⟨r.still, r.own.sl, r.new, .inl r.own⟩
theorem Grw.to {H0 H H' : AHeap} {v : Value} {l : List UInt8} (r : Grw H0 H v l) (s : Still H H') : Grw H0 H' v l := ⟨r.still.trans s, r.rd.still s, r.new, r.gr.imp (fun h => h.still s) id⟩
theorem Grw.blk {H0 H : AHeap} {v : Value} {l : List UInt8} (r : Grw H0 H v l) {b : Nat} (h : blockOf v = some b) : b < H.n := by
  rcases r.rd.2 with h' | ⟨b', o, n', code, h', _, _, h3⟩
  · rw [h'] at h; cases h
  · rw [h'] at h; cases h; exact h3
theorem Grw.app {H0 H : AHeap} {v : Value} {l : List UInt8} (r : Grw H0 H v l) {m : List UInt8} (hm : m ≠ []) {src : Option (Nat × List Value)} (hsrc : src = some (m.length, EB.cells m)) (hb : l.length + m.length ≤ 1000000000000) :
    ∃ v' H', Eng.app T.uint8 1 1 v src H = some (v', H') ∧ Since H0 H' v' (l ++ m) ∧ Fr (OnlyOf v) H H' := by
  rcases r.gr with ho | hf
  · obtain ⟨v', H', e1, e2, e3, e4⟩ := ho.appA m (sz := 1) (bytes := 1) rfl (by omega) (by omega) hsrc
    refine ⟨v', H', e1, ⟨r.still.then e3 fun b hb h => ?_, e2, fun b h => ?_⟩, e3⟩
    · unfold OnlyOf at h; have := r.new b h; omega
    · rcases e4 with h4 | h4
      · rw [h4] at h; exact r.new b h
      · rw [h4] at h; cases h; exact r.still.n
  · obtain ⟨v', H', e1, e2, e3, e4, _⟩ := Full.app (e := T.uint8) hf r.rd.1 hm (sz := 1) (bytes := 1) rfl (by omega) (by omega) hsrc
    exact ⟨v', H', e1, ⟨r.still.trans e3, e2, fun b h => by rw [e4] at h; cases h; exact r.still.n⟩, e3.mono fun b _ h => h.elim⟩
theorem Grw.lit {H0 H : AHeap} {v : Value} {l : List UInt8} (r : Grw H0 H v l) {m : List UInt8} (hm : m ≠ []) {H1 : AHeap} (h1 : H.push (.cells (EB.cells m) T.uint8 true) = H1) (hb : l.length + m.length ≤ 1000000000000) :
    ∃ v' H', Eng.app T.uint8 1 1 v (srcS 1 (.slice (some ⟨H.n, 0, none⟩) m.length (2 * m.length)) H1) H1 = some (v', H') ∧ Since H0 H' v' (l ++ m) ∧ Fr (OnlyOf v) H H' := by
  have s1 : Still H H1 := by rw [← h1]; exact (Fr.refl H).push _
  have n1 : H1.n = H.n + 1 := by rw [← h1]; rfl
  have f1 : H1.f H.n = .cells (EB.cells m) T.uint8 true := by rw [← h1]; exact push_f_eq rfl
  have rm : BR H1 (.slice (some ⟨H.n, 0, none⟩) m.length (2 * m.length)) m := newB (by omega) f1
  obtain ⟨v', H', e1, e2, e3⟩ := (r.to s1).app hm (rm.1.src (sz := 1) rfl) hb
  exact ⟨v', H', e1, e2, s1.still.then e3 fun b hb h => h⟩

/-- The bytes of a cell. -/
def inv8 (c : UInt8) : UInt8 := by8 (255 - c.toNat)
def enc (c : Cl) : List UInt8 :=
  if c.kind = 1 then by8 (dg c.u.toNat).length :: dg c.u.toNat
  else if c.kind = 2 then (if 0 ≤ c.i then by8 (128 + (dg c.i.toNat).length) :: dg c.i.toNat else by8 (127 - (dg (-(c.i + 1)).toNat).length) :: (dg (-(c.i + 1)).toNat).map inv8)
  else if c.kind = 3 then esc (bl c.s) ++ [0, 1]
  else if c.b = true then [1] else [0]
/-- What a cell's numbers may be. -/
def CellOk (c : Cl) : Prop := (0 ≤ c.u ∧ c.u < 18446744073709551616) ∧ (-9223372036854775808 ≤ c.i ∧ c.i < 9223372036854775808) ∧ (bl c.s).length ≤ 1000

theorem esc_len : ∀ l : List UInt8, (esc l).length ≤ 2 * l.length
  | [] => by simp [esc]
  | c :: l => by
    have := esc_len l
    unfold esc
    split <;> simp <;> omega
theorem enc_len {c : Cl} (h : CellOk c) : (enc c).length ≤ 3000 ∧ enc c ≠ [] := by
  have l1 := dg_len 8 c.u.toNat (by have := h.1; show _ < 18446744073709551616; omega)
  have l2 := dg_len 8 c.i.toNat (by have := h.2.1; show _ < 18446744073709551616; omega)
  have l3 := dg_len 8 (-(c.i + 1)).toNat (by have := h.2.1; show _ < 18446744073709551616; omega)
  have l4 := esc_len (bl c.s)
  have l5 := h.2.2
  unfold enc
  split
  · refine ⟨by simp; omega, by simp⟩
  · split
    · split
      · refine ⟨by simp; omega, by simp⟩
      · refine ⟨by simp; omega, by simp⟩
    · split
      · refine ⟨by simp; omega, by simp⟩
      · split <;> exact ⟨by simp, by simp⟩

end Go.Proofs.YtlmhioanjmhaiaaDoor

/-
  Chapter 40: rows.put.
  Conditions: none. By an AI agent.
-/
set_option maxRecDepth 10000
set_option linter.unusedSimpArgs false
set_option linter.unusedVariables false
namespace Go.Proofs.YtlmhioanjmhaiaaDoor
open Go Eng

theorem Grw.appA {H0 H : AHeap} {v : Value} {l : List UInt8} (r : Grw H0 H v l) (m : List UInt8) {src : Option (Nat × List Value)} (hsrc : src = some (m.length, EB.cells m)) (hb : l.length + m.length ≤ 1000000000000) :
    ∃ v' H', Eng.app T.uint8 1 1 v src H = some (v', H') ∧ Grw H0 H' v' (l ++ m) ∧ Fr (OnlyOf v) H H' := by
  by_cases hm : m = []
  · subst hm
    obtain ⟨a, c, e⟩ := r.rd.1.shape
    refine ⟨v, H, ?_, by simpa using r, Fr.refl H⟩
    rw [e, hsrc]
    simp [Eng.app]
  · obtain ⟨v', H', e1, e2, e3⟩ := r.app hm hsrc hb
    exact ⟨v', H', e1, e2.grw, e3⟩
theorem gr_since {H0 H : AHeap} {v : Value} {l : List UInt8} (r : Since H0 H v l) (h : l ≠ []) : gr 9 v = false := by
  rcases r.own with ⟨e, _⟩ | ⟨e, _⟩ | ⟨b, o, c, xs, e, _⟩
  · exact absurd e h
  · exact absurd e h
  · rw [e]; rfl

theorem inv8_nat (c : UInt8) : ((inv8 c).toNat : Int) = (255 - (c.toNat : Int)) % 256 := by
  have h := by8_cell (255 - c.toNat)
  unfold byteCell at h
  injection h with _ h
  have := Eng.u8_lt c
  unfold inv8
  rw [h]
  omega

theorem l_put (v : Value) (w : Value) (H0 : AHeap) : ∀ (t pre : List UInt8) (H : AHeap), Since H0 H w (pre ++ t) → (pre ++ t).length ≤ 1000 →
    ∃ H', Since H0 H' w (pre ++ t.map inv8) ∧ Fr (OnlyOf w) H H' ∧ ∀ K : K, l_rows_put_0 v w (.int .i64 ((pre ++ t).length : Int)) (.int .i64 (pre.length : Int)) H (blkK [0, 7] 1 K) = K .normal [(0, v), (7, w)] H'
  | [], pre, H, so, hl => by
    have hlt : ¬ (pre.length : Int) < ((pre ++ []).length : Int) := by simp
    refine ⟨H, by simpa using so, Fr.refl H, fun K => ?_⟩
    rw [r_rows_put_0]
    simp (disch := first | with_reducible rfl | assumption | omega | rfl | (simp only [go_sem]; first | done | omega)) only [go_sem, ↓reduceIte, reduceCtorEq, Nat.reduceEqDiff, Nat.reduceAdd, Nat.reduceSub, Nat.reduceMul, Nat.reduceDiv, Nat.reduceMod, Nat.reduceLeDiff, Nat.reduceLT, Nat.reduceBEq, Int.reduceEq, Int.reduceBEq, Int.reduceBNe, Int.reduceLT, Int.reduceLE, Int.reduceAdd, Int.reduceSub, Int.reduceNeg, Int.reduceToNat, Int.reducePow, Nat.reducePow, Int.reduceMul, Int.reduceDiv, ↓s_rows_put_b0, hlt]
  | c :: t, pre, H, so, hl => by
    obtain ⟨L, hL⟩ : ∃ L, pre ++ c :: t = L := ⟨_, rfl⟩
    rw [hL] at so hl ⊢
    have hLl : L.length = pre.length + t.length + 1 := by rw [← hL]; simp; omega
    have hlt : (pre.length : Int) < (L.length : Int) := by omega
    have gi : L[pre.length]'(by omega) = c := by simp [← hL]
    obtain ⟨b, o, k, ix, cc, wr, so1⟩ := so.set (i := pre.length) (by omega) (inv8 c)
    rw [gi] at cc
    obtain ⟨H1, hH1⟩ : ∃ H1, H.set b k = H1 := ⟨_, rfl⟩
    rw [hH1] at so1
    have e1 : L.set pre.length (inv8 c) = (pre ++ [inv8 c]) ++ t := by
      rw [← hL, List.set_append_right _ _ (Nat.le_refl _), Nat.sub_self, List.set_cons_zero]
      simp
    rw [e1] at so1
    have hl1 : ((pre ++ [inv8 c]) ++ t).length = L.length := by simp; omega
    obtain ⟨H', so2, f2, e2⟩ := l_put v w H0 t (pre ++ [inv8 c]) H1 so1 (by rw [hl1]; exact hl)
    rw [hl1] at e2
    have hbo : blockOf w = some b := by
      obtain ⟨aa, cc, e⟩ := so.own.rd.shape
      rw [e] at ix ⊢
      cases aa with
      | none => simp [ixS] at ix
      | some ad =>
        obtain ⟨p, q, r⟩ := ad
        cases r with
        | some z => simp [ixS] at ix
        | none =>
          unfold ixS at ix
          simp only at ix
          split at ix
          · injection ix with h; injection h with h; injection h with h; injection h with h1 h2 h3; subst h1; rfl
          · cases ix
    have fr1 : Fr (OnlyOf w) H H1 := by rw [← hH1]; exact Fr.set (Fr.refl H) _ _ fun _ => hbo
    have sub1 : ∀ ox oy, xbin Tryd.prog .sub T.uint8 ox oy (.int .u8 255) (.int .u8 (c.toNat : Int)) = some (.int .u8 ((inv8 c).toNat : Int)) := fun ox oy => by rw [xbin_sub, wrapU8, inv8_nat]
    refine ⟨H', by simpa using so2, fr1.trans f2, fun K => ?_⟩
    have := e2 K
    rw [show ((pre ++ [inv8 c]).length : Int) = (pre.length : Int) + 1 by simp] at this
    rw [r_rows_put_0]
    simp (disch := first | with_reducible rfl | assumption | omega | rfl | (simp only [go_sem]; first | done | omega)) only [go_sem, ↓reduceIte, reduceCtorEq, Nat.reduceEqDiff, Nat.reduceAdd, Nat.reduceSub, Nat.reduceMul, Nat.reduceDiv, Nat.reduceMod, Nat.reduceLeDiff, Nat.reduceLT, Nat.reduceBEq, Int.reduceEq, Int.reduceBEq, Int.reduceBNe, Int.reduceLT, Int.reduceLE, Int.reduceAdd, Int.reduceSub, Int.reduceNeg, Int.reduceToNat, Int.reducePow, Nat.reducePow, Int.reduceMul, Int.reduceDiv, ↓s_rows_put_b0, hlt, ix, cc, sub1, wr, hH1]
    exact this

set_option maxHeartbeats 2000000 in
theorem q_put (c : Cl) (hc : CellOk c) (v : Value) (o : List UInt8) (H0 H : AHeap) (ok : OkH H) (g : Grw H0 H v o) (ho : o.length ≤ 1000000) : ∃ v' H', CC F.rows_put [v, .agg ⟨c.l⟩] H = some (v', H') ∧ Since H0 H' v' (o ++ enc c) := by
  obtain ⟨k1, u1, i1, s1, b1⟩ := c
  obtain ⟨H1, hH1⟩ : ∃ H1, H.push (.cells [.int .i64 k1, .int .u64 u1, .int .i64 i1, .string s1, .bool b1] T.api_Cell true) = H1 := ⟨_, rfl⟩
  have st : Still H H1 := by rw [← hH1]; exact (Fr.refl H).push _
  have n1 : H1.n = H.n + 1 := by rw [← hH1]; rfl
  have f1 : H1.f H.n = .cells [.int .i64 k1, .int .u64 u1, .int .i64 i1, .string s1, .bool b1] T.api_Cell true := by rw [← hH1]; exact push_f_eq rfl
  have g1 := g.to st
  have ok1 : OkH H1 := st.ok ok
  obtain ⟨⟨hu0, hu1⟩, ⟨hi0, hi1⟩, hs⟩ := hc
  dsimp only at hu0 hu1 hi0 hi1 hs
  have gblk : ∀ b, blockOf v = some b → b < H.n := fun b h => g.blk h
  have cA : ∀ (m : Int) H, xconv Tryd.prog T.int T.uint8 (.int .i64 m) H = some (.int .u8 (m % 256), H) := fun m H => by rw [x_int_uint8, wrapU8]
  -- a length byte a, then the row d
  have tail : ∀ (a : Nat) (d : List UInt8) (vd : Value) (Hd : AHeap), Since H1 Hd vd d → d.length ≤ 1000 →
      ∃ H2 v3 H3 v4 H4, Hd.push (.cells [.int .u8 ((a : Int) % 256)] T.uint8 true) = H2 ∧ Eng.app T.uint8 1 1 v (srcS 1 (.slice (some ⟨Hd.n, 0, none⟩) 1 2) H2) H2 = some (v3, H3) ∧ Eng.app T.uint8 1 1 v3 (srcS 1 vd H3) H3 = some (v4, H4) ∧ Since H0 H4 v4 (o ++ by8 a :: d) := fun a d vd Hd sd hd => by
    obtain ⟨H2, hH2⟩ : ∃ H2, Hd.push (.cells [.int .u8 ((a : Int) % 256)] T.uint8 true) = H2 := ⟨_, rfl⟩
    have hH2' : Hd.push (.cells (EB.cells [by8 a]) T.uint8 true) = H2 := by rw [cells_one]; exact hH2
    obtain ⟨v3, H3, a3, s3, fr3⟩ := (g1.to sd.still).lit (m := [by8 a]) (by simp) hH2' (by simp; omega)
    have r3 : BR H3 vd d := sd.own.sl.keep fr3 fun b hb h => by
      unfold OnlyOf at h
      have h1 := gblk b h
      have h2 := sd.new b hb
      omega
    obtain ⟨v4, H4, a4, s4⟩ := s3.app d (r3.1.src (sz := 1) rfl) (by simp; omega)
    exact ⟨H2, v3, H3, v4, H4, hH2, a3, a4, by simpa using s4⟩
  show ∃ v' H', CC F.rows_put [v, .agg ⟨[.int .i64 k1, .int .u64 u1, .int .i64 i1, .string s1, .bool b1]⟩] H = some (v', H') ∧ _
  unfold enc
  dsimp only
  by_cases h1 : k1 = 1
  · subst h1
    rw [if_pos rfl]
    obtain ⟨vd, Hd, md, sd⟩ := q_rdigits 8 u1.toNat H1 ok1 (by show _ < 18446744073709551616; omega) (by decide)
    have hl := dg_len 8 u1.toNat (by show _ < 18446744073709551616; omega)
    rw [show ((u1.toNat : Nat) : Int) = u1 by omega] at md
    have hld := sd.own.rd.lenS
    obtain ⟨H2, v3, H3, v4, H4, hH2, a3, a4, s4⟩ := tail (dg u1.toNat).length (dg u1.toNat) vd Hd sd (by omega)
    refine ⟨v4, H4, (d_rows_put _ _ H ?_).trans (congrArg some (tidy_mem (gr_since s4 (by simp)))), s4⟩
    simp (disch := first | with_reducible rfl | assumption | omega | rfl | (simp only [go_sem]; first | done | omega)) only [go_sem, ↓reduceIte, reduceCtorEq, Nat.reduceEqDiff, Nat.reduceAdd, Nat.reduceSub, Nat.reduceMul, Nat.reduceDiv, Nat.reduceMod, Nat.reduceLeDiff, Nat.reduceLT, Nat.reduceBEq, Int.reduceEq, Int.reduceBEq, Int.reduceBNe, Int.reduceLT, Int.reduceLE, Int.reduceAdd, Int.reduceSub, Int.reduceNeg, Int.reduceToNat, Int.reducePow, Nat.reducePow, Int.reduceMul, Int.reduceDiv, ↓s_rows_put, hH1, f1, enterK_eq md, hld, cA, hH2, a3, a4]
  rw [if_neg h1]
  by_cases h2 : k1 = 2
  · subst h2
    rw [if_pos rfl]
    by_cases hi : 0 ≤ i1
    · rw [if_pos hi]
      obtain ⟨vd, Hd, md, sd⟩ := q_rdigits 8 i1.toNat H1 ok1 (by show _ < 18446744073709551616; omega) (by decide)
      have hl := dg_len 8 i1.toNat (by show _ < 18446744073709551616; omega)
      rw [show ((i1.toNat : Nat) : Int) = i1 by omega] at md
      have hld := sd.own.rd.lenS
      have hw : IntKind.wrap .u64 i1 = i1 := wrap_u64 ⟨by omega, by omega⟩
      obtain ⟨H2, v3, H3, v4, H4, hH2, a3, a4, s4⟩ := tail (128 + (dg i1.toNat).length) (dg i1.toNat) vd Hd sd (by omega)
      rw [Int.natCast_add] at hH2
      have hH2 : Hd.push (.cells [.int .u8 ((128 + ((dg i1.toNat).length : Int)) % 256)] T.uint8 true) = H2 := hH2
      have ad : ∀ ox oy, xbin Tryd.prog .add T.int ox oy (.int .i64 128) (.int .i64 ((dg i1.toNat).length : Int)) = some (.int .i64 (128 + ((dg i1.toNat).length : Int))) := fun ox oy => add_i64 (by omega)
      refine ⟨v4, H4, (d_rows_put _ _ H ?_).trans (congrArg some (tidy_mem (gr_since s4 (by simp)))), s4⟩
      simp (disch := first | with_reducible rfl | assumption | omega | rfl | (simp only [go_sem]; first | done | omega)) only [go_sem, ↓reduceIte, reduceCtorEq, Nat.reduceEqDiff, Nat.reduceAdd, Nat.reduceSub, Nat.reduceMul, Nat.reduceDiv, Nat.reduceMod, Nat.reduceLeDiff, Nat.reduceLT, Nat.reduceBEq, Int.reduceEq, Int.reduceBEq, Int.reduceBNe, Int.reduceLT, Int.reduceLE, Int.reduceAdd, Int.reduceSub, Int.reduceNeg, Int.reduceToNat, Int.reducePow, Nat.reducePow, Int.reduceMul, Int.reduceDiv, ↓s_rows_put, hH1, f1, hi, x_int_uint64, hw, enterK_eq md, hld, ad, cA, hH2, a3, a4]
    · rw [if_neg hi]
      obtain ⟨j, hj⟩ : ∃ j : Nat, -(i1 + 1) = j := ⟨(-(i1 + 1)).toNat, by omega⟩
      rw [hj, Int.toNat_natCast]
      obtain ⟨vd, Hd, md, sd⟩ := q_rdigits 8 j H1 ok1 (by show _ < 18446744073709551616; omega) (by decide)
      have hl := dg_len 8 j (by show _ < 18446744073709551616; omega)
      have hld := sd.own.rd.lenS
      have hw : IntKind.wrap .u64 (j : Int) = (j : Int) := wrap_u64 ⟨by omega, by omega⟩
      have ad : ∀ ox oy, xbin Tryd.prog .add T.int ox oy (.int .i64 i1) (.int .i64 1) = some (.int .i64 (i1 + 1)) := fun ox oy => add_i64 (by omega)
      have ng : xun Tryd.prog .neg (.int .i64 (i1 + 1)) = some (.int .i64 (j : Int)) := by
        have : xun Tryd.prog .neg (.int .i64 (i1 + 1)) = some (.int .i64 (IntKind.wrap .i64 (-(i1 + 1)))) := by
          simp [xun, gr, pvg, pv, Op.unary, Op.intArith, Bind.bind, Sem.bind, Pure.pure]
        rw [this, hj, wrap_i64 (by omega)]
      obtain ⟨He, se, fe, ee⟩ := l_put v vd H1 (dg j) [] Hd (by simpa using sd) (by simp; omega)
      have se : Since H1 He vd ((dg j).map inv8) := by simpa using se
      have ee : ∀ K : K, l_rows_put_0 v vd (.int .i64 ((dg j).length : Int)) (.int .i64 0) Hd (blkK [0, 7] 1 K) = K .normal [(0, v), (7, vd)] He := ee
      obtain ⟨H2, v3, H3, v4, H4, hH2, a3, a4, s4⟩ := tail (127 - (dg j).length) ((dg j).map inv8) vd He se (by simp; omega)
      rw [show ((127 - (dg j).length : Nat) : Int) = 127 - ((dg j).length : Int) by omega] at hH2
      have sb : ∀ ox oy, xbin Tryd.prog .sub T.int ox oy (.int .i64 127) (.int .i64 ((dg j).length : Int)) = some (.int .i64 (127 - ((dg j).length : Int))) := fun ox oy => sub_i64 (by omega)
      refine ⟨v4, H4, (d_rows_put _ _ H ?_).trans (congrArg some (tidy_mem (gr_since s4 (by simp)))), s4⟩
      simp (disch := first | with_reducible rfl | assumption | omega | rfl | (simp only [go_sem]; first | done | omega)) only [go_sem, ↓reduceIte, reduceCtorEq, Nat.reduceEqDiff, Nat.reduceAdd, Nat.reduceSub, Nat.reduceMul, Nat.reduceDiv, Nat.reduceMod, Nat.reduceLeDiff, Nat.reduceLT, Nat.reduceBEq, Int.reduceEq, Int.reduceBEq, Int.reduceBNe, Int.reduceLT, Int.reduceLE, Int.reduceAdd, Int.reduceSub, Int.reduceNeg, Int.reduceToNat, Int.reducePow, Nat.reducePow, Int.reduceMul, Int.reduceDiv, ↓s_rows_put, hH1, f1, hi, ad, ng, x_int_uint64, hw, enterK_eq md, hld, ee, sb, cA, hH2, a3, a4]
  rw [if_neg h2]
  by_cases h3 : k1 = 3
  · subst h3
    rw [if_pos rfl]
    have md := q_ReplaceAll s1 H1 (by omega)
    have hel := esc_len (bl s1)
    obtain ⟨v3, H3, a3, g3, _⟩ := g1.appA (esc (bl s1)) (src := srcT (.string (mk (esc (bl s1))))) (by rw [srcT_b, bl_mk]) (by omega)
    obtain ⟨H4, hH4⟩ : ∃ H4, H3.push (.cells [.int .u8 0, .int .u8 1] T.uint8 true) = H4 := ⟨_, rfl⟩
    have hH4' : H3.push (.cells (EB.cells [0, 1]) T.uint8 true) = H4 := hH4
    obtain ⟨v5, H5, a5, s5, _⟩ := g3.lit (m := [0, 1]) (by simp) hH4' (by simp; omega)
    have a5 : Eng.app T.uint8 1 1 v3 (srcS 1 (.slice (some ⟨H3.n, 0, none⟩) 2 4) H4) H4 = some (v5, H5) := a5
    rw [List.append_assoc] at s5
    refine ⟨v5, H5, (d_rows_put _ _ H ?_).trans (congrArg some (tidy_mem (gr_since s5 (by simp)))), s5⟩
    simp (disch := first | with_reducible rfl | assumption | omega | rfl | (simp only [go_sem]; first | done | omega)) only [go_sem, ↓reduceIte, reduceCtorEq, Nat.reduceEqDiff, Nat.reduceAdd, Nat.reduceSub, Nat.reduceMul, Nat.reduceDiv, Nat.reduceMod, Nat.reduceLeDiff, Nat.reduceLT, Nat.reduceBEq, Int.reduceEq, Int.reduceBEq, Int.reduceBNe, Int.reduceLT, Int.reduceLE, Int.reduceAdd, Int.reduceSub, Int.reduceNeg, Int.reduceToNat, Int.reducePow, Nat.reducePow, Int.reduceMul, Int.reduceDiv, ↓s_rows_put, hH1, f1, enterK_eq md, a3, hH4, a5]
  rw [if_neg h3]
  cases b1 with
  | true =>
    rw [if_pos rfl]
    obtain ⟨H2, hH2⟩ : ∃ H2, H1.push (.cells [.int .u8 1] T.uint8 true) = H2 := ⟨_, rfl⟩
    have hH2' : H1.push (.cells (EB.cells [1]) T.uint8 true) = H2 := hH2
    obtain ⟨v3, H3, a3, s3, _⟩ := g1.lit (m := [1]) (by simp) hH2' (by simp; omega)
    have a3 : Eng.app T.uint8 1 1 v (srcS 1 (.slice (some ⟨H1.n, 0, none⟩) 1 2) H2) H2 = some (v3, H3) := a3
    refine ⟨v3, H3, (d_rows_put _ _ H ?_).trans (congrArg some (tidy_mem (gr_since s3 (by simp)))), s3⟩
    simp (disch := first | with_reducible rfl | assumption | omega | rfl | (simp only [go_sem]; first | done | omega)) only [go_sem, ↓reduceIte, reduceCtorEq, Nat.reduceEqDiff, Nat.reduceAdd, Nat.reduceSub, Nat.reduceMul, Nat.reduceDiv, Nat.reduceMod, Nat.reduceLeDiff, Nat.reduceLT, Nat.reduceBEq, Int.reduceEq, Int.reduceBEq, Int.reduceBNe, Int.reduceLT, Int.reduceLE, Int.reduceAdd, Int.reduceSub, Int.reduceNeg, Int.reduceToNat, Int.reducePow, Nat.reducePow, Int.reduceMul, Int.reduceDiv, ↓s_rows_put, hH1, f1, h1, h2, h3, hH2, a3]
  | false =>
    rw [if_neg (by simp)]
    obtain ⟨H2, hH2⟩ : ∃ H2, H1.push (.cells [.int .u8 0] T.uint8 true) = H2 := ⟨_, rfl⟩
    have hH2' : H1.push (.cells (EB.cells [0]) T.uint8 true) = H2 := hH2
    obtain ⟨v3, H3, a3, s3, _⟩ := g1.lit (m := [0]) (by simp) hH2' (by simp; omega)
    have a3 : Eng.app T.uint8 1 1 v (srcS 1 (.slice (some ⟨H1.n, 0, none⟩) 1 2) H2) H2 = some (v3, H3) := a3
    refine ⟨v3, H3, (d_rows_put _ _ H ?_).trans (congrArg some (tidy_mem (gr_since s3 (by simp)))), s3⟩
    simp (disch := first | with_reducible rfl | assumption | omega | rfl | (simp only [go_sem]; first | done | omega)) only [go_sem, ↓reduceIte, reduceCtorEq, Nat.reduceEqDiff, Nat.reduceAdd, Nat.reduceSub, Nat.reduceMul, Nat.reduceDiv, Nat.reduceMod, Nat.reduceLeDiff, Nat.reduceLT, Nat.reduceBEq, Int.reduceEq, Int.reduceBEq, Int.reduceBNe, Int.reduceLT, Int.reduceLE, Int.reduceAdd, Int.reduceSub, Int.reduceNeg, Int.reduceToNat, Int.reducePow, Nat.reducePow, Int.reduceMul, Int.reduceDiv, ↓s_rows_put, hH1, f1, h1, h2, h3, hH2, a3]

end Go.Proofs.YtlmhioanjmhaiaaDoor

/-
  Chapter 40: puts; the law's own bytesOf and joined.
  Conditions: none. By an AI agent.
-/
set_option maxRecDepth 10000
set_option linter.unusedSimpArgs false
set_option linter.unusedVariables false
namespace Go.Proofs.YtlmhioanjmhaiaaDoor
open Go Eng

def encs : List Cl → List UInt8
  | [] => []
  | c :: l => enc c ++ encs l
theorem encs_len : ∀ {l : List Cl}, (∀ c ∈ l, CellOk c) → (encs l).length ≤ 3000 * l.length
  | [], _ => by simp [encs]
  | c :: l, h => by
    have h1 := encs_len (l := l) fun x hx => h x (by simp [hx])
    have h2 := (enc_len (h c (by simp))).1
    simp [encs]; omega

theorem l_puts (l : List Cl) (hl : l.length ≤ 100) (hok : ∀ c ∈ l, CellOk c) (w : Value) (H0 : AHeap) (ok0 : OkH H0) (hw : Rd ECl H0 w l) : ∀ (t : List Cl) (i : Nat) (H : AHeap) (v : Value) (o : List UInt8), l.drop i = t → OkH H → Grw H0 H v o → o.length ≤ 3000 * i + 1000 →
    ∃ v' H', Grw H0 H' v' (o ++ encs t) ∧ ∀ K : K, l_rows_puts_0 v w (.int .i64 (l.length : Int)) (.int .i64 (i : Int)) H (blkK [0] 0 K) = K .normal [(0, v')] H'
  | [], i, H, v, o, hx, ok, g, ho => by
    have h : l.length ≤ i := List.drop_eq_nil_iff.1 hx
    have hlt : ¬ (i : Int) < (l.length : Int) := by omega
    refine ⟨v, H, by simpa [encs] using g, fun K => ?_⟩
    rw [r_rows_puts_0]
    simp (disch := first | with_reducible rfl | assumption | omega | rfl | (simp only [go_sem]; first | done | omega)) only [go_sem, ↓reduceIte, reduceCtorEq, Nat.reduceEqDiff, Nat.reduceAdd, Nat.reduceSub, Nat.reduceMul, Nat.reduceDiv, Nat.reduceMod, Nat.reduceLeDiff, Nat.reduceLT, Nat.reduceBEq, Int.reduceEq, Int.reduceBEq, Int.reduceBNe, Int.reduceLT, Int.reduceLE, Int.reduceAdd, Int.reduceSub, Int.reduceNeg, Int.reduceToNat, Int.reducePow, Nat.reducePow, Int.reduceMul, Int.reduceDiv, ↓s_rows_puts_b0, hlt]
  | c :: t, i, H, v, o, hx, ok, g, ho => by
    obtain ⟨h, hxa, hx'⟩ := drop_cons hx
    have hlt : (i : Int) < (l.length : Int) := by omega
    have hcok := hok c (by rw [← hxa]; exact List.getElem_mem h)
    obtain ⟨b1, o1, i1, c1, _⟩ := rd_cell (hw.still g.still) h
    rw [hxa] at c1
    obtain ⟨H1, hH1⟩ : ∃ H1, (H.push (.cells [.int .i64 0, .int .u64 0, .int .i64 0, .string (mk []), .bool false] T.api_Cell true)).set H.n (.cells c.l T.api_Cell true) = H1 := ⟨_, rfl⟩
    have s1 : Still H H1 := by rw [← hH1]; exact Fr.set ((Fr.refl H).push _) _ _ (fun h => by omega)
    have f1 : H1.f H.n = .cells c.l T.api_Cell true := by rw [← hH1]; exact set_f_eq
    obtain ⟨v2, H2, m2, s2⟩ := q_put c hcok v o H0 H1 (s1.ok ok) (g.to s1) (by omega)
    have hel := (enc_len hcok).1
    obtain ⟨v3, H3, g3, e3⟩ := l_puts l hl hok w H0 ok0 hw t (i + 1) H2 v2 (o ++ enc c) hx' (s2.still.ok ok0) s2.grw (by simp; omega)
    rw [Int.natCast_add] at e3
    unfold Cl.l at hH1 f1 c1 m2
    refine ⟨v3, H3, by simpa [encs] using g3, fun K => ?_⟩
    have := e3 K
    rw [r_rows_puts_0]
    simp (disch := first | with_reducible rfl | assumption | omega | rfl | (simp only [go_sem]; first | done | omega)) only [go_sem, ↓reduceIte, reduceCtorEq, Nat.reduceEqDiff, Nat.reduceAdd, Nat.reduceSub, Nat.reduceMul, Nat.reduceDiv, Nat.reduceMod, Nat.reduceLeDiff, Nat.reduceLT, Nat.reduceBEq, Int.reduceEq, Int.reduceBEq, Int.reduceBNe, Int.reduceLT, Int.reduceLE, Int.reduceAdd, Int.reduceSub, Int.reduceNeg, Int.reduceToNat, Int.reducePow, Nat.reducePow, Int.reduceMul, Int.reduceDiv, ↓s_rows_puts_b0, hlt, i1, c1, hH1, f1, enterK_eq m2]
    exact this

theorem q_puts (l : List Cl) (hl : l.length ≤ 100) (hok : ∀ c ∈ l, CellOk c) (w v : Value) (o : List UInt8) (H0 H : AHeap) (ok0 : OkH H0) (hw : Rd ECl H0 w l) (g : Grw H0 H v o) (ho : o.length ≤ 1000) :
    ∃ H', CC F.rows_puts [v, w] H = some (.string (mk (o ++ encs l)), H') ∧ Still H0 H' := by
  have hlen := hw.lenS
  obtain ⟨v1, H1, g1, e1⟩ := l_puts l hl hok w H0 ok0 hw l 0 H v o rfl (g.still.ok ok0) g (by omega)
  have e1 : ∀ K : K, l_rows_puts_0 v w (.int .i64 (l.length : Int)) (.int .i64 0) H (blkK [0] 0 K) = K .normal [(0, v1)] H1 := e1
  have st := BR.str g1.rd
  have key : s_rows_puts guardK condL shareL Tryd.prog CC l_rows_puts_0 v w H (endK Tryd.prog [.tmp 4]) = some (.string (mk (o ++ encs l)), H1) := by
    simp (disch := first | with_reducible rfl | assumption | omega | rfl | (simp only [go_sem]; first | done | omega)) only [go_sem, ↓reduceIte, reduceCtorEq, Nat.reduceEqDiff, Nat.reduceAdd, Nat.reduceSub, Nat.reduceMul, Nat.reduceDiv, Nat.reduceMod, Nat.reduceLeDiff, Nat.reduceLT, Nat.reduceBEq, Int.reduceEq, Int.reduceBEq, Int.reduceBNe, Int.reduceLT, Int.reduceLE, Int.reduceAdd, Int.reduceSub, Int.reduceNeg, Int.reduceToNat, Int.reducePow, Nat.reducePow, Int.reduceMul, Int.reduceDiv, ↓s_rows_puts, hlen, e1, st]
    try rfl
  have hd := d_rows_puts v w H key
  unfold tidy at hd
  split at hd
  · exact ⟨H, hd, g.still⟩
  · exact ⟨H1, hd, g1.still⟩

/-! ### bytesOf -/
theorem xix {s : ByteArray} {i : Nat} (h : i < (bl s).length) : xindex Tryd.prog T.string (.string s) (.int .i64 (i : Int)) = some (.int .u8 ((bl s)[i].toNat : Int)) := by
  have e : xindex Tryd.prog T.string (.string s) (.int .i64 (i : Int)) = (if (0 : Int) ≤ (i : Int) then ((bl s)[(i : Int).toNat]?).map byteCell else none) := by
    have hu : Tryd.prog.underlying T.string = some .string := Tryd.underlying9
    unfold xindex; rw [hu]
  rw [e, if_pos (by omega), Int.toNat_natCast, List.getElem?_eq_getElem h]
  rfl

theorem l_bytes0 (s : List UInt8) (H0 : AHeap) : ∀ (t : List UInt8) (i : Nat) (H : AHeap) (v : Value) (o : List UInt8), s.drop i = t → s.length ≤ 1000 → o.length ≤ i + 1000 → Grw H0 H v o →
    ∃ v' H', Grw H0 H' v' (o ++ t.map inv8) ∧ ∀ K : K, l_law_bytesOf_0 (.string (mk s)) v (.int .i64 (i : Int)) H (blkK [6] 1 K) = K .normal [(6, v')] H'
  | [], i, H, v, o, hx, hl, ho, g => by
    have h : s.length ≤ i := List.drop_eq_nil_iff.1 hx
    have hlt : ¬ (i : Int) < (s.length : Int) := by omega
    refine ⟨v, H, by simpa using g, fun K => ?_⟩
    rw [r_law_bytesOf_0]
    simp (disch := first | with_reducible rfl | assumption | omega | rfl | (simp only [go_sem]; first | done | omega)) only [go_sem, ↓reduceIte, reduceCtorEq, Nat.reduceEqDiff, Nat.reduceAdd, Nat.reduceSub, Nat.reduceMul, Nat.reduceDiv, Nat.reduceMod, Nat.reduceLeDiff, Nat.reduceLT, Nat.reduceBEq, Int.reduceEq, Int.reduceBEq, Int.reduceBNe, Int.reduceLT, Int.reduceLE, Int.reduceAdd, Int.reduceSub, Int.reduceNeg, Int.reduceToNat, Int.reducePow, Nat.reducePow, Int.reduceMul, Int.reduceDiv, ↓s_law_bytesOf_b0, bl_mk, hlt]
  | c :: t, i, H, v, o, hx, hl, ho, g => by
    obtain ⟨h, hxa, hx'⟩ := drop_cons hx
    have hlt : (i : Int) < (s.length : Int) := by omega
    have e1 := xix (s := mk s) (i := i) (by rw [bl_mk]; exact h)
    have e2 : (bl (mk s))[i]'(by rw [bl_mk]; exact h) = c := by simp [hxa]
    rw [e2] at e1
    have sub1 : ∀ ox oy, xbin Tryd.prog .sub T.uint8 ox oy (.int .u8 255) (.int .u8 (c.toNat : Int)) = some (.int .u8 ((inv8 c).toNat : Int)) := fun ox oy => by rw [xbin_sub, wrapU8, inv8_nat]
    obtain ⟨H1, hH1⟩ : ∃ H1, H.push (.cells [.int .u8 ((inv8 c).toNat : Int)] T.uint8 true) = H1 := ⟨_, rfl⟩
    have hH1' : H.push (.cells (EB.cells [inv8 c]) T.uint8 true) = H1 := hH1
    obtain ⟨v2, H2, a2, s2, _⟩ := g.lit (m := [inv8 c]) (by simp) hH1' (by simp; omega)
    have a2 : Eng.app T.uint8 1 1 v (srcS 1 (.slice (some ⟨H.n, 0, none⟩) 1 2) H1) H1 = some (v2, H2) := a2
    obtain ⟨v3, H3, g3, e3⟩ := l_bytes0 s H0 t (i + 1) H2 v2 (o ++ [inv8 c]) hx' hl (by simp; omega) s2.grw
    rw [Int.natCast_add] at e3
    refine ⟨v3, H3, by simpa using g3, fun K => ?_⟩
    have := e3 K
    rw [r_law_bytesOf_0]
    simp (disch := first | with_reducible rfl | assumption | omega | rfl | (simp only [go_sem]; first | done | omega)) only [go_sem, ↓reduceIte, reduceCtorEq, Nat.reduceEqDiff, Nat.reduceAdd, Nat.reduceSub, Nat.reduceMul, Nat.reduceDiv, Nat.reduceMod, Nat.reduceLeDiff, Nat.reduceLT, Nat.reduceBEq, Int.reduceEq, Int.reduceBEq, Int.reduceBNe, Int.reduceLT, Int.reduceLE, Int.reduceAdd, Int.reduceSub, Int.reduceNeg, Int.reduceToNat, Int.reducePow, Nat.reducePow, Int.reduceMul, Int.reduceDiv, ↓s_law_bytesOf_b0, bl_mk, hlt, e1, sub1, hH1, a2]
    exact this

theorem l_bytes1 (s : ByteArray) (bc : Nat) (xs : List Value) (H0 : AHeap) (hb : bc < H0.n) (hf : H0.f bc = .cells xs T.api_Cell true) (hx3 : xs[3]? = some (.string s)) : ∀ (t : List UInt8) (i : Nat) (H : AHeap) (v : Value) (o : List UInt8), (bl s).drop i = t → (bl s).length ≤ 1000 → o.length ≤ 2 * i → Since H0 H v o →
    ∃ v' H', Since H0 H' v' (o ++ esc t) ∧ ∀ K : K, l_law_bytesOf_1 (.pointer (some ⟨bc, 0, none⟩)) v (.int .i64 (i : Int)) H (blkK [8] 3 K) = K .normal [(8, v')] H'
  | [], i, H, v, o, hx, hl, ho, g => by
    have h : (bl s).length ≤ i := List.drop_eq_nil_iff.1 hx
    have hlt : ¬ (i : Int) < ((bl s).length : Int) := by omega
    have c3 : cellB (H.f bc) 3 = some (.string s) := by rw [g.still.f hb fun h => h, hf]; exact hx3
    refine ⟨v, H, by simpa [esc] using g, fun K => ?_⟩
    rw [r_law_bytesOf_1]
    simp (disch := first | with_reducible rfl | assumption | omega | rfl | (simp only [go_sem]; first | done | omega)) only [go_sem, ↓reduceIte, reduceCtorEq, Nat.reduceEqDiff, Nat.reduceAdd, Nat.reduceSub, Nat.reduceMul, Nat.reduceDiv, Nat.reduceMod, Nat.reduceLeDiff, Nat.reduceLT, Nat.reduceBEq, Int.reduceEq, Int.reduceBEq, Int.reduceBNe, Int.reduceLT, Int.reduceLE, Int.reduceAdd, Int.reduceSub, Int.reduceNeg, Int.reduceToNat, Int.reducePow, Nat.reducePow, Int.reduceMul, Int.reduceDiv, ↓s_law_bytesOf_b1, c3, hlt]
  | c :: t, i, H, v, o, hx, hl, ho, g => by
    obtain ⟨h, hxa, hx'⟩ := drop_cons hx
    have hlt : (i : Int) < ((bl s).length : Int) := by omega
    have c3 : cellB (H.f bc) 3 = some (.string s) := by rw [g.still.f hb fun h => h, hf]; exact hx3
    have e1 := xix h
    rw [hxa] at e1
    obtain ⟨H1, hH1⟩ : ∃ H1, H.push (.cells [.int .u8 (c.toNat : Int)] T.uint8 true) = H1 := ⟨_, rfl⟩
    have hH1' : H.push (.cells (EB.cells [c]) T.uint8 true) = H1 := hH1
    obtain ⟨v2, H2, a2, s2⟩ := g.lit [c] hH1' (by simp; omega)
    have a2 : Eng.app T.uint8 1 1 v (srcS 1 (.slice (some ⟨H.n, 0, none⟩) 1 2) H1) H1 = some (v2, H2) := a2
    have d3 : cellB (H2.f bc) 3 = some (.string s) := by rw [s2.still.f hb fun h => h, hf]; exact hx3
    by_cases hc : c = 0
    · have hc' : ((c.toNat : Int) = 0) = True := by simp [hc]
      obtain ⟨H3, hH3⟩ : ∃ H3, H2.push (.cells [.int .u8 255] T.uint8 true) = H3 := ⟨_, rfl⟩
      have hH3' : H2.push (.cells (EB.cells [255]) T.uint8 true) = H3 := hH3
      obtain ⟨v4, H4, a4, s4⟩ := s2.lit [255] hH3' (by simp; omega)
      have a4 : Eng.app T.uint8 1 1 v2 (srcS 1 (.slice (some ⟨H2.n, 0, none⟩) 1 2) H3) H3 = some (v4, H4) := a4
      obtain ⟨v5, H5, g5, e5⟩ := l_bytes1 s bc xs H0 hb hf hx3 t (i + 1) H4 v4 (o ++ [c] ++ [255]) hx' hl (by simp; omega) s4
      rw [Int.natCast_add] at e5
      refine ⟨v5, H5, by simpa [esc, hc] using g5, fun K => ?_⟩
      have := e5 K
      rw [r_law_bytesOf_1]
      simp (disch := first | with_reducible rfl | assumption | omega | rfl | (simp only [go_sem]; first | done | omega)) only [go_sem, ↓reduceIte, reduceCtorEq, Nat.reduceEqDiff, Nat.reduceAdd, Nat.reduceSub, Nat.reduceMul, Nat.reduceDiv, Nat.reduceMod, Nat.reduceLeDiff, Nat.reduceLT, Nat.reduceBEq, Int.reduceEq, Int.reduceBEq, Int.reduceBNe, Int.reduceLT, Int.reduceLE, Int.reduceAdd, Int.reduceSub, Int.reduceNeg, Int.reduceToNat, Int.reducePow, Nat.reducePow, Int.reduceMul, Int.reduceDiv, ↓s_law_bytesOf_b1, c3, hlt, e1, hH1, a2, d3, hc', hH3, a4]
      exact this
    · have hc' : ¬ ((c.toNat : Int) = 0) := fun e => hc (UInt8.toNat_inj.1 (by simpa using e))
      obtain ⟨v5, H5, g5, e5⟩ := l_bytes1 s bc xs H0 hb hf hx3 t (i + 1) H2 v2 (o ++ [c]) hx' hl (by simp; omega) s2
      rw [Int.natCast_add] at e5
      refine ⟨v5, H5, by simpa [esc, hc] using g5, fun K => ?_⟩
      have := e5 K
      rw [r_law_bytesOf_1]
      simp (disch := first | with_reducible rfl | assumption | omega | rfl | (simp only [go_sem]; first | done | omega)) only [go_sem, ↓reduceIte, reduceCtorEq, Nat.reduceEqDiff, Nat.reduceAdd, Nat.reduceSub, Nat.reduceMul, Nat.reduceDiv, Nat.reduceMod, Nat.reduceLeDiff, Nat.reduceLT, Nat.reduceBEq, Int.reduceEq, Int.reduceBEq, Int.reduceBNe, Int.reduceLT, Int.reduceLE, Int.reduceAdd, Int.reduceSub, Int.reduceNeg, Int.reduceToNat, Int.reducePow, Nat.reducePow, Int.reduceMul, Int.reduceDiv, ↓s_law_bytesOf_b1, c3, hlt, e1, hH1, a2, d3, hc']
      exact this

theorem q_bytesOf (c : Cl) (hc : CellOk c) (H : AHeap) : CC F.law_bytesOf [.agg ⟨c.l⟩] H = some (.string (mk (enc c)), H) := by
  obtain ⟨k1, u1, i1, s1, b1⟩ := c
  obtain ⟨H1, hH1⟩ : ∃ H1, H.push (.cells [.int .i64 k1, .int .u64 u1, .int .i64 i1, .string s1, .bool b1] T.api_Cell true) = H1 := ⟨_, rfl⟩
  have st : Still H H1 := by rw [← hH1]; exact (Fr.refl H).push _
  have n1 : H1.n = H.n + 1 := by rw [← hH1]; rfl
  have f1 : H1.f H.n = .cells [.int .i64 k1, .int .u64 u1, .int .i64 i1, .string s1, .bool b1] T.api_Cell true := by rw [← hH1]; exact push_f_eq rfl
  obtain ⟨⟨hu0, hu1⟩, ⟨hi0, hi1⟩, hs⟩ := hc
  dsimp only at hu0 hu1 hi0 hi1 hs
  have cA : ∀ (m : Int) H, xconv Tryd.prog T.int T.uint8 (.int .i64 m) H = some (.int .u8 (m % 256), H) := fun m H => by rw [x_int_uint8, wrapU8]
  show CC F.law_bytesOf [.agg ⟨[.int .i64 k1, .int .u64 u1, .int .i64 i1, .string s1, .bool b1]⟩] H = _
  unfold enc
  dsimp only
  by_cases h1 : k1 = 1
  · subst h1
    rw [if_pos rfl]
    have hl := dg_len 8 u1.toNat (by show _ < 18446744073709551616; omega)
    have md := q_ldigits 8 u1.toNat H1 (by show _ < 18446744073709551616; omega) (by decide)
    rw [show ((u1.toNat : Nat) : Int) = u1 by omega] at md
    obtain ⟨H2, hH2⟩ : ∃ H2, H1.push (.cells [.int .u8 (((dg u1.toNat).length : Int) % 256)] T.uint8 true) = H2 := ⟨_, rfl⟩
    obtain ⟨s2, sx⟩ := one_str (dg u1.toNat).length hH2
    have ad : ∀ ox oy, xbin Tryd.prog .add T.string ox oy (.string (mk [by8 (dg u1.toNat).length])) (.string (mk (dg u1.toNat))) = some (.string (mk (by8 (dg u1.toNat).length :: dg u1.toNat))) := fun ox oy => str_add' (by simp; omega)
    apply pure_of _ (d_law_bytesOf _ H) rfl
    rotate_left 2
    · simp (disch := first | with_reducible rfl | assumption | omega | rfl | (simp only [go_sem]; first | done | omega)) only [go_sem, ↓reduceIte, reduceCtorEq, Nat.reduceEqDiff, Nat.reduceAdd, Nat.reduceSub, Nat.reduceMul, Nat.reduceDiv, Nat.reduceMod, Nat.reduceLeDiff, Nat.reduceLT, Nat.reduceBEq, Int.reduceEq, Int.reduceBEq, Int.reduceBNe, Int.reduceLT, Int.reduceLE, Int.reduceAdd, Int.reduceSub, Int.reduceNeg, Int.reduceToNat, Int.reducePow, Nat.reducePow, Int.reduceMul, Int.reduceDiv, ↓s_law_bytesOf, hH1, f1, enterK_eq md, bl_mk, cA, hH2, sx, ad]
      rfl
    · exact st.trans s2
  rw [if_neg h1]
  by_cases h2 : k1 = 2
  · subst h2
    rw [if_pos rfl]
    by_cases hi : 0 ≤ i1
    · rw [if_pos hi]
      have hl := dg_len 8 i1.toNat (by show _ < 18446744073709551616; omega)
      have md := q_ldigits 8 i1.toNat H1 (by show _ < 18446744073709551616; omega) (by decide)
      rw [show ((i1.toNat : Nat) : Int) = i1 by omega] at md
      have hw : IntKind.wrap .u64 i1 = i1 := wrap_u64 ⟨by omega, by omega⟩
      obtain ⟨H2, hH2⟩ : ∃ H2, H1.push (.cells [.int .u8 (((128 + (dg i1.toNat).length : Nat) : Int) % 256)] T.uint8 true) = H2 := ⟨_, rfl⟩
      obtain ⟨s2, sx⟩ := one_str (128 + (dg i1.toNat).length) hH2
      have ai : ∀ ox oy, xbin Tryd.prog .add T.int ox oy (.int .i64 128) (.int .i64 ((dg i1.toNat).length : Int)) = some (.int .i64 ((128 + (dg i1.toNat).length : Nat) : Int)) := fun ox oy => add_i64 (by omega)
      have ad : ∀ ox oy, xbin Tryd.prog .add T.string ox oy (.string (mk [by8 (128 + (dg i1.toNat).length)])) (.string (mk (dg i1.toNat))) = some (.string (mk (by8 (128 + (dg i1.toNat).length) :: dg i1.toNat))) := fun ox oy => str_add' (by simp; omega)
      generalize by8 (128 + (dg i1.toNat).length) = e8 at sx ad ⊢
      generalize ((128 + (dg i1.toNat).length : Nat) : Int) = L8 at hH2 ai
      apply pure_of _ (d_law_bytesOf _ H) rfl
      rotate_left 2
      · simp (disch := first | with_reducible rfl | assumption | omega | rfl | (simp only [go_sem]; first | done | omega)) only [go_sem, ↓reduceIte, reduceCtorEq, Nat.reduceEqDiff, Nat.reduceAdd, Nat.reduceSub, Nat.reduceMul, Nat.reduceDiv, Nat.reduceMod, Nat.reduceLeDiff, Nat.reduceLT, Nat.reduceBEq, Int.reduceEq, Int.reduceBEq, Int.reduceBNe, Int.reduceLT, Int.reduceLE, Int.reduceAdd, Int.reduceSub, Int.reduceNeg, Int.reduceToNat, Int.reducePow, Nat.reducePow, Int.reduceMul, Int.reduceDiv, ↓s_law_bytesOf, hH1, f1, hi, x_int_uint64, hw, enterK_eq md, bl_mk, ai, cA, hH2, sx, ad]
        rfl
      · exact st.trans s2
    · rw [if_neg hi]
      obtain ⟨j, hj⟩ : ∃ j : Nat, -(i1 + 1) = j := ⟨(-(i1 + 1)).toNat, by omega⟩
      rw [hj, Int.toNat_natCast]
      have hl := dg_len 8 j (by show _ < 18446744073709551616; omega)
      have md := q_ldigits 8 j H1 (by show _ < 18446744073709551616; omega) (by decide)
      have hw : IntKind.wrap .u64 (j : Int) = (j : Int) := wrap_u64 ⟨by omega, by omega⟩
      have ad : ∀ ox oy, xbin Tryd.prog .add T.int ox oy (.int .i64 i1) (.int .i64 1) = some (.int .i64 (i1 + 1)) := fun ox oy => add_i64 (by omega)
      have ng : xun Tryd.prog .neg (.int .i64 (i1 + 1)) = some (.int .i64 (j : Int)) := by
        have : xun Tryd.prog .neg (.int .i64 (i1 + 1)) = some (.int .i64 (IntKind.wrap .i64 (-(i1 + 1)))) := by
          simp [xun, gr, pvg, pv, Op.unary, Op.intArith, Bind.bind, Sem.bind, Pure.pure]
        rw [this, hj, wrap_i64 (by omega)]
      obtain ⟨H2, hH2⟩ : ∃ H2, H1.push (.cells [.int .u8 (((127 - (dg j).length : Nat) : Int) % 256)] T.uint8 true) = H2 := ⟨_, rfl⟩
      have sb : ∀ ox oy, xbin Tryd.prog .sub T.int ox oy (.int .i64 127) (.int .i64 ((dg j).length : Int)) = some (.int .i64 ((127 - (dg j).length : Nat) : Int)) := fun ox oy => by
        rw [show ((127 - (dg j).length : Nat) : Int) = 127 - ((dg j).length : Int) by omega]; exact sub_i64 (by omega)
      have sB : Still H1 H2 := by rw [← hH2]; exact (Fr.refl H1).push _
      have f2 : H2.f H1.n = .cells (EB.cells [by8 (127 - (dg j).length)]) T.uint8 true := by rw [cells_one, ← hH2]; exact push_f_eq rfl
      have g2 : Grw H1 H2 (.slice (some ⟨H1.n, 0, none⟩) 1 2) [by8 (127 - (dg j).length)] := ⟨sB, newB (l := [by8 (127 - (dg j).length)]) (by rw [← hH2]; exact Nat.lt_succ_self _) f2, fun b h => by cases h; exact Nat.le_refl _, .inr (.inr ⟨H1.n, 0, 1, rfl⟩)⟩
      obtain ⟨v3, H3, g3, e3⟩ := l_bytes0 (dg j) H1 (dg j) 0 H2 (.slice (some ⟨H1.n, 0, none⟩) 1 2) _ rfl (by omega) (by simp) g2
      have e3 : ∀ K : K, l_law_bytesOf_0 (.string (mk (dg j))) (.slice (some ⟨H1.n, 0, none⟩) 1 2) (.int .i64 0) H2 (blkK [6] 1 K) = K .normal [(6, v3)] H3 := e3
      have sx := BR.str g3.rd
      generalize ((127 - (dg j).length : Nat) : Int) = L8 at hH2 sb
      apply pure_of _ (d_law_bytesOf _ H) rfl
      rotate_left 2
      · simp (disch := first | with_reducible rfl | assumption | omega | rfl | (simp only [go_sem]; first | done | omega)) only [go_sem, ↓reduceIte, reduceCtorEq, Nat.reduceEqDiff, Nat.reduceAdd, Nat.reduceSub, Nat.reduceMul, Nat.reduceDiv, Nat.reduceMod, Nat.reduceLeDiff, Nat.reduceLT, Nat.reduceBEq, Int.reduceEq, Int.reduceBEq, Int.reduceBNe, Int.reduceLT, Int.reduceLE, Int.reduceAdd, Int.reduceSub, Int.reduceNeg, Int.reduceToNat, Int.reducePow, Nat.reducePow, Int.reduceMul, Int.reduceDiv, ↓s_law_bytesOf, hH1, f1, hi, ad, ng, x_int_uint64, hw, enterK_eq md, bl_mk, sb, cA, hH2, e3, sx]
        rfl
      · exact st.trans g3.still
  rw [if_neg h2]
  by_cases h3 : k1 = 3
  · subst h3
    rw [if_pos rfl]
    obtain ⟨v3, H3, s3, e3⟩ := l_bytes1 s1 H.n _ H1 (by omega) f1 rfl (bl s1) 0 H1 (.slice none 0 0) [] rfl hs (by simp) Since.nil
    have e3 : ∀ K : K, l_law_bytesOf_1 (.pointer (some ⟨H.n, 0, none⟩)) (.slice none 0 0) (.int .i64 0) H1 (blkK [8] 3 K) = K .normal [(8, v3)] H3 := e3
    have hel := esc_len (bl s1)
    obtain ⟨H4, hH4⟩ : ∃ H4, H3.push (.cells [.int .u8 0, .int .u8 1] T.uint8 true) = H4 := ⟨_, rfl⟩
    have hH4' : H3.push (.cells (EB.cells [0, 1]) T.uint8 true) = H4 := hH4
    obtain ⟨v5, H5, a5, s5⟩ := s3.lit [0, 1] hH4' (by simp; omega)
    have a5 : Eng.app T.uint8 1 1 v3 (srcS 1 (.slice (some ⟨H3.n, 0, none⟩) 2 4) H4) H4 = some (v5, H5) := a5
    rw [List.nil_append] at s5
    have sx := BR.str s5.own.sl
    apply pure_of _ (d_law_bytesOf _ H) rfl
    rotate_left 2
    · simp (disch := first | with_reducible rfl | assumption | omega | rfl | (simp only [go_sem]; first | done | omega)) only [go_sem, ↓reduceIte, reduceCtorEq, Nat.reduceEqDiff, Nat.reduceAdd, Nat.reduceSub, Nat.reduceMul, Nat.reduceDiv, Nat.reduceMod, Nat.reduceLeDiff, Nat.reduceLT, Nat.reduceBEq, Int.reduceEq, Int.reduceBEq, Int.reduceBNe, Int.reduceLT, Int.reduceLE, Int.reduceAdd, Int.reduceSub, Int.reduceNeg, Int.reduceToNat, Int.reducePow, Nat.reducePow, Int.reduceMul, Int.reduceDiv, ↓s_law_bytesOf, hH1, f1, e3, hH4, a5, sx]
      rfl
    · exact st.trans s5.still
  rw [if_neg h3]
  cases b1 with
  | true =>
    rw [if_pos rfl]
    apply pure_of _ (d_law_bytesOf _ H) rfl
    rotate_left 2
    · simp (disch := first | with_reducible rfl | assumption | omega | rfl | (simp only [go_sem]; first | done | omega)) only [go_sem, ↓reduceIte, reduceCtorEq, Nat.reduceEqDiff, Nat.reduceAdd, Nat.reduceSub, Nat.reduceMul, Nat.reduceDiv, Nat.reduceMod, Nat.reduceLeDiff, Nat.reduceLT, Nat.reduceBEq, Int.reduceEq, Int.reduceBEq, Int.reduceBNe, Int.reduceLT, Int.reduceLE, Int.reduceAdd, Int.reduceSub, Int.reduceNeg, Int.reduceToNat, Int.reducePow, Nat.reducePow, Int.reduceMul, Int.reduceDiv, ↓s_law_bytesOf, hH1, f1, h1, h2, h3]
      rfl
    · exact st
  | false =>
    rw [if_neg (by simp)]
    apply pure_of _ (d_law_bytesOf _ H) rfl
    rotate_left 2
    · simp (disch := first | with_reducible rfl | assumption | omega | rfl | (simp only [go_sem]; first | done | omega)) only [go_sem, ↓reduceIte, reduceCtorEq, Nat.reduceEqDiff, Nat.reduceAdd, Nat.reduceSub, Nat.reduceMul, Nat.reduceDiv, Nat.reduceMod, Nat.reduceLeDiff, Nat.reduceLT, Nat.reduceBEq, Int.reduceEq, Int.reduceBEq, Int.reduceBNe, Int.reduceLT, Int.reduceLE, Int.reduceAdd, Int.reduceSub, Int.reduceNeg, Int.reduceToNat, Int.reducePow, Nat.reducePow, Int.reduceMul, Int.reduceDiv, ↓s_law_bytesOf, hH1, f1, h1, h2, h3]
      rfl
    · exact st

theorem l_joined (l : List Cl) (hl : l.length ≤ 100) (hok : ∀ c ∈ l, CellOk c) (w : Value) (H : AHeap) (hw : Rd ECl H w l) : ∀ (t : List Cl) (i : Nat) (o : List UInt8), l.drop i = t → o.length ≤ 3000 * i + 1000 →
    ∀ K : K, l_law_joined_0 (.string (mk o)) w (.int .i64 (i : Int)) H (blkK [0] 0 K) = K .normal [(0, .string (mk (o ++ encs t)))] H
  | [], i, o, hx, ho, K => by
    have h : l.length ≤ i := List.drop_eq_nil_iff.1 hx
    have hlt : ¬ (i : Int) < (l.length : Int) := by omega
    have hlen := hw.lenS
    rw [r_law_joined_0, encs, List.append_nil]
    simp (disch := first | with_reducible rfl | assumption | omega | rfl | (simp only [go_sem]; first | done | omega)) only [go_sem, ↓reduceIte, reduceCtorEq, Nat.reduceEqDiff, Nat.reduceAdd, Nat.reduceSub, Nat.reduceMul, Nat.reduceDiv, Nat.reduceMod, Nat.reduceLeDiff, Nat.reduceLT, Nat.reduceBEq, Int.reduceEq, Int.reduceBEq, Int.reduceBNe, Int.reduceLT, Int.reduceLE, Int.reduceAdd, Int.reduceSub, Int.reduceNeg, Int.reduceToNat, Int.reducePow, Nat.reducePow, Int.reduceMul, Int.reduceDiv, ↓s_law_joined_b0, hlen, hlt]
  | c :: t, i, o, hx, ho, K => by
    obtain ⟨h, hxa, hx'⟩ := drop_cons hx
    have hlt : (i : Int) < (l.length : Int) := by omega
    have hlen := hw.lenS
    have hcok := hok c (by rw [← hxa]; exact List.getElem_mem h)
    obtain ⟨b1, o1, i1, c1, _⟩ := rd_cell hw h
    rw [hxa] at c1
    have m1 := q_bytesOf c hcok H
    have hel := (enc_len hcok).1
    have ad : ∀ ox oy, xbin Tryd.prog .add T.string ox oy (.string (mk o)) (.string (mk (enc c))) = some (.string (mk (o ++ enc c))) := fun ox oy => str_add' (by omega)
    have ih := l_joined l hl hok w H hw t (i + 1) (o ++ enc c) hx' (by simp; omega) K
    rw [Int.natCast_add] at ih
    unfold Cl.l at c1 m1
    rw [r_law_joined_0, encs, ← List.append_assoc]
    simp (disch := first | with_reducible rfl | assumption | omega | rfl | (simp only [go_sem]; first | done | omega)) only [go_sem, ↓reduceIte, reduceCtorEq, Nat.reduceEqDiff, Nat.reduceAdd, Nat.reduceSub, Nat.reduceMul, Nat.reduceDiv, Nat.reduceMod, Nat.reduceLeDiff, Nat.reduceLT, Nat.reduceBEq, Int.reduceEq, Int.reduceBEq, Int.reduceBNe, Int.reduceLT, Int.reduceLE, Int.reduceAdd, Int.reduceSub, Int.reduceNeg, Int.reduceToNat, Int.reducePow, Nat.reducePow, Int.reduceMul, Int.reduceDiv, ↓s_law_joined_b0, hlen, hlt, i1, c1, enterK_eq m1, ad]
    exact ih
theorem q_joined (l : List Cl) (hl : l.length ≤ 100) (hok : ∀ c ∈ l, CellOk c) (w : Value) (o : List UInt8) (H : AHeap) (hw : Rd ECl H w l) (ho : o.length ≤ 1000) : CC F.law_joined [.string (mk o), w] H = some (.string (mk (o ++ encs l)), H) := by
  have e1 : ∀ K : K, l_law_joined_0 (.string (mk o)) w (.int .i64 0) H (blkK [0] 0 K) = K .normal [(0, .string (mk (o ++ encs l)))] H := l_joined l hl hok w H hw l 0 o rfl (by omega)
  apply pure_of _ (d_law_joined _ _ H) rfl
  rotate_left 2
  · simp (disch := first | with_reducible rfl | assumption | omega | rfl | (simp only [go_sem]; first | done | omega)) only [go_sem, ↓reduceIte, reduceCtorEq, Nat.reduceEqDiff, Nat.reduceAdd, Nat.reduceSub, Nat.reduceMul, Nat.reduceDiv, Nat.reduceMod, Nat.reduceLeDiff, Nat.reduceLT, Nat.reduceBEq, Int.reduceEq, Int.reduceBEq, Int.reduceBNe, Int.reduceLT, Int.reduceLE, Int.reduceAdd, Int.reduceSub, Int.reduceNeg, Int.reduceToNat, Int.reducePow, Nat.reducePow, Int.reduceMul, Int.reduceDiv, ↓s_law_joined, e1]
    rfl
  · (repeat (first | exact Fr.refl _ | refine Fr.push ?_ _ | refine Fr.set ?_ _ _ (by intro h; first | omega | (simp only [go_sem] at h; omega))))

end Go.Proofs.YtlmhioanjmhaiaaDoor

/-
  Chapter 40: Span and behind.
  Conditions: none. By an AI agent.
-/
set_option maxRecDepth 10000
set_option linter.unusedSimpArgs false
set_option linter.unusedVariables false
namespace Go.Proofs.YtlmhioanjmhaiaaDoor
open Go Eng

def trimN (l : List UInt8) : Nat → Nat
  | 0 => 0
  | n + 1 => if l[n]? = some 255 then trimN l n else n + 1
def bumpB (l : List UInt8) (t : Nat) : List UInt8 := match t with
  | 0 => []
  | n + 1 => l.take n ++ [by8 ((l.getD n 0).toNat + 1)]
def bump (l : List UInt8) : List UInt8 := bumpB l (trimN l l.length)
theorem trimN_le (l : List UInt8) : ∀ n, trimN l n ≤ n
  | 0 => Nat.le_refl _
  | n + 1 => by
    unfold trimN
    split
    · exact Nat.le_succ_of_le (trimN_le l n)
    · exact Nat.le_refl _
theorem trimN_last (l : List UInt8) : ∀ n k, trimN l n = k + 1 → l[k]? ≠ some 255
  | 0, k, h => by cases h
  | n + 1, k, h => by
    unfold trimN at h
    split at h
    · exact trimN_last l n k h
    · rename_i h2
      have : n = k := by omega
      subst this; exact h2
theorem ff_lt {c : UInt8} (h : c ≠ 255) : (c.toNat : Int) < 255 := by
  have h1 := Eng.u8_lt c
  have h2 : c.toNat ≠ 255 := fun e => h (UInt8.toNat_inj.1 (by rw [e]; rfl))
  omega

theorem slT_hi {s : ByteArray} {q : IntKind} {j : Nat} (h : j ≤ (bl s).length) : slT (.string s) none (some (.int q (j : Int))) = some (.string (mk ((bl s).take j))) := by
  show ((highOf (bl s).length (bl s).length (some (.int q (j : Int)))).bind fun h => (lowOf h none).map fun l => Value.string (mk (((bl s).take h).drop l))) = _
  rw [high_nat h]
  rfl

theorem l_behind (l : List UInt8) (hl : l.length ≤ 100000) (H : AHeap) : ∀ n, n ≤ l.length →
    (trimN l n = 0 → ∀ K : K, l_law_behind_0 (.string (mk l)) (.int .i64 ((n : Int) - 1)) H (blkK [] 0 K) = K .normal [] H) ∧
    (trimN l n ≠ 0 → ∃ H', Still H H' ∧ ∀ K : K, l_law_behind_0 (.string (mk l)) (.int .i64 ((n : Int) - 1)) H (blkK [] 0 K) = K .ret [(2, .string (mk (bumpB l (trimN l n))))] H')
  | 0, _ => by
    have hge : ¬ (0 : Int) ≤ ((0 : Nat) : Int) - 1 := by omega
    refine ⟨fun _ K => ?_, fun h => absurd rfl h⟩
    rw [r_law_behind_0]
    simp (disch := first | with_reducible rfl | assumption | omega | rfl | (simp only [go_sem]; first | done | omega)) only [go_sem, ↓reduceIte, reduceCtorEq, Nat.reduceEqDiff, Nat.reduceAdd, Nat.reduceSub, Nat.reduceMul, Nat.reduceDiv, Nat.reduceMod, Nat.reduceLeDiff, Nat.reduceLT, Nat.reduceBEq, Int.reduceEq, Int.reduceBEq, Int.reduceBNe, Int.reduceLT, Int.reduceLE, Int.reduceAdd, Int.reduceSub, Int.reduceNeg, Int.reduceToNat, Int.reducePow, Nat.reducePow, Int.reduceMul, Int.reduceDiv, ↓s_law_behind_b0, hge]
  | n + 1, h => by
    have hn : n < l.length := by omega
    rw [show ((n + 1 : Nat) : Int) - 1 = (n : Int) by omega]
    have hge : (0 : Int) ≤ (n : Int) := by omega
    obtain ⟨c, hc⟩ : ∃ c, l[n] = c := ⟨_, rfl⟩
    have e1 := xix (s := mk l) (i := n) (by rw [bl_mk]; exact hn)
    have e2 : (bl (mk l))[n]'(by rw [bl_mk]; exact hn) = c := by simp [hc]
    rw [e2] at e1
    have hget : l[n]? = some c := by rw [List.getElem?_eq_getElem hn, hc]
    obtain ⟨k1, k2⟩ := l_behind l hl H n (by omega)
    unfold trimN
    rw [hget]
    by_cases h255 : c = 255
    · have hlt : ¬ (c.toNat : Int) < 255 := by rw [h255]; decide
      rw [if_pos (by rw [h255])]
      refine ⟨fun h3 K => ?_, fun h3 => ?_⟩
      · have := k1 h3 K
        rw [r_law_behind_0]
        simp (disch := first | with_reducible rfl | assumption | omega | rfl | (simp only [go_sem]; first | done | omega)) only [go_sem, ↓reduceIte, reduceCtorEq, Nat.reduceEqDiff, Nat.reduceAdd, Nat.reduceSub, Nat.reduceMul, Nat.reduceDiv, Nat.reduceMod, Nat.reduceLeDiff, Nat.reduceLT, Nat.reduceBEq, Int.reduceEq, Int.reduceBEq, Int.reduceBNe, Int.reduceLT, Int.reduceLE, Int.reduceAdd, Int.reduceSub, Int.reduceNeg, Int.reduceToNat, Int.reducePow, Nat.reducePow, Int.reduceMul, Int.reduceDiv, ↓s_law_behind_b0, hge, e1, hlt]
        exact this
      · obtain ⟨H', s', e'⟩ := k2 h3
        refine ⟨H', s', fun K => ?_⟩
        have := e' K
        rw [r_law_behind_0]
        simp (disch := first | with_reducible rfl | assumption | omega | rfl | (simp only [go_sem]; first | done | omega)) only [go_sem, ↓reduceIte, reduceCtorEq, Nat.reduceEqDiff, Nat.reduceAdd, Nat.reduceSub, Nat.reduceMul, Nat.reduceDiv, Nat.reduceMod, Nat.reduceLeDiff, Nat.reduceLT, Nat.reduceBEq, Int.reduceEq, Int.reduceBEq, Int.reduceBNe, Int.reduceLT, Int.reduceLE, Int.reduceAdd, Int.reduceSub, Int.reduceNeg, Int.reduceToNat, Int.reducePow, Nat.reducePow, Int.reduceMul, Int.reduceDiv, ↓s_law_behind_b0, hge, e1, hlt]
        exact this
    · have hlt : (c.toNat : Int) < 255 := ff_lt h255
      rw [if_neg (by simpa using h255)]
      refine ⟨fun h3 => by omega, fun _ => ?_⟩
      have sl1 := slT_hi (s := mk l) (q := .i64) (j := n) (by rw [bl_mk]; omega)
      rw [bl_mk] at sl1
      have add1 : ∀ ox oy, xbin Tryd.prog .add T.uint8 ox oy (.int .u8 (c.toNat : Int)) (.int .u8 1) = some (.int .u8 (((c.toNat + 1 : Nat) : Int) % 256)) := fun ox oy => by rw [xbin_add, wrapU8]; rfl
      obtain ⟨H1, hH1⟩ : ∃ H1, H.push (.cells [.int .u8 (((c.toNat + 1 : Nat) : Int) % 256)] T.uint8 true) = H1 := ⟨_, rfl⟩
      obtain ⟨s1, sx⟩ := one_str (c.toNat + 1) hH1
      have ad : ∀ ox oy, xbin Tryd.prog .add T.string ox oy (.string (mk (l.take n))) (.string (mk [by8 (c.toNat + 1)])) = some (.string (mk (l.take n ++ [by8 (c.toNat + 1)]))) := fun ox oy => str_add' (by simp; omega)
      have eb : bumpB l (n + 1) = l.take n ++ [by8 (c.toNat + 1)] := by
        show l.take n ++ [by8 ((l.getD n 0).toNat + 1)] = _
        rw [List.getD_eq_getElem?_getD, hget]; rfl
      rw [eb]
      generalize (((c.toNat + 1 : Nat) : Int) % 256) = m8 at add1 hH1
      refine ⟨H1, s1, fun K => ?_⟩
      rw [r_law_behind_0]
      simp (disch := first | with_reducible rfl | assumption | omega | rfl | (simp only [go_sem]; first | done | omega)) only [go_sem, ↓reduceIte, reduceCtorEq, Nat.reduceEqDiff, Nat.reduceAdd, Nat.reduceSub, Nat.reduceMul, Nat.reduceDiv, Nat.reduceMod, Nat.reduceLeDiff, Nat.reduceLT, Nat.reduceBEq, Int.reduceEq, Int.reduceBEq, Int.reduceBNe, Int.reduceLT, Int.reduceLE, Int.reduceAdd, Int.reduceSub, Int.reduceNeg, Int.reduceToNat, Int.reducePow, Nat.reducePow, Int.reduceMul, Int.reduceDiv, ↓s_law_behind_b0, hge, e1, hlt, sl1, add1, hH1, sx, ad]

theorem q_behind (l : List UInt8) (hl : l.length ≤ 100000) (H : AHeap) : CC F.law_behind [.string (mk l)] H = some (.string (mk (bump l)), H) := by
  obtain ⟨z1, z2⟩ := l_behind l hl H l.length (Nat.le_refl _)
  unfold bump
  by_cases h : trimN l l.length = 0
  · have z1 := z1 h
    rw [h]
    apply pure_of _ (d_law_behind _ H) rfl
    rotate_left 2
    · simp (disch := first | with_reducible rfl | assumption | omega | rfl | (simp only [go_sem]; first | done | omega)) only [go_sem, ↓reduceIte, reduceCtorEq, Nat.reduceEqDiff, Nat.reduceAdd, Nat.reduceSub, Nat.reduceMul, Nat.reduceDiv, Nat.reduceMod, Nat.reduceLeDiff, Nat.reduceLT, Nat.reduceBEq, Int.reduceEq, Int.reduceBEq, Int.reduceBNe, Int.reduceLT, Int.reduceLE, Int.reduceAdd, Int.reduceSub, Int.reduceNeg, Int.reduceToNat, Int.reducePow, Nat.reducePow, Int.reduceMul, Int.reduceDiv, ↓s_law_behind, bl_mk, z1]
      rfl
    · (repeat (first | exact Fr.refl _ | refine Fr.push ?_ _ | refine Fr.set ?_ _ _ (by intro h; first | omega | (simp only [go_sem] at h; omega))))
  · obtain ⟨H', s', z2⟩ := z2 h
    apply pure_of _ (d_law_behind _ H) rfl
    rotate_left 2
    · simp (disch := first | with_reducible rfl | assumption | omega | rfl | (simp only [go_sem]; first | done | omega)) only [go_sem, ↓reduceIte, reduceCtorEq, Nat.reduceEqDiff, Nat.reduceAdd, Nat.reduceSub, Nat.reduceMul, Nat.reduceDiv, Nat.reduceMod, Nat.reduceLeDiff, Nat.reduceLT, Nat.reduceBEq, Int.reduceEq, Int.reduceBEq, Int.reduceBNe, Int.reduceLT, Int.reduceLE, Int.reduceAdd, Int.reduceSub, Int.reduceNeg, Int.reduceToNat, Int.reducePow, Nat.reducePow, Int.reduceMul, Int.reduceDiv, ↓s_law_behind, bl_mk, z2]
      rfl
    · exact s'

/-! ### Span's loop -/
theorem l_Span (l : List UInt8) (hl : l.length ≤ 100000) (v4 : Value) (bb : Nat) (H : AHeap) (hf : H.f bb = .cells (EB.cells l) T.uint8 true) : ∀ n, n ≤ l.length →
    ∀ K : K, l_rows_Span_0 v4 (.slice (some ⟨bb, 0, none⟩) n (2 * l.length + 1)) H (blkK [4, 7] 0 K) = K .normal [(4, v4), (7, .slice (some ⟨bb, 0, none⟩) (trimN l n) (2 * l.length + 1))] H
  | 0, _, K => by
    rw [r_rows_Span_0]
    simp (disch := first | with_reducible rfl | assumption | omega | rfl | (simp only [go_sem]; first | done | omega)) only [go_sem, ↓reduceIte, reduceCtorEq, Nat.reduceEqDiff, Nat.reduceAdd, Nat.reduceSub, Nat.reduceMul, Nat.reduceDiv, Nat.reduceMod, Nat.reduceLeDiff, Nat.reduceLT, Nat.reduceBEq, Int.reduceEq, Int.reduceBEq, Int.reduceBNe, Int.reduceLT, Int.reduceLE, Int.reduceAdd, Int.reduceSub, Int.reduceNeg, Int.reduceToNat, Int.reducePow, Nat.reducePow, Int.reduceMul, Int.reduceDiv, ↓s_rows_Span_b0]
    rfl
  | n + 1, h, K => by
    have hn : n < l.length := by omega
    obtain ⟨c, hc⟩ : ∃ c, l[n] = c := ⟨_, rfl⟩
    have hget : l[n]? = some c := by rw [List.getElem?_eq_getElem hn, hc]
    obtain ⟨v, hv⟩ : ∃ v, Value.slice (some ⟨bb, 0, none⟩) (n + 1) (2 * l.length + 1) = v := ⟨_, rfl⟩
    have lv : lenS v = some (.int .i64 ((n + 1 : Nat) : Int)) := by rw [← hv]; rfl
    have ix := ixS_nat (sz := 1) (b := bb) (o := 0) (len := n + 1) (code := 2 * l.length + 1) (k := n) (q := .i64) (by omega)
    rw [hv, Nat.mul_one, Nat.zero_add] at ix
    have cl : cellB (H.f bb) n = some (.int .u8 (c.toNat : Int)) := by
      rw [hf, cellB_c, EB_cells, List.getElem?_map, hget]; rfl
    have hpos : 0 < ((n + 1 : Nat) : Int) := by omega
    have sub1 : ∀ ox oy, xbin Tryd.prog .sub T.int ox oy (.int .i64 ((n + 1 : Nat) : Int)) (.int .i64 1) = some (.int .i64 (n : Int)) := fun ox oy => by
      rw [show (n : Int) = ((n + 1 : Nat) : Int) - 1 by omega]; exact sub_i64 (by omega)
    have sl1 := sl_hi (e := T.uint8) (H := H) (b := bb) (o := 0) (n := n + 1) (c := l.length) (i := n) (sz := 1) (q := .i64) hf (by omega)
    rw [hv] at sl1
    rw [hv]
    generalize ((n + 1 : Nat) : Int) = m at lv hpos sub1
    unfold trimN
    rw [hget]
    by_cases h255 : c = 255
    · have he : ((c.toNat : Int) = 255) = True := by simp [h255]
      rw [if_pos (by rw [h255])]
      have := l_Span l hl v4 bb H hf n (by omega) K
      rw [r_rows_Span_0]
      simp (disch := first | with_reducible rfl | assumption | omega | rfl | (simp only [go_sem]; first | done | omega)) only [go_sem, ↓reduceIte, reduceCtorEq, Nat.reduceEqDiff, Nat.reduceAdd, Nat.reduceSub, Nat.reduceMul, Nat.reduceDiv, Nat.reduceMod, Nat.reduceLeDiff, Nat.reduceLT, Nat.reduceBEq, Int.reduceEq, Int.reduceBEq, Int.reduceBNe, Int.reduceLT, Int.reduceLE, Int.reduceAdd, Int.reduceSub, Int.reduceNeg, Int.reduceToNat, Int.reducePow, Nat.reducePow, Int.reduceMul, Int.reduceDiv, ↓s_rows_Span_b0, lv, hpos, sub1, ix, cl, he, sl1]
      exact this
    · have he : ¬ ((c.toNat : Int) = 255) := by have := ff_lt h255; omega
      rw [if_neg (by simpa using h255)]
      rw [r_rows_Span_0]
      simp (disch := first | with_reducible rfl | assumption | omega | rfl | (simp only [go_sem]; first | done | omega)) only [go_sem, ↓reduceIte, reduceCtorEq, Nat.reduceEqDiff, Nat.reduceAdd, Nat.reduceSub, Nat.reduceMul, Nat.reduceDiv, Nat.reduceMod, Nat.reduceLeDiff, Nat.reduceLT, Nat.reduceBEq, Int.reduceEq, Int.reduceBEq, Int.reduceBNe, Int.reduceLT, Int.reduceLE, Int.reduceAdd, Int.reduceSub, Int.reduceNeg, Int.reduceToNat, Int.reducePow, Nat.reducePow, Int.reduceMul, Int.reduceDiv, ↓s_rows_Span_b0, lv, hpos, sub1, ix, cl, he]
      rw [hv]

end Go.Proofs.YtlmhioanjmhaiaaDoor

/-
  The seat's functions as terms over the engine's combinators (a program of ours printed it).
  Conditions: none. By an AI agent.
-/
set_option linter.unusedVariables false
namespace Go.Proofs.YtlmhioanjmhaiaaDoor
open Go Eng

/-! ticketline.ticketlinelaw40.RowsSpans -/

noncomputable def s_law_RowsSpans (mg : GT) (mc : CT) (ms : ST) (P : Program) (C : CallF) (a0 : Value) (a1 : Value) (H : AHeap) (K0 : K) : Res :=
bothK (newv T.api_Table a0 H) fun t2 h1 =>
bareK (ldN 3 h1 t2) h1 fun t6 h2 =>
enterK C F.law_small [t6, a1] h2 fun t8 h3 =>
bareK (xun P .not t8) h3 fun t9 h4 =>
mc t9 (fun k1 => enterK C F.law_known [] h4 fun t10 h5 =>
k1 .ret [(4, t10)] h5) (fun k1 =>
k1 .normal [(1, a1), (2, t2)] h4) (seqK (fun tT h6 =>
bareK (ldN 3 h6 (get tT 2)) h6 fun t11 h7 =>
enterK C F.law_valid [t11] h7 fun t12 h8 =>
bareK (xun P .not t12) h8 fun t13 h9 =>
mg t13 false (fun o2 => o2 (get tT 1) h9) h9 fun t15 h10 =>
mg t13 false (fun o3 => bareK (lenS t15) h10 o3) h10 fun t16 h11 =>
mg t13 false (fun o4 => bareK (fad 1 (get tT 2)) h11 o4) h11 fun t17 h12 =>
mg t13 false (fun o5 => bareK (ld1 h12 t17) h12 o5) h12 fun t18 h13 =>
mg t13 false (fun o6 => bareK (lenS t18) h13 o6) h13 fun t19 h14 =>
mg t13 false (fun o7 => bareK (xbin P .gtr T.int (.tmp 16) (.tmp 19) t16 t19) h14 o7) h14 fun t20 h15 =>
pickK t13 (.bool true) t20 fun t21 =>
mg t21 false (fun o8 => bareK (ldN 3 h15 (get tT 2)) h15 o8) h15 fun t23 h16 =>
mg t21 false (fun o9 => o9 (get tT 1) h16) h16 fun t24 h17 =>
mg t21 false (fun o10 => enterK C F.law_first [t23, t24] h17 o10) h17 fun t25 h18 =>
mg t21 false (fun o11 => bareK (xun P .not t25) h18 o11) h18 fun t26 h19 =>
pickK t21 (.bool true) t26 fun t27 =>
mc t27 (fun k12 => bareK (ldN 3 h19 (get tT 2)) h19 fun t28 h20 =>
enterK C F.law_spans [t28, (get tT 1), (.string (mk [])), (.string (mk [])), (.int .i64 2)] h20 fun t30 h21 =>
mg t30 true (fun o13 => enterK C F.law_known [] h21 o13) h21 fun t32 h22 =>
pickK t30 t32 (.bool false) fun t33 =>
k12 .ret [(4, t33)] h22) (fun k12 =>
k12 .normal [(1, (get tT 1)), (2, (get tT 2))] h19) (seqK (fun tT_1 h23 =>
bareK (fad 0 (get tT_1 2)) h23 fun t34 h24 =>
bareK (ld1 h24 t34) h24 fun t35 h25 =>
bothK (xconv P T.int T.uint8 t35 h25) fun t36 h26 =>
bothK (bldL T.uint8 [(.int .u8 0)] 1 [(0, t36)] h26) fun t37 h27 =>
bothK (xconv P T.sl_uint8 T.string t37 h27) fun t38 h28 =>
enterK C F.law_joined [t38, (get tT_1 1)] h28 fun t40 h29 =>
bareK (lenT t40) h29 fun t42 h30 =>
bareK (xbin P .gtr T.int (.tmp 42) (.const (.int .i64 24)) t42 (.int .i64 24)) h30 fun t43 h31 =>
mc t43 (fun k14 => bareK (ldN 3 h31 (get tT_1 2)) h31 fun t44 h32 =>
enterK C F.law_spans [t44, (get tT_1 1), (.string (mk [])), (.string (mk [])), (.int .i64 5)] h32 fun t46 h33 =>
mg t46 true (fun o15 => enterK C F.law_known [] h33 o15) h33 fun t48 h34 =>
pickK t46 t48 (.bool false) fun t49 =>
k14 .ret [(4, t49)] h34) (fun k14 =>
k14 .normal [(1, (get tT_1 1)), (2, (get tT_1 2)), (5, t40)] h31) (seqK (fun tT_2 h35 =>
bareK (ldN 3 h35 (get tT_2 2)) h35 fun t50 h36 =>
enterK C F.law_behind [(get tT_2 5)] h36 fun t54 h37 =>
enterK C F.law_spans [t50, (get tT_2 1), (get tT_2 5), t54, (.int .i64 0)] h37 fun t55 h38 =>
mg t55 true (fun o16 => enterK C F.law_known [] h38 o16) h38 fun t57 h39 =>
pickK t55 t57 (.bool false) fun t58 =>
checkK (okV (some true) (blockOf (get tT_2 2)) h36 h37 h35 h36 && (okV (some true) none h36 h37 h36 h36 && (okV (some true) none h36 h37 h36 h36 && true))) <|
K0 .ret [(4, t58)] h39) K0)) K0)) K0)

theorem s_law_RowsSpans_eq (M : CombL) (C : CallF) (LP : LoopH) (a0 : Value) (a1 : Value) (H : AHeap) : dBodyL M Tryd.prog hints C LP F.law_RowsSpans [a0, a1] H = s_law_RowsSpans M.b.g M.c M.s Tryd.prog C a0 a1 H (endK Tryd.prog [.tmp 4]) := by kernel_rfl

end Go.Proofs.YtlmhioanjmhaiaaDoor

/-
  The equations of the seat's functions over calls in the limit (a program of ours printed it).
  Conditions: none. By an AI agent.
-/
set_option linter.unusedVariables false
namespace Go.Proofs.YtlmhioanjmhaiaaDoor
open Go Eng



theorem d_law_RowsSpans (a0 : Value) (a1 : Value) (H : AHeap) {r : Value × AHeap} (h : s_law_RowsSpans guardK condL shareL Tryd.prog CC a0 a1 H (endK Tryd.prog [.tmp 4]) = some r) : CC F.law_RowsSpans [a0, a1] H = some (tidy H r) := D_body (by kernel_rfl) ((s_law_RowsSpans_eq stdL CC limLP a0 a1 H).trans (Eq.trans (show s_law_RowsSpans stdL.b.g stdL.c stdL.s Tryd.prog CC a0 a1 H (endK Tryd.prog [.tmp 4]) = s_law_RowsSpans guardK condL shareL Tryd.prog CC a0 a1 H (endK Tryd.prog [.tmp 4]) by kernel_rfl) h))

end Go.Proofs.YtlmhioanjmhaiaaDoor

/-
  Chapter 40: Span; RowsSpans.
  Conditions: none. By an AI agent.
-/
set_option maxRecDepth 10000
set_option linter.unusedSimpArgs false
set_option linter.unusedVariables false
namespace Go.Proofs.YtlmhioanjmhaiaaDoor
open Go Eng

theorem x_sb (l : List UInt8) (H : AHeap) : xconv Tryd.prog T.string T.sl_uint8 (.string (mk l)) H = some (.slice (some ⟨H.n, 0, none⟩) l.length (2 * l.length + 1), H.push (.cells (EB.cells l) T.uint8 true)) := by
  have h1 : Tryd.prog.underlying T.string = some .string := Tryd.underlying9
  have h2 : Tryd.prog.underlying T.sl_uint8 = some (.slice T.uint8) := Tryd.underlying31
  have h3 : Tryd.prog.underlying T.uint8 = some (.int .u8) := Tryd.underlying5
  have h4 : Tryd.prog.cellsOf T.uint8 = 1 := by kernel_rfl
  unfold xconv
  simp only [h1, h2, h3, h4, if_true, bl_mk, EB_cells]

theorem are2_app : ∀ (l : List Cl) (a b : List Int), l.length ≤ a.length → are2 l (a ++ b) = are2 l a
  | [], _, _, _ => rfl
  | c :: l, [], _, h => by simp at h
  | c :: l, k :: a, b, h => by
    show (properP c k && are2 l (a ++ b)) = (properP c k && are2 l a)
    rw [are2_app l a b (by simpa using h)]
theorem are2_take : ∀ (l : List Cl) (a : List Int), l.length ≤ a.length → are2 l (a.take l.length) = are2 l a
  | [], _, _ => by simp [are2]
  | c :: l, [], h => by simp at h
  | c :: l, k :: a, h => by
    show (properP c k && are2 l (a.take l.length)) = (properP c k && are2 l a)
    rw [are2_take l a (by simpa using h)]

/-- Whether a span is asked for rightly. -/
def spanOk (n : Int) (kl rl : List Int) (l : List Cl) : Bool := validP n kl rl && (decide (l.length ≤ kl.length) && are2 l kl)
theorem validP_n {n : Int} {kl rl : List Int} (h : validP n kl rl = true) : 1 ≤ n ∧ n ≤ 255 ∧ kl.length ≤ 8 ∧ rl.length ≤ 8 := by
  unfold validP at h
  simp only [Bool.and_eq_true, decide_eq_true_eq] at h
  exact ⟨h.1, h.2.1, h.2.2.2.1, h.2.2.2.2.1⟩

theorem q_Span_bad (n : Int) (kv rv : Value) (kl rl : List Int) (l : List Cl) (w : Value) (H : AHeap) (hk : KR H kv kl) (hr : KR H rv rl) (hw : Rd ECl H w l) (hl : l.length ≤ 100) (h : spanOk n kl rl l = false) :
    CC F.rows_Span [tbV n kv rv, w] H = some (.tuple #[.string (mk []), .string (mk []), .int .i64 2], H) := by
  obtain ⟨H1, hH1⟩ : ∃ H1, H.push (.cells [.int .i64 n, kv, rv] T.api_Table true) = H1 := ⟨_, rfl⟩
  have s1 : Still H H1 := by rw [← hH1]; exact (Fr.refl H).push _
  have f1 : H1.f H.n = .cells [.int .i64 n, kv, rv] T.api_Table true := by rw [← hH1]; exact push_f_eq rfl
  have lk := hk.1.lenS
  have lw := hw.lenS
  have m1 := q_Valid n kv rv kl rl H1 (hk.still s1) (hr.still s1)
  unfold spanOk at h
  cases hv : validP n kl rl with
  | false =>
    rw [hv] at m1
    apply pure_of _ (d_rows_Span _ _ H) rfl
    rotate_left 2
    · simp (disch := first | with_reducible rfl | assumption | omega | rfl | (simp only [go_sem]; first | done | omega)) only [go_sem, ↓reduceIte, reduceCtorEq, Nat.reduceEqDiff, Nat.reduceAdd, Nat.reduceSub, Nat.reduceMul, Nat.reduceDiv, Nat.reduceMod, Nat.reduceLeDiff, Nat.reduceLT, Nat.reduceBEq, Int.reduceEq, Int.reduceBEq, Int.reduceBNe, Int.reduceLT, Int.reduceLE, Int.reduceAdd, Int.reduceSub, Int.reduceNeg, Int.reduceToNat, Int.reducePow, Nat.reducePow, Int.reduceMul, Int.reduceDiv, ↓s_rows_Span, hH1, f1, enterK_eq m1]
      rfl
    · exact s1
  | true =>
    rw [hv, Bool.true_and] at h
    rw [hv] at m1
    by_cases h2 : (kl.length : Int) < (l.length : Int)
    · apply pure_of _ (d_rows_Span _ _ H) rfl
      rotate_left 2
      · simp (disch := first | with_reducible rfl | assumption | omega | rfl | (simp only [go_sem]; first | done | omega)) only [go_sem, ↓reduceIte, reduceCtorEq, Nat.reduceEqDiff, Nat.reduceAdd, Nat.reduceSub, Nat.reduceMul, Nat.reduceDiv, Nat.reduceMod, Nat.reduceLeDiff, Nat.reduceLT, Nat.reduceBEq, Int.reduceEq, Int.reduceBEq, Int.reduceBNe, Int.reduceLT, Int.reduceLE, Int.reduceAdd, Int.reduceSub, Int.reduceNeg, Int.reduceToNat, Int.reducePow, Nat.reducePow, Int.reduceMul, Int.reduceDiv, ↓s_rows_Span, hH1, f1, enterK_eq m1, lk, lw, h2]
        rfl
      · exact s1
    · have hle : l.length ≤ kl.length := by omega
      rw [decide_eq_true hle, Bool.true_and] at h
      obtain ⟨k2, a2, r2, _⟩ := (hk.still s1).to (sz := 1) rfl (j := l.length) (q := .i64) hle
      have m2 := q_are l (kl.take l.length) w k2 H1 (hw.still s1) r2 (by omega)
      have e : areP l (kl.take l.length) = false := by unfold areP; rw [are2_take l kl hle, h, Bool.and_false]
      rw [e] at m2
      apply pure_of _ (d_rows_Span _ _ H) rfl
      rotate_left 2
      · simp (disch := first | with_reducible rfl | assumption | omega | rfl | (simp only [go_sem]; first | done | omega)) only [go_sem, ↓reduceIte, reduceCtorEq, Nat.reduceEqDiff, Nat.reduceAdd, Nat.reduceSub, Nat.reduceMul, Nat.reduceDiv, Nat.reduceMod, Nat.reduceLeDiff, Nat.reduceLT, Nat.reduceBEq, Int.reduceEq, Int.reduceBEq, Int.reduceBNe, Int.reduceLT, Int.reduceLE, Int.reduceAdd, Int.reduceSub, Int.reduceNeg, Int.reduceToNat, Int.reducePow, Nat.reducePow, Int.reduceMul, Int.reduceDiv, ↓s_rows_Span, hH1, f1, enterK_eq m1, lk, lw, h2, a2, enterK_eq m2]
        rfl
      · exact s1

set_option maxHeartbeats 1000000 in
theorem q_Span (n : Int) (kv rv : Value) (kl rl : List Int) (l : List Cl) (w : Value) (H : AHeap) (ok : OkH H) (hk : KR H kv kl) (hr : KR H rv rl) (hw : Rd ECl H w l) (hl : l.length ≤ 100) (hc : ∀ c ∈ l, CellOk c) (h : spanOk n kl rl l = true) :
    ∃ H', Still H H' ∧ CC F.rows_Span [tbV n kv rv, w] H = some (if 24 < (by8 n.toNat :: encs l).length then .tuple #[.string (mk []), .string (mk []), .int .i64 5] else .tuple #[.string (mk (by8 n.toNat :: encs l)), .string (mk (bump (by8 n.toNat :: encs l))), .int .i64 0], H') := by
  obtain ⟨H1, hH1⟩ : ∃ H1, H.push (.cells [.int .i64 n, kv, rv] T.api_Table true) = H1 := ⟨_, rfl⟩
  have s1 : Still H H1 := by rw [← hH1]; exact (Fr.refl H).push _
  have f1 : H1.f H.n = .cells [.int .i64 n, kv, rv] T.api_Table true := by rw [← hH1]; exact push_f_eq rfl
  have lk := hk.1.lenS
  have lw := hw.lenS
  have m1 := q_Valid n kv rv kl rl H1 (hk.still s1) (hr.still s1)
  unfold spanOk at h
  simp only [Bool.and_eq_true, decide_eq_true_eq] at h
  obtain ⟨hv, hle, har⟩ := h
  have hvn := validP_n hv
  rw [hv] at m1
  have h2 : ¬ (kl.length : Int) < (l.length : Int) := by omega
  obtain ⟨k2, a2, r2, _⟩ := (hk.still s1).to (sz := 1) rfl (j := l.length) (q := .i64) hle
  have m2 := q_are l (kl.take l.length) w k2 H1 (hw.still s1) r2 (by omega)
  have e : areP l (kl.take l.length) = true := by unfold areP; rw [are2_take l kl hle, har, Bool.and_true]; simp; omega
  rw [e] at m2
  have cA : ∀ H, xconv Tryd.prog T.int T.uint8 (.int .i64 n) H = some (.int .u8 (((n.toNat : Nat) : Int) % 256), H) := fun H => by rw [x_int_uint8, wrapU8, show ((n.toNat : Nat) : Int) = n by omega]
  obtain ⟨H2, hH2⟩ : ∃ H2, H1.push (.cells [.int .u8 (((n.toNat : Nat) : Int) % 256)] T.uint8 true) = H2 := ⟨_, rfl⟩
  have sB : Still H1 H2 := by rw [← hH2]; exact (Fr.refl H1).push _
  have f2 : H2.f H1.n = .cells (EB.cells [by8 n.toNat]) T.uint8 true := by rw [cells_one, ← hH2]; exact push_f_eq rfl
  have g2 : Grw H1 H2 (.slice (some ⟨H1.n, 0, none⟩) 1 2) [by8 n.toNat] := ⟨sB, newB (l := [by8 n.toNat]) (by rw [← hH2]; exact Nat.lt_succ_self _) f2, fun b h => by cases h; exact Nat.le_refl _, .inr (.inr ⟨H1.n, 0, 1, rfl⟩)⟩
  obtain ⟨H3, m3, s3⟩ := q_puts l hl hc w (.slice (some ⟨H1.n, 0, none⟩) 1 2) [by8 n.toNat] H1 H2 (s1.ok ok) (hw.still s1) g2 (by simp)
  have m3 : CC F.rows_puts [.slice (some ⟨H1.n, 0, none⟩) 1 2, w] H2 = some (.string (mk (by8 n.toNat :: encs l)), H3) := m3
  obtain ⟨x, hx⟩ : ∃ x, by8 n.toNat :: encs l = x := ⟨_, rfl⟩
  have hxl : x.length ≤ 100000 := by have := encs_len hc; rw [← hx]; simp; omega
  have hx0 : x ≠ [] := by rw [← hx]; simp
  rw [hx] at m3 ⊢
  by_cases h24 : 24 < (x.length : Int)
  · rw [if_pos (by omega)]
    refine ⟨H, Fr.refl H, ?_⟩
    apply pure_of _ (d_rows_Span _ _ H) rfl
    rotate_left 2
    · simp (disch := first | with_reducible rfl | assumption | omega | rfl | (simp only [go_sem]; first | done | omega)) only [go_sem, ↓reduceIte, reduceCtorEq, Nat.reduceEqDiff, Nat.reduceAdd, Nat.reduceSub, Nat.reduceMul, Nat.reduceDiv, Nat.reduceMod, Nat.reduceLeDiff, Nat.reduceLT, Nat.reduceBEq, Int.reduceEq, Int.reduceBEq, Int.reduceBNe, Int.reduceLT, Int.reduceLE, Int.reduceAdd, Int.reduceSub, Int.reduceNeg, Int.reduceToNat, Int.reducePow, Nat.reducePow, Int.reduceMul, Int.reduceDiv, ↓s_rows_Span, hH1, f1, enterK_eq m1, lk, lw, h2, a2, enterK_eq m2, cA, hH2, enterK_eq m3, bl_mk, h24]
      rfl
    · exact s1.trans s3
  rw [if_neg (by omega)]
  obtain ⟨H4, hH4⟩ : ∃ H4, H3.push (.cells (EB.cells x) T.uint8 true) = H4 := ⟨_, rfl⟩
  have sD : Still H3 H4 := by rw [← hH4]; exact (Fr.refl H3).push _
  have f4 : H4.f H3.n = .cells (EB.cells x) T.uint8 true := by rw [← hH4]; exact push_f_eq rfl
  have n4 : H3.n < H4.n := by rw [← hH4]; exact Nat.lt_succ_self _
  have cv := x_sb x H3
  rw [hH4] at cv
  have z1 := l_Span x hxl (.string (mk x)) H3.n H4 f4 x.length (Nat.le_refl _)
  have tl := trimN_le x x.length
  have tlast := trimN_last x x.length
  have s4 : Still H H4 := (s1.trans s3).trans sD
  unfold bump
  cases htr : trimN x x.length with
  | zero =>
    rw [htr] at z1
    have l0 : lenS (.slice (some ⟨H3.n, 0, none⟩) 0 (2 * x.length + 1)) = some (.int .i64 0) := rfl
    have r0 : BR H4 (.slice (some ⟨H3.n, 0, none⟩) 0 (2 * x.length + 1)) [] := ⟨.inr (.inl ⟨rfl, _, _, rfl, rfl⟩), .inr ⟨_, _, _, _, rfl, Nat.zero_le _, .inr (by rw [f4]; simp [rowOf]), n4⟩⟩
    have sx := BR.str r0
    refine ⟨H, Fr.refl H, ?_⟩
    show _ = some (Value.tuple #[.string (mk x), .string (mk []), .int .i64 0], H)
    apply pure_of _ (d_rows_Span _ _ H) rfl
    rotate_left 2
    · simp (disch := first | with_reducible rfl | assumption | omega | rfl | (simp only [go_sem]; first | done | omega)) only [go_sem, ↓reduceIte, reduceCtorEq, Nat.reduceEqDiff, Nat.reduceAdd, Nat.reduceSub, Nat.reduceMul, Nat.reduceDiv, Nat.reduceMod, Nat.reduceLeDiff, Nat.reduceLT, Nat.reduceBEq, Int.reduceEq, Int.reduceBEq, Int.reduceBNe, Int.reduceLT, Int.reduceLE, Int.reduceAdd, Int.reduceSub, Int.reduceNeg, Int.reduceToNat, Int.reducePow, Nat.reducePow, Int.reduceMul, Int.reduceDiv, ↓s_rows_Span, hH1, f1, enterK_eq m1, lk, lw, h2, a2, enterK_eq m2, cA, hH2, enterK_eq m3, bl_mk, h24]
      simp (disch := first | with_reducible rfl | assumption | omega | rfl | (simp only [go_sem]; first | done | omega)) only [go_sem, ↓reduceIte, reduceCtorEq, Nat.reduceEqDiff, Nat.reduceAdd, Nat.reduceSub, Nat.reduceMul, Nat.reduceDiv, Nat.reduceMod, Nat.reduceLeDiff, Nat.reduceLT, Nat.reduceBEq, Int.reduceEq, Int.reduceBEq, Int.reduceBNe, Int.reduceLT, Int.reduceLE, Int.reduceAdd, Int.reduceSub, Int.reduceNeg, Int.reduceToNat, Int.reducePow, Nat.reducePow, Int.reduceMul, Int.reduceDiv, cv, z1, l0, sx]
      rfl
    · exact s4
  | succ k =>
    rw [htr] at z1 tl
    have hkx : k < x.length := by omega
    obtain ⟨c, hcx⟩ : ∃ c, x[k] = c := ⟨_, rfl⟩
    have hget : x[k]? = some c := by rw [List.getElem?_eq_getElem hkx, hcx]
    obtain ⟨v, hv⟩ : ∃ v, Value.slice (some ⟨H3.n, 0, none⟩) (k + 1) (2 * x.length + 1) = v := ⟨_, rfl⟩
    rw [hv] at z1
    have hto : (x.take (k + 1)).length = k + 1 := by simp; omega
    have ow : Own EB H4 T.uint8 v (x.take (k + 1)) := by
      refine .inr (.inr ⟨H3.n, 0, x.length, EB.cells x, by rw [hto, hv], by rw [hto]; omega, n4, f4, by rw [EB_cells]; simp [EB], ?_⟩)
      rw [hto, List.drop_zero, EB_cells, EB_cells, List.map_take]
      simp [EB]
    have so : Since H3 H4 v (x.take (k + 1)) := ⟨sD, ow, fun b h => by rw [← hv] at h; cases h; exact Nat.le_refl _⟩
    obtain ⟨b, o, kk, ix, cl, wr, so2⟩ := so.set (i := k) (by omega) (by8 (c.toNat + 1))
    rw [show (x.take (k + 1))[k]'(by omega) = c by simp [hcx]] at cl
    obtain ⟨H5, hH5⟩ : ∃ H5, H4.set b kk = H5 := ⟨_, rfl⟩
    rw [hH5] at so2
    have sx := BR.str so2.own.sl
    have eb : (x.take (k + 1)).set k (by8 (c.toNat + 1)) = bumpB x (k + 1) := by
      show _ = x.take k ++ [by8 ((x.getD k 0).toNat + 1)]
      rw [List.getD_eq_getElem?_getD, hget, List.take_succ_eq_append_getElem hkx, List.set_append_right _ _ (by simp; omega)]
      simp [show k - min k x.length = 0 by omega]
    rw [eb] at sx
    have lv : lenS v = some (.int .i64 ((k + 1 : Nat) : Int)) := by rw [← hv]; rfl
    have hpos : 0 < ((k + 1 : Nat) : Int) := by omega
    have sub1 : ∀ ox oy, xbin Tryd.prog .sub T.int ox oy (.int .i64 ((k + 1 : Nat) : Int)) (.int .i64 1) = some (.int .i64 (k : Int)) := fun ox oy => by
      rw [show (k : Int) = ((k + 1 : Nat) : Int) - 1 by omega]; exact sub_i64 (by omega)
    have add1 : ∀ ox oy, xbin Tryd.prog .add T.uint8 ox oy (.int .u8 (c.toNat : Int)) (.int .u8 1) = some (.int .u8 ((by8 (c.toNat + 1)).toNat : Int)) := fun ox oy => by
      have h8 := by8_cell (c.toNat + 1)
      unfold byteCell at h8
      injection h8 with _ h8
      rw [xbin_add, wrapU8, h8]; rfl
    generalize ((k + 1 : Nat) : Int) = m at lv hpos sub1
    refine ⟨H, Fr.refl H, ?_⟩
    apply pure_of _ (d_rows_Span _ _ H) rfl
    rotate_left 2
    · simp (disch := first | with_reducible rfl | assumption | omega | rfl | (simp only [go_sem]; first | done | omega)) only [go_sem, ↓reduceIte, reduceCtorEq, Nat.reduceEqDiff, Nat.reduceAdd, Nat.reduceSub, Nat.reduceMul, Nat.reduceDiv, Nat.reduceMod, Nat.reduceLeDiff, Nat.reduceLT, Nat.reduceBEq, Int.reduceEq, Int.reduceBEq, Int.reduceBNe, Int.reduceLT, Int.reduceLE, Int.reduceAdd, Int.reduceSub, Int.reduceNeg, Int.reduceToNat, Int.reducePow, Nat.reducePow, Int.reduceMul, Int.reduceDiv, ↓s_rows_Span, hH1, f1, enterK_eq m1, lk, lw, h2, a2, enterK_eq m2, cA, hH2, enterK_eq m3, bl_mk, h24]
      simp (disch := first | with_reducible rfl | assumption | omega | rfl | (simp only [go_sem]; first | done | omega)) only [go_sem, ↓reduceIte, reduceCtorEq, Nat.reduceEqDiff, Nat.reduceAdd, Nat.reduceSub, Nat.reduceMul, Nat.reduceDiv, Nat.reduceMod, Nat.reduceLeDiff, Nat.reduceLT, Nat.reduceBEq, Int.reduceEq, Int.reduceBEq, Int.reduceBNe, Int.reduceLT, Int.reduceLE, Int.reduceAdd, Int.reduceSub, Int.reduceNeg, Int.reduceToNat, Int.reducePow, Nat.reducePow, Int.reduceMul, Int.reduceDiv, cv, z1, lv, hpos, sub1, ix, cl, add1, wr, hH5, sx]
      rfl
    · exact (s1.trans s3).trans so2.still

theorem q_spans_bad (n : Int) (kv rv : Value) (kl rl : List Int) (l : List Cl) (w : Value) (H : AHeap) (hk : KR H kv kl) (hr : KR H rv rl) (hw : Rd ECl H w l) (hl : l.length ≤ 100) (h : spanOk n kl rl l = false) :
    CC F.law_spans [tbV n kv rv, w, .string (mk []), .string (mk []), .int .i64 2] H = some (.bool true, H) := by
  obtain ⟨H1, hH1⟩ : ∃ H1, H.push (.cells [.int .i64 n, kv, rv] T.api_Table true) = H1 := ⟨_, rfl⟩
  have s1 : Still H H1 := by rw [← hH1]; exact (Fr.refl H).push _
  have f1 : H1.f H.n = .cells [.int .i64 n, kv, rv] T.api_Table true := by rw [← hH1]; exact push_f_eq rfl
  have m1 := q_Span_bad n kv rv kl rl l w H1 (hk.still s1) (hr.still s1) (hw.still s1) hl h
  apply pure_of _ (d_law_spans _ _ _ _ _ H) rfl
  rotate_left 2
  · simp (disch := first | with_reducible rfl | assumption | omega | rfl | (simp only [go_sem]; first | done | omega)) only [go_sem, ↓reduceIte, reduceCtorEq, Nat.reduceEqDiff, Nat.reduceAdd, Nat.reduceSub, Nat.reduceMul, Nat.reduceDiv, Nat.reduceMod, Nat.reduceLeDiff, Nat.reduceLT, Nat.reduceBEq, Int.reduceEq, Int.reduceBEq, Int.reduceBNe, Int.reduceLT, Int.reduceLE, Int.reduceAdd, Int.reduceSub, Int.reduceNeg, Int.reduceToNat, Int.reducePow, Nat.reducePow, Int.reduceMul, Int.reduceDiv, ↓s_law_spans, hH1, f1, enterK_eq m1]
    rfl
  · exact s1
theorem q_spans (n : Int) (kv rv : Value) (kl rl : List Int) (l : List Cl) (w : Value) (H : AHeap) (ok : OkH H) (hk : KR H kv kl) (hr : KR H rv rl) (hw : Rd ECl H w l) (hl : l.length ≤ 100) (hc : ∀ c ∈ l, CellOk c) (h : spanOk n kl rl l = true) :
    (24 < (by8 n.toNat :: encs l).length → CC F.law_spans [tbV n kv rv, w, .string (mk []), .string (mk []), .int .i64 5] H = some (.bool true, H)) ∧
    (¬ 24 < (by8 n.toNat :: encs l).length → CC F.law_spans [tbV n kv rv, w, .string (mk (by8 n.toNat :: encs l)), .string (mk (bump (by8 n.toNat :: encs l))), .int .i64 0] H = some (.bool true, H)) := by
  obtain ⟨H1, hH1⟩ : ∃ H1, H.push (.cells [.int .i64 n, kv, rv] T.api_Table true) = H1 := ⟨_, rfl⟩
  have s1 : Still H H1 := by rw [← hH1]; exact (Fr.refl H).push _
  have f1 : H1.f H.n = .cells [.int .i64 n, kv, rv] T.api_Table true := by rw [← hH1]; exact push_f_eq rfl
  obtain ⟨H2, s2, m1⟩ := q_Span n kv rv kl rl l w H1 (s1.ok ok) (hk.still s1) (hr.still s1) (hw.still s1) hl hc h
  generalize by8 n.toNat :: encs l = x at m1
  refine ⟨fun h24 => ?_, fun h24 => ?_⟩
  · rw [if_pos h24] at m1
    apply pure_of _ (d_law_spans _ _ _ _ _ H) rfl
    rotate_left 2
    · simp (disch := first | with_reducible rfl | assumption | omega | rfl | (simp only [go_sem]; first | done | omega)) only [go_sem, ↓reduceIte, reduceCtorEq, Nat.reduceEqDiff, Nat.reduceAdd, Nat.reduceSub, Nat.reduceMul, Nat.reduceDiv, Nat.reduceMod, Nat.reduceLeDiff, Nat.reduceLT, Nat.reduceBEq, Int.reduceEq, Int.reduceBEq, Int.reduceBNe, Int.reduceLT, Int.reduceLE, Int.reduceAdd, Int.reduceSub, Int.reduceNeg, Int.reduceToNat, Int.reducePow, Nat.reducePow, Int.reduceMul, Int.reduceDiv, ↓s_law_spans, hH1, f1, enterK_eq m1]
      rfl
    · exact s1.trans s2
  · rw [if_neg h24] at m1
    generalize bump x = y at m1
    apply pure_of _ (d_law_spans _ _ _ _ _ H) rfl
    rotate_left 2
    · simp (disch := first | with_reducible rfl | assumption | omega | rfl | (simp only [go_sem]; first | done | omega)) only [go_sem, ↓reduceIte, reduceCtorEq, Nat.reduceEqDiff, Nat.reduceAdd, Nat.reduceSub, Nat.reduceMul, Nat.reduceDiv, Nat.reduceMod, Nat.reduceLeDiff, Nat.reduceLT, Nat.reduceBEq, Int.reduceEq, Int.reduceBEq, Int.reduceBNe, Int.reduceLT, Int.reduceLE, Int.reduceAdd, Int.reduceSub, Int.reduceNeg, Int.reduceToNat, Int.reducePow, Nat.reducePow, Int.reduceMul, Int.reduceDiv, ↓s_law_spans, hH1, f1, enterK_eq m1]
      rfl
    · exact s1.trans s2

set_option maxHeartbeats 2000000 in
theorem q_RowsSpans (n : Int) (kv rv : Value) (kl rl : List Int) (l : List Cl) (w : Value) (H : AHeap) (ok : OkH H) (hk : KR H kv kl) (hr : KR H rv rl) (hw : Rd ECl H w l) (hn : ∀ c ∈ l, (0 ≤ c.u ∧ c.u < 18446744073709551616) ∧ (-9223372036854775808 ≤ c.i ∧ c.i < 9223372036854775808)) :
    ∃ H', CC F.law_RowsSpans [tbV n kv rv, w] H = some (.bool true, H') := by
  obtain ⟨H1, hH1⟩ : ∃ H1, H.push (.cells [.int .i64 n, kv, rv] T.api_Table true) = H1 := ⟨_, rfl⟩
  have s1 : Still H H1 := by rw [← hH1]; exact (Fr.refl H).push _
  have f1 : H1.f H.n = .cells [.int .i64 n, kv, rv] T.api_Table true := by rw [← hH1]; exact push_f_eq rfl
  have hk1 := hk.still s1
  have hr1 := hr.still s1
  have hw1 := hw.still s1
  have sm := q_small n kv rv kl.length rl.length l w H1 hk.1.lenS hr.1.lenS hk.one hr.one hw1
  have lk := hk.1.lenS
  have lw := hw.lenS
  cases h0 : smallP kl.length rl.length l with
  | false =>
    rw [h0] at sm
    refine any_of (H1 := H1) (d_law_RowsSpans _ _ H ?_)
    simp (disch := first | with_reducible rfl | assumption | omega | rfl | (simp only [go_sem]; first | done | omega)) only [go_sem, ↓reduceIte, reduceCtorEq, Nat.reduceEqDiff, Nat.reduceAdd, Nat.reduceSub, Nat.reduceMul, Nat.reduceDiv, Nat.reduceMod, Nat.reduceLeDiff, Nat.reduceLT, Nat.reduceBEq, Int.reduceEq, Int.reduceBEq, Int.reduceBNe, Int.reduceLT, Int.reduceLE, Int.reduceAdd, Int.reduceSub, Int.reduceNeg, Int.reduceToNat, Int.reducePow, Nat.reducePow, Int.reduceMul, Int.reduceDiv, ↓s_law_RowsSpans, hH1, f1, enterK_eq sm]
  | true =>
  rw [h0] at sm
  obtain ⟨p1, p2, p3, p4⟩ := smallP_ok h0
  have hc : ∀ c ∈ l, CellOk c := fun c hc => ⟨(hn c hc).1, (hn c hc).2, by have := p4 c hc; omega⟩
  have m1 := q_valid n kv rv kl rl H1 hk1 hr1
  have m2 := q_first n kv rv kl rl l w H1 hk1 hr1 hw1 (by omega) (by omega)
  have bad := fun h => q_spans_bad n kv rv kl rl l w H1 hk1 hr1 hw1 (by omega) h
  have good := fun h => q_spans n kv rv kl rl l w H1 (s1.ok ok) hk1 hr1 hw1 (by omega) hc h
  cases hv : validP n kl rl with
  | false =>
    rw [hv] at m1
    have bad := bad (by unfold spanOk; rw [hv, Bool.false_and])
    refine any_of (H1 := H1) (d_law_RowsSpans _ _ H ?_)
    simp (disch := first | with_reducible rfl | assumption | omega | rfl | (simp only [go_sem]; first | done | omega)) only [go_sem, ↓reduceIte, reduceCtorEq, Nat.reduceEqDiff, Nat.reduceAdd, Nat.reduceSub, Nat.reduceMul, Nat.reduceDiv, Nat.reduceMod, Nat.reduceLeDiff, Nat.reduceLT, Nat.reduceBEq, Int.reduceEq, Int.reduceBEq, Int.reduceBNe, Int.reduceLT, Int.reduceLE, Int.reduceAdd, Int.reduceSub, Int.reduceNeg, Int.reduceToNat, Int.reducePow, Nat.reducePow, Int.reduceMul, Int.reduceDiv, ↓s_law_RowsSpans, hH1, f1, enterK_eq sm, enterK_eq m1, enterK_eq bad]
  | true =>
  rw [hv] at m1
  by_cases h2 : (kl.length : Int) < (l.length : Int)
  · have bad := bad (by unfold spanOk; rw [decide_eq_false (show ¬ l.length ≤ kl.length by omega), Bool.false_and, Bool.and_false])
    refine any_of (H1 := H1) (d_law_RowsSpans _ _ H ?_)
    simp (disch := first | with_reducible rfl | assumption | omega | rfl | (simp only [go_sem]; first | done | omega)) only [go_sem, ↓reduceIte, reduceCtorEq, Nat.reduceEqDiff, Nat.reduceAdd, Nat.reduceSub, Nat.reduceMul, Nat.reduceDiv, Nat.reduceMod, Nat.reduceLeDiff, Nat.reduceLT, Nat.reduceBEq, Int.reduceEq, Int.reduceBEq, Int.reduceBNe, Int.reduceLT, Int.reduceLE, Int.reduceAdd, Int.reduceSub, Int.reduceNeg, Int.reduceToNat, Int.reducePow, Nat.reducePow, Int.reduceMul, Int.reduceDiv, ↓s_law_RowsSpans, hH1, f1, enterK_eq sm, enterK_eq m1, lk, lw, h2, enterK_eq bad]
  have hle : l.length ≤ kl.length := by omega
  have ef : firstP l (kl ++ rl) = are2 l kl := by
    unfold firstP
    rw [decide_eq_true (show l.length ≤ (kl ++ rl).length by simp; omega), Bool.true_and, are2_app l kl rl hle]
  rw [ef] at m2
  cases ha : are2 l kl with
  | false =>
    rw [ha] at m2
    have bad := bad (by unfold spanOk; rw [ha, Bool.and_false, Bool.and_false])
    refine any_of (H1 := H1) (d_law_RowsSpans _ _ H ?_)
    simp (disch := first | with_reducible rfl | assumption | omega | rfl | (simp only [go_sem]; first | done | omega)) only [go_sem, ↓reduceIte, reduceCtorEq, Nat.reduceEqDiff, Nat.reduceAdd, Nat.reduceSub, Nat.reduceMul, Nat.reduceDiv, Nat.reduceMod, Nat.reduceLeDiff, Nat.reduceLT, Nat.reduceBEq, Int.reduceEq, Int.reduceBEq, Int.reduceBNe, Int.reduceLT, Int.reduceLE, Int.reduceAdd, Int.reduceSub, Int.reduceNeg, Int.reduceToNat, Int.reducePow, Nat.reducePow, Int.reduceMul, Int.reduceDiv, ↓s_law_RowsSpans, hH1, f1, enterK_eq sm, enterK_eq m1, lk, lw, h2, enterK_eq m2, enterK_eq bad]
  | true =>
  rw [ha] at m2
  obtain ⟨g1, g2⟩ := good (by unfold spanOk; rw [hv, ha, decide_eq_true hle]; rfl)
  have hvn := validP_n hv
  have cA : ∀ H, xconv Tryd.prog T.int T.uint8 (.int .i64 n) H = some (.int .u8 (((n.toNat : Nat) : Int) % 256), H) := fun H => by rw [x_int_uint8, wrapU8, show ((n.toNat : Nat) : Int) = n by omega]
  obtain ⟨H2, hH2⟩ : ∃ H2, H1.push (.cells [.int .u8 (((n.toNat : Nat) : Int) % 256)] T.uint8 true) = H2 := ⟨_, rfl⟩
  obtain ⟨s2, sx⟩ := one_str n.toNat hH2
  have m3 := q_joined l (by omega) hc w [by8 n.toNat] H2 (hw1.still s2) (by simp)
  have m3 : CC F.law_joined [.string (mk [by8 n.toNat]), w] H2 = some (.string (mk (by8 n.toNat :: encs l)), H2) := m3
  -- the table and the cells in the later heap
  obtain ⟨g1, g2⟩ := q_spans n kv rv kl rl l w H2 ((s1.trans s2).ok ok) (hk1.still s2) (hr1.still s2) (hw1.still s2) (by omega) hc (by unfold spanOk; rw [hv, ha, decide_eq_true hle]; rfl)
  have f2 : H2.f H.n = .cells [.int .i64 n, kv, rv] T.api_Table true := by
    rw [s2.f (by rw [← hH1]; exact Nat.lt_succ_self _) fun h => h]; exact f1
  have hxl : (by8 n.toNat :: encs l).length ≤ 100000 := by have := encs_len hc; simp; omega
  have m4 := q_behind (by8 n.toNat :: encs l) hxl H2
  generalize by8 n.toNat :: encs l = x at m3 g1 g2 m4 hxl
  by_cases h24 : 24 < (x.length : Int)
  · have g1 := g1 (by omega)
    refine any_of (H1 := H2) (d_law_RowsSpans _ _ H ?_)
    simp (disch := first | with_reducible rfl | assumption | omega | rfl | (simp only [go_sem]; first | done | omega)) only [go_sem, ↓reduceIte, reduceCtorEq, Nat.reduceEqDiff, Nat.reduceAdd, Nat.reduceSub, Nat.reduceMul, Nat.reduceDiv, Nat.reduceMod, Nat.reduceLeDiff, Nat.reduceLT, Nat.reduceBEq, Int.reduceEq, Int.reduceBEq, Int.reduceBNe, Int.reduceLT, Int.reduceLE, Int.reduceAdd, Int.reduceSub, Int.reduceNeg, Int.reduceToNat, Int.reducePow, Nat.reducePow, Int.reduceMul, Int.reduceDiv, ↓s_law_RowsSpans, hH1, f1, enterK_eq sm, enterK_eq m1, lk, lw, h2, enterK_eq m2, cA, hH2, sx, enterK_eq m3, bl_mk, h24, f2, enterK_eq g1]
  · have g2 := g2 (by omega)
    generalize bump x = y at g2 m4
    refine any_of (H1 := H2) (d_law_RowsSpans _ _ H ?_)
    simp (disch := first | with_reducible rfl | assumption | omega | rfl | (simp only [go_sem]; first | done | omega)) only [go_sem, ↓reduceIte, reduceCtorEq, Nat.reduceEqDiff, Nat.reduceAdd, Nat.reduceSub, Nat.reduceMul, Nat.reduceDiv, Nat.reduceMod, Nat.reduceLeDiff, Nat.reduceLT, Nat.reduceBEq, Int.reduceEq, Int.reduceBEq, Int.reduceBNe, Int.reduceLT, Int.reduceLE, Int.reduceAdd, Int.reduceSub, Int.reduceNeg, Int.reduceToNat, Int.reducePow, Nat.reducePow, Int.reduceMul, Int.reduceDiv, ↓s_law_RowsSpans, hH1, f1, enterK_eq sm, enterK_eq m1, lk, lw, h2, enterK_eq m2, cA, hH2, sx, enterK_eq m3, bl_mk, h24, f2, enterK_eq m4, enterK_eq g2]

end Go.Proofs.YtlmhioanjmhaiaaDoor

/-
  Chapter 40: Key, Row.
  Conditions: none. By an AI agent.
-/
set_option maxRecDepth 10000
set_option linter.unusedSimpArgs false
set_option linter.unusedVariables false
namespace Go.Proofs.YtlmhioanjmhaiaaDoor
open Go Eng

abbrev CR (H : AHeap) (v : Value) (l : List Cl) : Prop := RdS ECl T.api_Cell H v l

/-- The byte that a key begins with, as a row of its own. -/
theorem x_num {n : Int} (h1 : 1 ≤ n) : ∀ H, xconv Tryd.prog T.int T.uint8 (.int .i64 n) H = some (.int .u8 (((n.toNat : Nat) : Int) % 256), H) := fun H => by
  rw [x_int_uint8, wrapU8, show ((n.toNat : Nat) : Int) = n by omega]
theorem grw_num {n : Int} {H1 H2 : AHeap} (hH2 : H1.push (.cells [.int .u8 (((n.toNat : Nat) : Int) % 256)] T.uint8 true) = H2) : Grw H1 H2 (.slice (some ⟨H1.n, 0, none⟩) 1 2) [by8 n.toNat] := by
  have sB : Still H1 H2 := by rw [← hH2]; exact (Fr.refl H1).push _
  have f2 : H2.f H1.n = .cells (EB.cells [by8 n.toNat]) T.uint8 true := by rw [cells_one, ← hH2]; exact push_f_eq rfl
  exact ⟨sB, newB (l := [by8 n.toNat]) (by rw [← hH2]; exact Nat.lt_succ_self _) f2, fun b h => by cases h; exact Nat.le_refl _, .inr (.inr ⟨H1.n, 0, 1, rfl⟩)⟩
theorem grw_nil (H : AHeap) : Grw H H (.slice none 0 0) [] :=
  Since.grw ⟨Fr.refl H, .inl ⟨rfl, rfl⟩, fun b h => by cases h⟩

/-- A part of a slice is the same in a later heap. -/
theorem slS_still {e e' : TypeId} {sz : Nat} {H H' : AHeap} {v : Value} (hw : SlOk e H v) (s : Still H H') {lo hi mx : Option Value} : slS e' sz v lo hi mx H' = slS e' sz v lo hi mx H := by
  rcases hw with rfl | ⟨b, o, n, code, rfl, _, _, hb⟩
  · rfl
  · simp only [slS, s.f hb fun h => h]

def keyOk (n : Int) (kl rl : List Int) (l : List Cl) : Bool := validP n kl rl && areP l kl

theorem q_Key (n : Int) (kv rv : Value) (kl rl : List Int) (l : List Cl) (w : Value) (H : AHeap) (ok : OkH H) (hk : KR H kv kl) (hr : KR H rv rl) (hw : CR H w l) (hl : l.length ≤ 100) (hc : ∀ c ∈ l, CellOk c) :
    CC F.rows_Key [tbV n kv rv, w] H = some (if keyOk n kl rl l = true then (if 24 < (by8 n.toNat :: encs l).length then .tuple #[.string (mk []), .int .i64 5] else .tuple #[.string (mk (by8 n.toNat :: encs l)), .int .i64 0]) else .tuple #[.string (mk []), .int .i64 2], H) := by
  obtain ⟨H1, hH1⟩ : ∃ H1, H.push (.cells [.int .i64 n, kv, rv] T.api_Table true) = H1 := ⟨_, rfl⟩
  have s1 : Still H H1 := by rw [← hH1]; exact (Fr.refl H).push _
  have f1 : H1.f H.n = .cells [.int .i64 n, kv, rv] T.api_Table true := by rw [← hH1]; exact push_f_eq rfl
  have m1 := q_Valid n kv rv kl rl H1 (hk.still s1) (hr.still s1)
  unfold keyOk
  cases hv : validP n kl rl with
  | false =>
    rw [hv] at m1
    rw [Bool.false_and, if_neg (by decide)]
    apply pure_of _ (d_rows_Key _ _ H) rfl
    rotate_left 2
    · simp (disch := first | with_reducible rfl | assumption | omega | rfl | (simp only [go_sem]; first | done | omega)) only [go_sem, ↓reduceIte, reduceCtorEq, Nat.reduceEqDiff, Nat.reduceAdd, Nat.reduceSub, Nat.reduceMul, Nat.reduceDiv, Nat.reduceMod, Nat.reduceLeDiff, Nat.reduceLT, Nat.reduceBEq, Int.reduceEq, Int.reduceBEq, Int.reduceBNe, Int.reduceLT, Int.reduceLE, Int.reduceAdd, Int.reduceSub, Int.reduceNeg, Int.reduceToNat, Int.reducePow, Nat.reducePow, Int.reduceMul, Int.reduceDiv, ↓s_rows_Key, hH1, f1, ↓enterK_eq m1, enterK_eq m1]
      rfl
    · exact s1
  | true =>
  rw [hv] at m1
  rw [Bool.true_and]
  have m2 := q_are l kl w kv H1 (hw.still s1).1 (hk.still s1) (by omega)
  cases ha : areP l kl with
  | false =>
    rw [ha] at m2
    rw [if_neg (by decide)]
    apply pure_of _ (d_rows_Key _ _ H) rfl
    rotate_left 2
    · simp (disch := first | with_reducible rfl | assumption | omega | rfl | (simp only [go_sem]; first | done | omega)) only [go_sem, ↓reduceIte, reduceCtorEq, Nat.reduceEqDiff, Nat.reduceAdd, Nat.reduceSub, Nat.reduceMul, Nat.reduceDiv, Nat.reduceMod, Nat.reduceLeDiff, Nat.reduceLT, Nat.reduceBEq, Int.reduceEq, Int.reduceBEq, Int.reduceBNe, Int.reduceLT, Int.reduceLE, Int.reduceAdd, Int.reduceSub, Int.reduceNeg, Int.reduceToNat, Int.reducePow, Nat.reducePow, Int.reduceMul, Int.reduceDiv, ↓s_rows_Key, hH1, f1, ↓enterK_eq m1, enterK_eq m1, ↓enterK_eq m2, enterK_eq m2]
      rfl
    · exact s1
  | true =>
  rw [ha] at m2
  rw [if_pos rfl]
  have cA := x_num (validP_n hv).1
  obtain ⟨H2, hH2⟩ : ∃ H2, H1.push (.cells [.int .u8 (((n.toNat : Nat) : Int) % 256)] T.uint8 true) = H2 := ⟨_, rfl⟩
  obtain ⟨H3, m3, s3⟩ := q_puts l hl hc w (.slice (some ⟨H1.n, 0, none⟩) 1 2) [by8 n.toNat] H1 H2 (s1.ok ok) (hw.still s1).1 (grw_num hH2) (by simp)
  have m3 : CC F.rows_puts [.slice (some ⟨H1.n, 0, none⟩) 1 2, w] H2 = some (.string (mk (by8 n.toNat :: encs l)), H3) := m3
  generalize by8 n.toNat :: encs l = x at m3 ⊢
  by_cases h24 : 24 < (x.length : Int)
  · rw [if_pos (by omega)]
    apply pure_of _ (d_rows_Key _ _ H) rfl
    rotate_left 2
    · simp (disch := first | with_reducible rfl | assumption | omega | rfl | (simp only [go_sem]; first | done | omega)) only [go_sem, ↓reduceIte, reduceCtorEq, Nat.reduceEqDiff, Nat.reduceAdd, Nat.reduceSub, Nat.reduceMul, Nat.reduceDiv, Nat.reduceMod, Nat.reduceLeDiff, Nat.reduceLT, Nat.reduceBEq, Int.reduceEq, Int.reduceBEq, Int.reduceBNe, Int.reduceLT, Int.reduceLE, Int.reduceAdd, Int.reduceSub, Int.reduceNeg, Int.reduceToNat, Int.reducePow, Nat.reducePow, Int.reduceMul, Int.reduceDiv, ↓s_rows_Key, hH1, f1, ↓enterK_eq m1, enterK_eq m1, ↓enterK_eq m2, enterK_eq m2, cA, hH2, ↓enterK_eq m3, enterK_eq m3, bl_mk, h24]
      rfl
    · exact s1.trans s3
  · rw [if_neg (by omega)]
    apply pure_of _ (d_rows_Key _ _ H) rfl
    rotate_left 2
    · simp (disch := first | with_reducible rfl | assumption | omega | rfl | (simp only [go_sem]; first | done | omega)) only [go_sem, ↓reduceIte, reduceCtorEq, Nat.reduceEqDiff, Nat.reduceAdd, Nat.reduceSub, Nat.reduceMul, Nat.reduceDiv, Nat.reduceMod, Nat.reduceLeDiff, Nat.reduceLT, Nat.reduceBEq, Int.reduceEq, Int.reduceBEq, Int.reduceBNe, Int.reduceLT, Int.reduceLE, Int.reduceAdd, Int.reduceSub, Int.reduceNeg, Int.reduceToNat, Int.reducePow, Nat.reducePow, Int.reduceMul, Int.reduceDiv, ↓s_rows_Key, hH1, f1, ↓enterK_eq m1, enterK_eq m1, ↓enterK_eq m2, enterK_eq m2, cA, hH2, ↓enterK_eq m3, enterK_eq m3, bl_mk, h24]
      rfl
    · exact s1.trans s3

def rowOk (n : Int) (kl rl : List Int) (l : List Cl) : Bool := validP n kl rl && areP l (kl ++ rl)
def keyB (n : Int) (kl : List Int) (l : List Cl) : List UInt8 := by8 n.toNat :: encs (l.take kl.length)
def valB (kl : List Int) (l : List Cl) : List UInt8 := encs (l.drop kl.length)

set_option maxHeartbeats 1000000 in
theorem q_Row (n : Int) (kv rv : Value) (kl rl : List Int) (l : List Cl) (w : Value) (H : AHeap) (ok : OkH H) (hk : KR H kv kl) (hr : KR H rv rl) (hw : CR H w l) (hl : l.length ≤ 100) (hc : ∀ c ∈ l, CellOk c) :
    CC F.rows_Row [tbV n kv rv, w] H = some (if rowOk n kl rl l = true then (if 24 < (keyB n kl l).length ∨ 40 < (valB kl l).length then .tuple #[.string (mk []), .string (mk []), .int .i64 5] else .tuple #[.string (mk (keyB n kl l)), .string (mk (valB kl l)), .int .i64 0]) else .tuple #[.string (mk []), .string (mk []), .int .i64 2], H) := by
  obtain ⟨H1, hH1⟩ : ∃ H1, H.push (.cells [.int .i64 n, kv, rv] T.api_Table true) = H1 := ⟨_, rfl⟩
  have s1 : Still H H1 := by rw [← hH1]; exact (Fr.refl H).push _
  have f1 : H1.f H.n = .cells [.int .i64 n, kv, rv] T.api_Table true := by rw [← hH1]; exact push_f_eq rfl
  have n1 : H.n < H1.n := by rw [← hH1]; exact Nat.lt_succ_self _
  have lk := hk.1.lenS
  have m1 := q_Valid n kv rv kl rl H1 (hk.still s1) (hr.still s1)
  unfold rowOk
  cases hv : validP n kl rl with
  | false =>
    rw [hv] at m1
    rw [Bool.false_and, if_neg (by decide)]
    apply pure_of _ (d_rows_Row _ _ H) rfl
    rotate_left 2
    · simp (disch := first | with_reducible rfl | assumption | omega | rfl | (simp only [go_sem]; first | done | omega)) only [go_sem, ↓reduceIte, reduceCtorEq, Nat.reduceEqDiff, Nat.reduceAdd, Nat.reduceSub, Nat.reduceMul, Nat.reduceDiv, Nat.reduceMod, Nat.reduceLeDiff, Nat.reduceLT, Nat.reduceBEq, Int.reduceEq, Int.reduceBEq, Int.reduceBNe, Int.reduceLT, Int.reduceLE, Int.reduceAdd, Int.reduceSub, Int.reduceNeg, Int.reduceToNat, Int.reducePow, Nat.reducePow, Int.reduceMul, Int.reduceDiv, ↓s_rows_Row, hH1, f1, ↓enterK_eq m1, enterK_eq m1]
      rfl
    · exact s1
  | true =>
  rw [hv] at m1
  rw [Bool.true_and]
  have hvn := validP_n hv
  have h1k : 1 ≤ kl.length := by
    unfold validP at hv
    simp only [Bool.and_eq_true, decide_eq_true_eq] at hv
    exact hv.2.2.1
  obtain ⟨ak, ck, hkv⟩ := hk.1.shape
  obtain ⟨ar, cr, hrv⟩ := hr.1.shape
  obtain ⟨H2, hH2⟩ : ∃ H2, H1.push (.cells [kv, rv] T.sl_api_CellKind true) = H2 := ⟨_, rfl⟩
  have s2 : Still H1 H2 := by rw [← hH2]; exact (Fr.refl H1).push _
  have f2 : H2.f H1.n = .cells [kv, rv] T.sl_api_CellKind true := by rw [← hH2]; exact push_f_eq rfl
  have n2 : H1.n < H2.n := by rw [← hH2]; exact Nat.lt_succ_self _
  obtain ⟨v3, H3, m3, r3, s3⟩ := q_Concat H1.n kv rv kl rl H2 n2 f2 ((hk.still s1).still s2) ((hr.still s1).still s2) h1k hvn.2.2.1 hvn.2.2.2
  have s03 := (s1.trans s2).trans s3
  have m4 := q_are l (kl ++ rl) w v3 H3 (hw.still s03).1 r3 (by omega)
  cases ha : areP l (kl ++ rl) with
  | false =>
    rw [ha] at m4
    rw [if_neg (by decide)]
    subst hkv hrv
    apply pure_of _ (d_rows_Row _ _ H) rfl
    rotate_left 2
    · simp (disch := first | with_reducible rfl | assumption | omega | rfl | (simp only [go_sem]; first | done | omega)) only [go_sem, ↓reduceIte, reduceCtorEq, Nat.reduceEqDiff, Nat.reduceAdd, Nat.reduceSub, Nat.reduceMul, Nat.reduceDiv, Nat.reduceMod, Nat.reduceLeDiff, Nat.reduceLT, Nat.reduceBEq, Int.reduceEq, Int.reduceBEq, Int.reduceBNe, Int.reduceLT, Int.reduceLE, Int.reduceAdd, Int.reduceSub, Int.reduceNeg, Int.reduceToNat, Int.reducePow, Nat.reducePow, Int.reduceMul, Int.reduceDiv, ↓s_rows_Row, hH1, f1, ↓enterK_eq m1, enterK_eq m1, hH2, ↓enterK_eq m3, enterK_eq m3, ↓enterK_eq m4, enterK_eq m4]
      rfl
    · exact s03
  | true =>
  rw [ha] at m4
  rw [if_pos rfl]
  have hll : l.length = kl.length + rl.length := by
    unfold areP at ha
    simp only [Bool.and_eq_true, decide_eq_true_eq] at ha
    simpa using ha.1
  have f3 : H3.f H.n = .cells [.int .i64 n, kv, rv] T.api_Table true := by rw [(s2.trans s3).f n1 fun h => h]; exact f1
  have cA := x_num hvn.1
  obtain ⟨H4, hH4⟩ : ∃ H4, H3.push (.cells [.int .u8 (((n.toNat : Nat) : Int) % 256)] T.uint8 true) = H4 := ⟨_, rfl⟩
  have s4 : Still H3 H4 := by rw [← hH4]; exact (Fr.refl H3).push _
  have f4 : H4.f H.n = .cells [.int .i64 n, kv, rv] T.api_Table true := by rw [((s2.trans s3).trans s4).f n1 fun h => h]; exact f1
  obtain ⟨k5, a5', r5, _⟩ := (hw.still s03).to (sz := 5) rfl (j := kl.length) (q := .i64) (by omega)
  have a5 : slS T.api_Cell 5 w none (some (.int .i64 (kl.length : Int))) none H4 = some k5 := by
    rw [slS_still (hw.still s03).2 s4]; exact a5'
  obtain ⟨H5, m5, s5⟩ := q_puts (l.take kl.length) (by simp; omega) (fun c h => hc c (List.mem_of_mem_take h)) k5 (.slice (some ⟨H3.n, 0, none⟩) 1 2) [by8 n.toNat] H3 H4 (s03.ok ok) r5.1 (grw_num hH4) (by simp)
  have m5 : CC F.rows_puts [.slice (some ⟨H3.n, 0, none⟩) 1 2, k5] H4 = some (.string (mk (keyB n kl l)), H5) := m5
  have s05 := s03.trans s5
  have f5 : H5.f H.n = .cells [.int .i64 n, kv, rv] T.api_Table true := by rw [((s2.trans s3).trans s5).f n1 fun h => h]; exact f1
  obtain ⟨k6, a6, r6, _⟩ := (hw.still s05).from (sz := 5) rfl (i := kl.length) (q := .i64) (by omega)
  obtain ⟨H6, m6, s6⟩ := q_puts (l.drop kl.length) (by simp; omega) (fun c h => hc c (List.mem_of_mem_drop h)) k6 (.slice none 0 0) [] H5 H5 (s05.ok ok) r6.1 (grw_nil H5) (by simp)
  have m6 : CC F.rows_puts [.slice none 0 0, k6] H5 = some (.string (mk (valB kl l)), H6) := m6
  have hver : ∀ k, k < H3.n → H5.ver k = H4.ver k := fun k hk => by rw [s5.ver hk fun h => h, s4.ver hk fun h => h]
  have n3 : H.n < H3.n := Nat.lt_of_lt_of_le n1 (s2.trans s3).n
  have ck1 : okV (some true) (some H.n) H4 H5 H5 H5 = true := okV_some (.inr (hver _ n3)) (.inr (Nat.le_refl _))
  have ck0 : okV (some true) none H4 H5 H5 H5 = true := okV_none (.inr (Nat.le_refl _))
  have ck2 : okV (some true) (blockOf w) H4 H5 H5 H5 = true := by
    rcases hw.2 with h' | ⟨b', o, n', code, h', _, _, h3⟩
    · rw [h']; exact ck0
    · rw [h']; exact okV_some (.inr (hver _ (Nat.lt_trans h3 n3))) (.inr (Nat.le_refl _))
  unfold blockOf at ck2
  generalize keyB n kl l = x at m5 ⊢
  generalize valB kl l = y at m6 ⊢
  have s06 := s05.trans s6
  subst hkv hrv
  by_cases h24 : 24 < (x.length : Int)
  · rw [if_pos (Or.inl (by omega))]
    apply pure_of _ (d_rows_Row _ _ H) rfl
    rotate_left 2
    · simp (disch := first | with_reducible rfl | assumption | omega | rfl | (simp only [go_sem]; first | done | omega)) only [go_sem, ↓reduceIte, reduceCtorEq, Nat.reduceEqDiff, Nat.reduceAdd, Nat.reduceSub, Nat.reduceMul, Nat.reduceDiv, Nat.reduceMod, Nat.reduceLeDiff, Nat.reduceLT, Nat.reduceBEq, Int.reduceEq, Int.reduceBEq, Int.reduceBNe, Int.reduceLT, Int.reduceLE, Int.reduceAdd, Int.reduceSub, Int.reduceNeg, Int.reduceToNat, Int.reducePow, Nat.reducePow, Int.reduceMul, Int.reduceDiv, ↓s_rows_Row, hH1, f1, ↓enterK_eq m1, enterK_eq m1, hH2, ↓enterK_eq m3, enterK_eq m3, ↓enterK_eq m4, enterK_eq m4]
      simp (disch := first | with_reducible rfl | assumption | omega | rfl | (simp only [go_sem]; first | done | omega)) only [go_sem, ↓reduceIte, reduceCtorEq, Nat.reduceEqDiff, Nat.reduceAdd, Nat.reduceSub, Nat.reduceMul, Nat.reduceDiv, Nat.reduceMod, Nat.reduceLeDiff, Nat.reduceLT, Nat.reduceBEq, Int.reduceEq, Int.reduceBEq, Int.reduceBNe, Int.reduceLT, Int.reduceLE, Int.reduceAdd, Int.reduceSub, Int.reduceNeg, Int.reduceToNat, Int.reducePow, Nat.reducePow, Int.reduceMul, Int.reduceDiv, f3, cA, hH4, f4, lk, a5, ↓enterK_eq m5, enterK_eq m5]
      simp (disch := first | with_reducible rfl | assumption | omega | rfl | (simp only [go_sem]; first | done | omega)) only [go_sem, ↓reduceIte, reduceCtorEq, Nat.reduceEqDiff, Nat.reduceAdd, Nat.reduceSub, Nat.reduceMul, Nat.reduceDiv, Nat.reduceMod, Nat.reduceLeDiff, Nat.reduceLT, Nat.reduceBEq, Int.reduceEq, Int.reduceBEq, Int.reduceBNe, Int.reduceLT, Int.reduceLE, Int.reduceAdd, Int.reduceSub, Int.reduceNeg, Int.reduceToNat, Int.reducePow, Nat.reducePow, Int.reduceMul, Int.reduceDiv, f5, lk, a6, ↓enterK_eq m6, enterK_eq m6, ck0, ck1, ck2, bl_mk, h24]
      rfl
    · exact s06
  by_cases h40 : 40 < (y.length : Int)
  · rw [if_pos (Or.inr (by omega))]
    apply pure_of _ (d_rows_Row _ _ H) rfl
    rotate_left 2
    · simp (disch := first | with_reducible rfl | assumption | omega | rfl | (simp only [go_sem]; first | done | omega)) only [go_sem, ↓reduceIte, reduceCtorEq, Nat.reduceEqDiff, Nat.reduceAdd, Nat.reduceSub, Nat.reduceMul, Nat.reduceDiv, Nat.reduceMod, Nat.reduceLeDiff, Nat.reduceLT, Nat.reduceBEq, Int.reduceEq, Int.reduceBEq, Int.reduceBNe, Int.reduceLT, Int.reduceLE, Int.reduceAdd, Int.reduceSub, Int.reduceNeg, Int.reduceToNat, Int.reducePow, Nat.reducePow, Int.reduceMul, Int.reduceDiv, ↓s_rows_Row, hH1, f1, ↓enterK_eq m1, enterK_eq m1, hH2, ↓enterK_eq m3, enterK_eq m3, ↓enterK_eq m4, enterK_eq m4]
      simp (disch := first | with_reducible rfl | assumption | omega | rfl | (simp only [go_sem]; first | done | omega)) only [go_sem, ↓reduceIte, reduceCtorEq, Nat.reduceEqDiff, Nat.reduceAdd, Nat.reduceSub, Nat.reduceMul, Nat.reduceDiv, Nat.reduceMod, Nat.reduceLeDiff, Nat.reduceLT, Nat.reduceBEq, Int.reduceEq, Int.reduceBEq, Int.reduceBNe, Int.reduceLT, Int.reduceLE, Int.reduceAdd, Int.reduceSub, Int.reduceNeg, Int.reduceToNat, Int.reducePow, Nat.reducePow, Int.reduceMul, Int.reduceDiv, f3, cA, hH4, f4, lk, a5, ↓enterK_eq m5, enterK_eq m5]
      simp (disch := first | with_reducible rfl | assumption | omega | rfl | (simp only [go_sem]; first | done | omega)) only [go_sem, ↓reduceIte, reduceCtorEq, Nat.reduceEqDiff, Nat.reduceAdd, Nat.reduceSub, Nat.reduceMul, Nat.reduceDiv, Nat.reduceMod, Nat.reduceLeDiff, Nat.reduceLT, Nat.reduceBEq, Int.reduceEq, Int.reduceBEq, Int.reduceBNe, Int.reduceLT, Int.reduceLE, Int.reduceAdd, Int.reduceSub, Int.reduceNeg, Int.reduceToNat, Int.reducePow, Nat.reducePow, Int.reduceMul, Int.reduceDiv, f5, lk, a6, ↓enterK_eq m6, enterK_eq m6, ck0, ck1, ck2, bl_mk, h24, h40]
      rfl
    · exact s06
  · rw [if_neg (show ¬ (24 < x.length ∨ 40 < y.length) by omega)]
    apply pure_of _ (d_rows_Row _ _ H) rfl
    rotate_left 2
    · simp (disch := first | with_reducible rfl | assumption | omega | rfl | (simp only [go_sem]; first | done | omega)) only [go_sem, ↓reduceIte, reduceCtorEq, Nat.reduceEqDiff, Nat.reduceAdd, Nat.reduceSub, Nat.reduceMul, Nat.reduceDiv, Nat.reduceMod, Nat.reduceLeDiff, Nat.reduceLT, Nat.reduceBEq, Int.reduceEq, Int.reduceBEq, Int.reduceBNe, Int.reduceLT, Int.reduceLE, Int.reduceAdd, Int.reduceSub, Int.reduceNeg, Int.reduceToNat, Int.reducePow, Nat.reducePow, Int.reduceMul, Int.reduceDiv, ↓s_rows_Row, hH1, f1, ↓enterK_eq m1, enterK_eq m1, hH2, ↓enterK_eq m3, enterK_eq m3, ↓enterK_eq m4, enterK_eq m4]
      simp (disch := first | with_reducible rfl | assumption | omega | rfl | (simp only [go_sem]; first | done | omega)) only [go_sem, ↓reduceIte, reduceCtorEq, Nat.reduceEqDiff, Nat.reduceAdd, Nat.reduceSub, Nat.reduceMul, Nat.reduceDiv, Nat.reduceMod, Nat.reduceLeDiff, Nat.reduceLT, Nat.reduceBEq, Int.reduceEq, Int.reduceBEq, Int.reduceBNe, Int.reduceLT, Int.reduceLE, Int.reduceAdd, Int.reduceSub, Int.reduceNeg, Int.reduceToNat, Int.reducePow, Nat.reducePow, Int.reduceMul, Int.reduceDiv, f3, cA, hH4, f4, lk, a5, ↓enterK_eq m5, enterK_eq m5]
      simp (disch := first | with_reducible rfl | assumption | omega | rfl | (simp only [go_sem]; first | done | omega)) only [go_sem, ↓reduceIte, reduceCtorEq, Nat.reduceEqDiff, Nat.reduceAdd, Nat.reduceSub, Nat.reduceMul, Nat.reduceDiv, Nat.reduceMod, Nat.reduceLeDiff, Nat.reduceLT, Nat.reduceBEq, Int.reduceEq, Int.reduceBEq, Int.reduceBNe, Int.reduceLT, Int.reduceLE, Int.reduceAdd, Int.reduceSub, Int.reduceNeg, Int.reduceToNat, Int.reducePow, Nat.reducePow, Int.reduceMul, Int.reduceDiv, f5, lk, a6, ↓enterK_eq m6, enterK_eq m6, ck0, ck1, ck2, bl_mk, h24, h40]
      rfl
    · exact s06

end Go.Proofs.YtlmhioanjmhaiaaDoor

/-
  Chapter 40: the law's own keyed and row.
  Conditions: none. By an AI agent.
-/
set_option maxRecDepth 10000
set_option linter.unusedSimpArgs false
set_option linter.unusedVariables false
namespace Go.Proofs.YtlmhioanjmhaiaaDoor
open Go Eng

/-- What Key answers. -/
def keyR (n : Int) (kl rl : List Int) (l : List Cl) : List UInt8 × Int :=
  if keyOk n kl rl l = true then (if 24 < (by8 n.toNat :: encs l).length then ([], 5) else (by8 n.toNat :: encs l, 0)) else ([], 2)
/-- What Row answers. -/
def rowR (n : Int) (kl rl : List Int) (l : List Cl) : List UInt8 × List UInt8 × Int :=
  if rowOk n kl rl l = true then (if 24 < (keyB n kl l).length ∨ 40 < (valB kl l).length then ([], [], 5) else (keyB n kl l, valB kl l, 0)) else ([], [], 2)

theorem q_Key' (n : Int) (kv rv : Value) (kl rl : List Int) (l : List Cl) (w : Value) (H : AHeap) (ok : OkH H) (hk : KR H kv kl) (hr : KR H rv rl) (hw : CR H w l) (hl : l.length ≤ 100) (hc : ∀ c ∈ l, CellOk c) :
    CC F.rows_Key [tbV n kv rv, w] H = some (.tuple #[.string (mk (keyR n kl rl l).1), .int .i64 (keyR n kl rl l).2], H) := by
  rw [q_Key n kv rv kl rl l w H ok hk hr hw hl hc]
  unfold keyR
  split
  · split <;> rfl
  · rfl
theorem q_Row' (n : Int) (kv rv : Value) (kl rl : List Int) (l : List Cl) (w : Value) (H : AHeap) (ok : OkH H) (hk : KR H kv kl) (hr : KR H rv rl) (hw : CR H w l) (hl : l.length ≤ 100) (hc : ∀ c ∈ l, CellOk c) :
    CC F.rows_Row [tbV n kv rv, w] H = some (.tuple #[.string (mk (rowR n kl rl l).1), .string (mk (rowR n kl rl l).2.1), .int .i64 (rowR n kl rl l).2.2], H) := by
  rw [q_Row n kv rv kl rl l w H ok hk hr hw hl hc]
  unfold rowR
  split
  · split <;> rfl
  · rfl

theorem q_keyed (n : Int) (kv rv : Value) (kl rl : List Int) (l : List Cl) (w : Value) (H : AHeap) (ok : OkH H) (hk : KR H kv kl) (hr : KR H rv rl) (hw : CR H w l) (hl : l.length ≤ 100) (hc : ∀ c ∈ l, CellOk c) :
    CC F.law_keyed [tbV n kv rv, w, .string (mk (keyR n kl rl l).1), .int .i64 (keyR n kl rl l).2] H = some (.bool true, H) := by
  obtain ⟨H1, hH1⟩ : ∃ H1, H.push (.cells [.int .i64 n, kv, rv] T.api_Table true) = H1 := ⟨_, rfl⟩
  have s1 : Still H H1 := by rw [← hH1]; exact (Fr.refl H).push _
  have f1 : H1.f H.n = .cells [.int .i64 n, kv, rv] T.api_Table true := by rw [← hH1]; exact push_f_eq rfl
  have m1 := q_Key' n kv rv kl rl l w H1 (s1.ok ok) (hk.still s1) (hr.still s1) (hw.still s1) hl hc
  obtain ⟨⟨x, e⟩, hx⟩ : ∃ x, keyR n kl rl l = x := ⟨_, rfl⟩
  rw [hx] at m1 ⊢
  dsimp only at m1 ⊢
  apply pure_of _ (d_law_keyed _ _ _ _ H) rfl
  rotate_left 2
  · simp (disch := first | with_reducible rfl | assumption | omega | rfl | (simp only [go_sem]; first | done | omega)) only [go_sem, ↓reduceIte, reduceCtorEq, Nat.reduceEqDiff, Nat.reduceAdd, Nat.reduceSub, Nat.reduceMul, Nat.reduceDiv, Nat.reduceMod, Nat.reduceLeDiff, Nat.reduceLT, Nat.reduceBEq, Int.reduceEq, Int.reduceBEq, Int.reduceBNe, Int.reduceLT, Int.reduceLE, Int.reduceAdd, Int.reduceSub, Int.reduceNeg, Int.reduceToNat, Int.reducePow, Nat.reducePow, Int.reduceMul, Int.reduceDiv, ↓s_law_keyed, hH1, f1, enterK_eq m1]
    rfl
  · exact s1
theorem q_row (n : Int) (kv rv : Value) (kl rl : List Int) (l : List Cl) (w : Value) (H : AHeap) (ok : OkH H) (hk : KR H kv kl) (hr : KR H rv rl) (hw : CR H w l) (hl : l.length ≤ 100) (hc : ∀ c ∈ l, CellOk c) :
    CC F.law_row [tbV n kv rv, w, .string (mk (rowR n kl rl l).1), .string (mk (rowR n kl rl l).2.1), .int .i64 (rowR n kl rl l).2.2] H = some (.bool true, H) := by
  obtain ⟨H1, hH1⟩ : ∃ H1, H.push (.cells [.int .i64 n, kv, rv] T.api_Table true) = H1 := ⟨_, rfl⟩
  have s1 : Still H H1 := by rw [← hH1]; exact (Fr.refl H).push _
  have f1 : H1.f H.n = .cells [.int .i64 n, kv, rv] T.api_Table true := by rw [← hH1]; exact push_f_eq rfl
  have m1 := q_Row' n kv rv kl rl l w H1 (s1.ok ok) (hk.still s1) (hr.still s1) (hw.still s1) hl hc
  obtain ⟨⟨x, y, e⟩, hx⟩ : ∃ x, rowR n kl rl l = x := ⟨_, rfl⟩
  rw [hx] at m1 ⊢
  dsimp only at m1 ⊢
  apply pure_of _ (d_law_row _ _ _ _ _ H) rfl
  rotate_left 2
  · simp (disch := first | with_reducible rfl | assumption | omega | rfl | (simp only [go_sem]; first | done | omega)) only [go_sem, ↓reduceIte, reduceCtorEq, Nat.reduceEqDiff, Nat.reduceAdd, Nat.reduceSub, Nat.reduceMul, Nat.reduceDiv, Nat.reduceMod, Nat.reduceLeDiff, Nat.reduceLT, Nat.reduceBEq, Int.reduceEq, Int.reduceBEq, Int.reduceBNe, Int.reduceLT, Int.reduceLE, Int.reduceAdd, Int.reduceSub, Int.reduceNeg, Int.reduceToNat, Int.reducePow, Nat.reducePow, Int.reduceMul, Int.reduceDiv, ↓s_law_row, hH1, f1, enterK_eq m1]
    rfl
  · exact s1

end Go.Proofs.YtlmhioanjmhaiaaDoor
