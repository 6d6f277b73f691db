/-
  Chapter 24: the law ModelOf runs to true.
  Conditions: none. By an AI agent.
-/
import Derived.Test.YtlagijfkkpbbnaaAl
import Derived.Test.YtlagijfkkpbbnaaDsModelOf
import Derived.Test.YtlagijfkkpbbnaaEng28
import Derived.Test.YtlagijfkkpbbnaaDec
set_option maxRecDepth 10000
set_option linter.unusedSimpArgs false
set_option linter.unusedVariables false
namespace Go.Proofs.Ytlagijfkkpbbnaa
open Go Eng

@[go_sem] theorem rp_nil {ox oy : Operand} : xbin Try.prog .eql T.p_ticketlineref24_Model ox oy (.pointer none) (.pointer none) = some (.bool true) := by kernel_rfl
@[go_sem] theorem rp_some {ox oy : Operand} {a : Addr} : xbin Try.prog .eql T.p_ticketlineref24_Model ox oy (.pointer (some a)) (.pointer none) = some (.bool false) := by kernel_rfl
@[go_sem] theorem bool_eq' {ox oy : Operand} {a b : Bool} : xbin Try.prog .eql T.bool ox oy (.bool a) (.bool b) = some (.bool (a == b)) := by
  cases a <;> cases b <;> kernel_rfl

def bigP (l : List Pr) : Bool := l.any fun a => decide (60 < ((bl a.key).length : Int)) || decide (60 < ((bl a.value).length : Int))

theorem l_Of1 (l : List Pr) (v w0 w1 w30 w31 w32 : Value) (H : AHeap) (hr : Rd EPr H v l) (hl : l.length ≤ 1000000) : ∀ (x : List Pr) (i : Nat), l.drop i = x → i ≤ l.length → ∀ K : K,
    l_law_ModelOf_1 w0 w1 v (.int .i64 i) w30 w31 w32 H (blkK [0, 1, 30, 31, 32] 2 K) = if bigP x = true then K .ret [(4, .bool true)] H else K .normal [(0, w0), (1, w1), (30, w30), (31, w31), (32, w32)] H
  | [], i, hx, hi, K => by
    have h : l.length ≤ i := List.drop_eq_nil_iff.1 hx
    have hlt : ¬ (i : Int) < (l.length : Int) := by omega
    have hlen := hr.lenS
    rw [r_law_ModelOf_1, show bigP [] = false from rfl]
    simp (disch := first | with_reducible rfl | assumption | omega | rfl | (simp only [go_sem]; first | done | omega)) only [go_sem, ↓reduceIte, reduceCtorEq, Nat.reduceEqDiff, Nat.reduceAdd, Nat.reduceSub, Nat.reduceMul, Nat.reduceDiv, Nat.reduceMod, Nat.reduceLeDiff, Nat.reduceLT, Nat.reduceBEq, Int.reduceEq, Int.reduceBEq, Int.reduceBNe, Int.reduceLT, Int.reduceLE, Int.reduceAdd, Int.reduceSub, Int.reduceNeg, Int.reduceToNat, Int.reducePow, Nat.reducePow, Int.reduceMul, Int.reduceDiv, ↓s_law_ModelOf_b1, hlen, hlt]
  | a :: x, i, hx, hi, K => by
    obtain ⟨h, hxa, hx'⟩ := drop_cons hx
    have hlt : (i : Int) < (l.length : Int) := by omega
    have hlen := hr.lenS
    obtain ⟨b1, o1, hix, hb1, hc1, _⟩ := hr.ix (q := .i64) h
    rw [hxa] at hc1
    have hix : ixS 2 v (.int .i64 i) = some (.pointer (some ⟨b1, o1, none⟩)) := hix
    have hck : cellB (H.f b1) o1 = some (.string a.key) := cutB_cell hc1 (i := 0) (by decide)
    have hcv : cellB (H.f b1) (o1 + 1) = some (.string a.value) := cutB_cell hc1 (i := 1) (by decide)
    have ih := l_Of1 l v w0 w1 w30 w31 w32 H hr hl x (i + 1) hx' h K
    rw [Int.natCast_add] at ih
    have e : bigP (a :: x) = (decide (60 < ((bl a.key).length : Int)) || decide (60 < ((bl a.value).length : Int)) || bigP x) := rfl
    rw [e, r_law_ModelOf_1]
    by_cases h1 : 60 < ((bl a.key).length : Int)
    · rw [decide_eq_true h1, Bool.true_or, Bool.true_or]
      simp (disch := first | with_reducible rfl | assumption | omega | rfl | (simp only [go_sem]; first | done | omega)) only [go_sem, ↓reduceIte, reduceCtorEq, Nat.reduceEqDiff, Nat.reduceAdd, Nat.reduceSub, Nat.reduceMul, Nat.reduceDiv, Nat.reduceMod, Nat.reduceLeDiff, Nat.reduceLT, Nat.reduceBEq, Int.reduceEq, Int.reduceBEq, Int.reduceBNe, Int.reduceLT, Int.reduceLE, Int.reduceAdd, Int.reduceSub, Int.reduceNeg, Int.reduceToNat, Int.reducePow, Nat.reducePow, Int.reduceMul, Int.reduceDiv, ↓s_law_ModelOf_b1, hlen, hlt, hix, hck, decide_eq_true h1]
    · by_cases h2 : 60 < ((bl a.value).length : Int)
      · rw [decide_eq_true h2, Bool.or_true, Bool.true_or]
        simp (disch := first | with_reducible rfl | assumption | omega | rfl | (simp only [go_sem]; first | done | omega)) only [go_sem, ↓reduceIte, reduceCtorEq, Nat.reduceEqDiff, Nat.reduceAdd, Nat.reduceSub, Nat.reduceMul, Nat.reduceDiv, Nat.reduceMod, Nat.reduceLeDiff, Nat.reduceLT, Nat.reduceBEq, Int.reduceEq, Int.reduceBEq, Int.reduceBNe, Int.reduceLT, Int.reduceLE, Int.reduceAdd, Int.reduceSub, Int.reduceNeg, Int.reduceToNat, Int.reducePow, Nat.reducePow, Int.reduceMul, Int.reduceDiv, ↓s_law_ModelOf_b1, hlen, hlt, hix, hck, decide_eq_false h1, hcv, decide_eq_true h2]
      · rw [decide_eq_false h1, decide_eq_false h2, Bool.false_or, Bool.false_or]
        simp (disch := first | with_reducible rfl | assumption | omega | rfl | (simp only [go_sem]; first | done | omega)) only [go_sem, ↓reduceIte, reduceCtorEq, Nat.reduceEqDiff, Nat.reduceAdd, Nat.reduceSub, Nat.reduceMul, Nat.reduceDiv, Nat.reduceMod, Nat.reduceLeDiff, Nat.reduceLT, Nat.reduceBEq, Int.reduceEq, Int.reduceBEq, Int.reduceBNe, Int.reduceLT, Int.reduceLE, Int.reduceAdd, Int.reduceSub, Int.reduceNeg, Int.reduceToNat, Int.reducePow, Nat.reducePow, Int.reduceMul, Int.reduceDiv, ↓s_law_ModelOf_b1, hlen, hlt, hix, hck, decide_eq_false h1, hcv, decide_eq_false h2]
        exact ih

theorem l_Of0 (a b : List Pr) (v w : Value) (H : AHeap) (ha : Rd EPr H v a) (hb : Rd EPr H w b) (hla : a.length ≤ 1000000) (hlb : b.length ≤ 1000000) (p : Nat) (hp : H.f p = .cells [v, w] T.sl_api_Pair true) (K : K) :
    l_law_ModelOf_0 v w (.slice (some ⟨p, 0, none⟩) 2 4) (.int .i64 2) (.int .i64 0) H (blkK [0, 1] 0 K) = if bigP a = true ∨ bigP b = true then K .ret [(4, .bool true)] H else K .normal [(0, v), (1, w)] H := by
  have l1 := fun w0 w1 w30 w31 w32 => l_Of1 a v w0 w1 w30 w31 w32 H ha hla a 0 rfl (by omega)
  have l2 := fun w0 w1 w30 w31 w32 => l_Of1 b w w0 w1 w30 w31 w32 H hb hlb b 0 rfl (by omega)
  have i0 : ixS 1 (.slice (some ⟨p, 0, none⟩) 2 4) (.int .i64 0) = some (.pointer (some ⟨p, 0, none⟩)) := rfl
  have i1 : ixS 1 (.slice (some ⟨p, 0, none⟩) 2 4) (.int .i64 1) = some (.pointer (some ⟨p, 1, none⟩)) := rfl
  rw [r_law_ModelOf_0]
  simp (disch := first | with_reducible rfl | assumption | omega | rfl | (simp only [go_sem]; first | done | omega)) only [go_sem, ↓reduceIte, reduceCtorEq, Nat.reduceEqDiff, Nat.reduceAdd, Nat.reduceSub, Nat.reduceMul, Nat.reduceDiv, Nat.reduceMod, Nat.reduceLeDiff, Nat.reduceLT, Nat.reduceBEq, Int.reduceEq, Int.reduceBEq, Int.reduceBNe, Int.reduceLT, Int.reduceLE, Int.reduceAdd, Int.reduceSub, Int.reduceNeg, Int.reduceToNat, Int.reducePow, Nat.reducePow, Int.reduceMul, Int.reduceDiv, ↓s_law_ModelOf_b0, i0, hp]
  refine (l1 _ _ _ _ _ _).trans ?_
  cases ba : bigP a with
  | true =>
    rw [if_pos rfl, if_pos (.inl rfl)]
    simp (disch := first | with_reducible rfl | assumption | omega | rfl | (simp only [go_sem]; first | done | omega)) only [go_sem, ↓reduceIte, reduceCtorEq, Nat.reduceEqDiff, Nat.reduceAdd, Nat.reduceSub, Nat.reduceMul, Nat.reduceDiv, Nat.reduceMod, Nat.reduceLeDiff, Nat.reduceLT, Nat.reduceBEq, Int.reduceEq, Int.reduceBEq, Int.reduceBNe, Int.reduceLT, Int.reduceLE, Int.reduceAdd, Int.reduceSub, Int.reduceNeg, Int.reduceToNat, Int.reducePow, Nat.reducePow, Int.reduceMul, Int.reduceDiv]
  | false =>
    rw [if_neg (by simp)]
    simp (disch := first | with_reducible rfl | assumption | omega | rfl | (simp only [go_sem]; first | done | omega)) only [go_sem, ↓reduceIte, reduceCtorEq, Nat.reduceEqDiff, Nat.reduceAdd, Nat.reduceSub, Nat.reduceMul, Nat.reduceDiv, Nat.reduceMod, Nat.reduceLeDiff, Nat.reduceLT, Nat.reduceBEq, Int.reduceEq, Int.reduceBEq, Int.reduceBNe, Int.reduceLT, Int.reduceLE, Int.reduceAdd, Int.reduceSub, Int.reduceNeg, Int.reduceToNat, Int.reducePow, Nat.reducePow, Int.reduceMul, Int.reduceDiv]
    rw [r_law_ModelOf_0]
    simp (disch := first | with_reducible rfl | assumption | omega | rfl | (simp only [go_sem]; first | done | omega)) only [go_sem, ↓reduceIte, reduceCtorEq, Nat.reduceEqDiff, Nat.reduceAdd, Nat.reduceSub, Nat.reduceMul, Nat.reduceDiv, Nat.reduceMod, Nat.reduceLeDiff, Nat.reduceLT, Nat.reduceBEq, Int.reduceEq, Int.reduceBEq, Int.reduceBNe, Int.reduceLT, Int.reduceLE, Int.reduceAdd, Int.reduceSub, Int.reduceNeg, Int.reduceToNat, Int.reducePow, Nat.reducePow, Int.reduceMul, Int.reduceDiv, ↓s_law_ModelOf_b0, i1, hp]
    refine (l2 _ _ _ _ _ _).trans ?_
    cases bb : bigP b with
    | true =>
      rw [if_pos rfl, if_pos (.inr rfl)]
      simp (disch := first | with_reducible rfl | assumption | omega | rfl | (simp only [go_sem]; first | done | omega)) only [go_sem, ↓reduceIte, reduceCtorEq, Nat.reduceEqDiff, Nat.reduceAdd, Nat.reduceSub, Nat.reduceMul, Nat.reduceDiv, Nat.reduceMod, Nat.reduceLeDiff, Nat.reduceLT, Nat.reduceBEq, Int.reduceEq, Int.reduceBEq, Int.reduceBNe, Int.reduceLT, Int.reduceLE, Int.reduceAdd, Int.reduceSub, Int.reduceNeg, Int.reduceToNat, Int.reducePow, Nat.reducePow, Int.reduceMul, Int.reduceDiv]
    | false =>
      rw [if_neg (by simp), if_neg (by simp)]
      simp (disch := first | with_reducible rfl | assumption | omega | rfl | (simp only [go_sem]; first | done | omega)) only [go_sem, ↓reduceIte, reduceCtorEq, Nat.reduceEqDiff, Nat.reduceAdd, Nat.reduceSub, Nat.reduceMul, Nat.reduceDiv, Nat.reduceMod, Nat.reduceLeDiff, Nat.reduceLT, Nat.reduceBEq, Int.reduceEq, Int.reduceBEq, Int.reduceBNe, Int.reduceLT, Int.reduceLE, Int.reduceAdd, Int.reduceSub, Int.reduceNeg, Int.reduceToNat, Int.reducePow, Nat.reducePow, Int.reduceMul, Int.reduceDiv]
      rw [r_law_ModelOf_0]
      simp (disch := first | with_reducible rfl | assumption | omega | rfl | (simp only [go_sem]; first | done | omega)) only [go_sem, ↓reduceIte, reduceCtorEq, Nat.reduceEqDiff, Nat.reduceAdd, Nat.reduceSub, Nat.reduceMul, Nat.reduceDiv, Nat.reduceMod, Nat.reduceLeDiff, Nat.reduceLT, Nat.reduceBEq, Int.reduceEq, Int.reduceBEq, Int.reduceBNe, Int.reduceLT, Int.reduceLE, Int.reduceAdd, Int.reduceSub, Int.reduceNeg, Int.reduceToNat, Int.reducePow, Nat.reducePow, Int.reduceMul, Int.reduceDiv, ↓s_law_ModelOf_b0]

theorem l_Of2 (w pm px : Value) (b0 : Option Nat) : ∀ (d i : Nat) (m : List Pr) (v : Value) (H : AHeap), m.length - i = d → i ≤ m.length → m.length ≤ 20000 → Own EPr H T.api_Pair v m → blockOf v = b0 → ∃ H', Fr (fun c => b0 = some c) H H' ∧ ∀ K : K,
    l_law_ModelOf_2 w v pm px (.int .i64 i) H (blkK [1, 9, 11] 4 K) = K .normal [(1, w), (9, pm), (11, px)] H'
  | 0, i, m, v, H, hd, hi, hl, ho, hb => by
    have hlt : ¬ (i : Int) < (m.length : Int) := by omega
    have hlen := ho.rd.lenS
    refine ⟨H, Fr.refl H, fun K => ?_⟩
    rw [r_law_ModelOf_2]
    simp (disch := first | with_reducible rfl | assumption | omega | rfl | (simp only [go_sem]; first | done | omega)) only [go_sem, ↓reduceIte, reduceCtorEq, Nat.reduceEqDiff, Nat.reduceAdd, Nat.reduceSub, Nat.reduceMul, Nat.reduceDiv, Nat.reduceMod, Nat.reduceLeDiff, Nat.reduceLT, Nat.reduceBEq, Int.reduceEq, Int.reduceBEq, Int.reduceBNe, Int.reduceLT, Int.reduceLE, Int.reduceAdd, Int.reduceSub, Int.reduceNeg, Int.reduceToNat, Int.reducePow, Nat.reducePow, Int.reduceMul, Int.reduceDiv, ↓s_law_ModelOf_b2, hlen, hlt]
  | d + 1, i, m, v, H, hd, hi, hl, ho, hb => by
    have h : i < m.length := by omega
    have hlt : (i : Int) < (m.length : Int) := by omega
    have hlen := ho.rd.lenS
    obtain ⟨b, o, H1, hix, hw, ho1, hbv, hbn, hn1, fr1⟩ := ho.writeV h (mk [111, 116, 104, 101, 114])
    obtain ⟨H', s', ih⟩ := l_Of2 w pm px b0 d (i + 1) _ v H1 (by simp; omega) (by simp; omega) (by simpa using hl) ho1 hb
    refine ⟨H', (fr1.mono fun c _ h => by rw [← hb, hbv, h]).then s' fun c _ h => h, fun K => ?_⟩
    have ih := ih K
    rw [Int.natCast_add] at ih
    rw [r_law_ModelOf_2]
    simp (disch := first | with_reducible rfl | assumption | omega | rfl | (simp only [go_sem]; first | done | omega)) only [go_sem, ↓reduceIte, reduceCtorEq, Nat.reduceEqDiff, Nat.reduceAdd, Nat.reduceSub, Nat.reduceMul, Nat.reduceDiv, Nat.reduceMod, Nat.reduceLeDiff, Nat.reduceLT, Nat.reduceBEq, Int.reduceEq, Int.reduceBEq, Int.reduceBNe, Int.reduceLT, Int.reduceLE, Int.reduceAdd, Int.reduceSub, Int.reduceNeg, Int.reduceToNat, Int.reducePow, Nat.reducePow, Int.reduceMul, Int.reduceDiv, ↓s_law_ModelOf_b2, hlen, hlt, hix, hw]
    exact ih

/-- A pointer to a map, or nil. -/
def pv : Option Nat → Value | none => .pointer none | some b => .pointer (some ⟨b, 0, none⟩)
/-- What Of leaves: a map, or nothing. -/
def OM (t : TypeId) (H : AHeap) (o : Option Nat) (e : Int) (l : List Pr) (lo : Nat) : Prop := (o = none ∧ e ≠ 0) ∨ ∃ b, o = some b ∧ e = 0 ∧ MdlT t H b l ∧ ∀ c, MBT t H b c → lo ≤ c

theorem OM.keep {t : TypeId} {H H' : AHeap} {o : Option Nat} {e : Int} {l : List Pr} {lo : Nat} {S : Nat → Prop} (r : OM t H o e l lo) (h : Fr S H H') (hs : ∀ c, c < H.n → S c → c < lo) : OM t H' o e l lo := by
  rcases r with r | ⟨b, ho, he, hm, hlo⟩
  · exact .inl r
  · have hb : ¬ S b := fun h' => by have := hs b (hm.blk (.inl rfl)) h'; have := hlo b (.inl rfl); omega
    refine .inr ⟨b, ho, he, hm.keep h hb fun v hv c hc h' => ?_, fun c hc => hlo c ?_⟩
    · have := hlo c (.inr ⟨v, hv, hc⟩)
      have := hs c (hm.blk (.inr ⟨v, hv, hc⟩)) h'
      omega
    · have hf : H'.f b = H.f b := h.f (hm.blk (.inl rfl)) hb
      exact hc.imp id fun ⟨v, hv, hb⟩ => ⟨v, by rw [← hf]; exact hv, hb⟩

theorem q_OfM (l : List Pr) (v : Value) (H : AHeap) (hr : Rd EPr H v l) (hl : l.length ≤ 20000) : ∃ o H', CC F.model_Of [v] H = some (.tuple #[pv o, .int .i64 (ofErr none l)], H') ∧ OM T.model_Model H' o (ofErr none l) l H.n ∧ Still H H' := by
  by_cases h : ofErr none l = 0
  · obtain ⟨b, H', h1, h2, h3, _, h5⟩ := q_Of l v H hr h hl
    exact ⟨some b, H', by rw [h]; exact h1, .inr ⟨b, rfl, h, h2, h5⟩, h3⟩
  · exact ⟨none, H, q_Of_err l v H hr (by omega) h, .inl ⟨rfl, h⟩, Fr.refl H⟩
theorem q_OfR (l : List Pr) (v : Value) (H : AHeap) (hr : Rd EPr H v l) (hl : l.length ≤ 20000) : ∃ o H', CC F.ref24_Of [v] H = some (.tuple #[pv o, .int .i64 (ofErr none l)], H') ∧ OM T.ref24_Model H' o (ofErr none l) l H.n ∧ Still H H' := by
  by_cases h : ofErr none l = 0
  · obtain ⟨b, H', h1, h2, h3, _, h5⟩ := q_ROf l v H hr h hl
    exact ⟨some b, H', by rw [h]; exact h1, .inr ⟨b, rfl, h, h2, h5⟩, h3⟩
  · exact ⟨none, H, q_ROf_err l v H hr (by omega) h, .inl ⟨rfl, h⟩, Fr.refl H⟩

theorem q_Len_nil (H : AHeap) : CC F.model_Model_Len [.pointer none] H = some (.int .i64 0, H) := by
  apply pure_of _ (d_model_Model_Len _ H) rfl
  rotate_left 2
  · simp (disch := first | with_reducible rfl | assumption | omega | rfl | (simp only [go_sem]; first | done | omega)) only [go_sem, ↓reduceIte, reduceCtorEq, Nat.reduceEqDiff, Nat.reduceAdd, Nat.reduceSub, Nat.reduceMul, Nat.reduceDiv, Nat.reduceMod, Nat.reduceLeDiff, Nat.reduceLT, Nat.reduceBEq, Int.reduceEq, Int.reduceBEq, Int.reduceBNe, Int.reduceLT, Int.reduceLE, Int.reduceAdd, Int.reduceSub, Int.reduceNeg, Int.reduceToNat, Int.reducePow, Nat.reducePow, Int.reduceMul, Int.reduceDiv, ↓s_model_Model_Len, mp_nil]
    rfl
  · (repeat (first | exact Fr.refl _ | refine Fr.push ?_ _ | refine Fr.set ?_ _ _ (by intro h; first | omega | (simp only [go_sem] at h; omega))))
theorem q_Pairs_nil (H : AHeap) : CC F.model_Model_Pairs [.pointer none] H = some (.slice none 0 0, H) := by
  apply pure_of _ (d_model_Model_Pairs _ H) rfl
  rotate_left 2
  · simp (disch := first | with_reducible rfl | assumption | omega | rfl | (simp only [go_sem]; first | done | omega)) only [go_sem, ↓reduceIte, reduceCtorEq, Nat.reduceEqDiff, Nat.reduceAdd, Nat.reduceSub, Nat.reduceMul, Nat.reduceDiv, Nat.reduceMod, Nat.reduceLeDiff, Nat.reduceLT, Nat.reduceBEq, Int.reduceEq, Int.reduceBEq, Int.reduceBNe, Int.reduceLT, Int.reduceLE, Int.reduceAdd, Int.reduceSub, Int.reduceNeg, Int.reduceToNat, Int.reducePow, Nat.reducePow, Int.reduceMul, Int.reduceDiv, ↓s_model_Model_Pairs, mp_nil]
    rfl
  · (repeat (first | exact Fr.refl _ | refine Fr.push ?_ _ | refine Fr.set ?_ _ _ (by intro h; first | omega | (simp only [go_sem] at h; omega))))
theorem q_Equal_nn (H : AHeap) : CC F.model_Equal [.pointer none, .pointer none] H = some (.bool true, H) := by
  have h1 := q_Len_nil H
  have h2 := q_Pairs_nil H
  have h3 := q_eqP [] [] (.slice none 0 0) (.slice none 0 0) H (.inl ⟨rfl, rfl⟩) (.inl ⟨rfl, rfl⟩) (by simp)
  rw [decide_eq_true rfl] at h3
  apply pure_of _ (d_model_Equal _ _ H) rfl
  rotate_left 2
  · simp (disch := first | with_reducible rfl | assumption | omega | rfl | (simp only [go_sem]; first | done | omega)) only [go_sem, ↓reduceIte, reduceCtorEq, Nat.reduceEqDiff, Nat.reduceAdd, Nat.reduceSub, Nat.reduceMul, Nat.reduceDiv, Nat.reduceMod, Nat.reduceLeDiff, Nat.reduceLT, Nat.reduceBEq, Int.reduceEq, Int.reduceBEq, Int.reduceBNe, Int.reduceLT, Int.reduceLE, Int.reduceAdd, Int.reduceSub, Int.reduceNeg, Int.reduceToNat, Int.reducePow, Nat.reducePow, Int.reduceMul, Int.reduceDiv, ↓s_model_Equal, mp_nil, bne_self_eq_false, c_model_Model_Len, enterK_eq h1, enterK_eq h2, enterK_eq h3]
    rfl
  · (repeat (first | exact Fr.refl _ | refine Fr.push ?_ _ | refine Fr.set ?_ _ _ (by intro h; first | omega | (simp only [go_sem] at h; omega))))
theorem q_Equal_ns (b : Nat) (H : AHeap) : CC F.model_Equal [.pointer none, .pointer (some ⟨b, 0, none⟩)] H = some (.bool false, H) := by
  apply pure_of _ (d_model_Equal _ _ H) rfl
  rotate_left 2
  · simp (disch := first | with_reducible rfl | assumption | omega | rfl | (simp only [go_sem]; first | done | omega)) only [go_sem, ↓reduceIte, reduceCtorEq, Nat.reduceEqDiff, Nat.reduceAdd, Nat.reduceSub, Nat.reduceMul, Nat.reduceDiv, Nat.reduceMod, Nat.reduceLeDiff, Nat.reduceLT, Nat.reduceBEq, Int.reduceEq, Int.reduceBEq, Int.reduceBNe, Int.reduceLT, Int.reduceLE, Int.reduceAdd, Int.reduceSub, Int.reduceNeg, Int.reduceToNat, Int.reducePow, Nat.reducePow, Int.reduceMul, Int.reduceDiv, ↓s_model_Equal, mp_nil, mp_some, show (true != false) = true from rfl]
    rfl
  · (repeat (first | exact Fr.refl _ | refine Fr.push ?_ _ | refine Fr.set ?_ _ _ (by intro h; first | omega | (simp only [go_sem] at h; omega))))
theorem q_Equal_sn (b : Nat) (H : AHeap) : CC F.model_Equal [.pointer (some ⟨b, 0, none⟩), .pointer none] H = some (.bool false, H) := by
  apply pure_of _ (d_model_Equal _ _ H) rfl
  rotate_left 2
  · simp (disch := first | with_reducible rfl | assumption | omega | rfl | (simp only [go_sem]; first | done | omega)) only [go_sem, ↓reduceIte, reduceCtorEq, Nat.reduceEqDiff, Nat.reduceAdd, Nat.reduceSub, Nat.reduceMul, Nat.reduceDiv, Nat.reduceMod, Nat.reduceLeDiff, Nat.reduceLT, Nat.reduceBEq, Int.reduceEq, Int.reduceBEq, Int.reduceBNe, Int.reduceLT, Int.reduceLE, Int.reduceAdd, Int.reduceSub, Int.reduceNeg, Int.reduceToNat, Int.reducePow, Nat.reducePow, Int.reduceMul, Int.reduceDiv, ↓s_model_Equal, mp_nil, mp_some, show (false != true) = true from rfl]
    rfl
  · (repeat (first | exact Fr.refl _ | refine Fr.push ?_ _ | refine Fr.set ?_ _ _ (by intro h; first | omega | (simp only [go_sem] at h; omega))))

theorem q_ModelOf (a b : List Pr) (v w : Value) (H : AHeap) (ha : Rd EPr H v a) (hb : Rd EPr H w b) : ∃ H', CC F.law_ModelOf [v, w] H = some (.bool true, H') := by
  have hla := ha.lenS
  have hlb := hb.lenS
  have hcv : ∀ {v : Value} {l : List Pr}, Rd EPr H v l → one v = true := fun h => by
    rcases h with ⟨_, rfl⟩ | ⟨_, a, k, rfl, _⟩ | ⟨b, o, c, rfl, _⟩ <;> rfl
  have ov := hcv ha
  have ow := hcv hb
  obtain ⟨va, vn, vc, hv⟩ : ∃ x n c, v = .slice x n c := by obtain ⟨x, c, h⟩ := ha.shape; exact ⟨_, _, _, h⟩
  obtain ⟨wa, wn, wc, hw⟩ : ∃ x n c, w = .slice x n c := by obtain ⟨x, c, h⟩ := hb.shape; exact ⟨_, _, _, h⟩
  subst hv
  subst hw
  by_cases h1 : 30 < (a.length : Int)
  · refine any_of (H1 := ?_) (d_law_ModelOf _ _ H ?_)
    rotate_left 1
    · simp (disch := first | with_reducible rfl | assumption | omega | rfl | (simp only [go_sem]; first | done | omega)) only [go_sem, ↓reduceIte, reduceCtorEq, Nat.reduceEqDiff, Nat.reduceAdd, Nat.reduceSub, Nat.reduceMul, Nat.reduceDiv, Nat.reduceMod, Nat.reduceLeDiff, Nat.reduceLT, Nat.reduceBEq, Int.reduceEq, Int.reduceBEq, Int.reduceBNe, Int.reduceLT, Int.reduceLE, Int.reduceAdd, Int.reduceSub, Int.reduceNeg, Int.reduceToNat, Int.reducePow, Nat.reducePow, Int.reduceMul, Int.reduceDiv, ↓s_law_ModelOf, hla, decide_eq_true h1]
      rfl
  · by_cases h2 : 30 < (b.length : Int)
    · refine any_of (H1 := ?_) (d_law_ModelOf _ _ H ?_)
      rotate_left 1
      · simp (disch := first | with_reducible rfl | assumption | omega | rfl | (simp only [go_sem]; first | done | omega)) only [go_sem, ↓reduceIte, reduceCtorEq, Nat.reduceEqDiff, Nat.reduceAdd, Nat.reduceSub, Nat.reduceMul, Nat.reduceDiv, Nat.reduceMod, Nat.reduceLeDiff, Nat.reduceLT, Nat.reduceBEq, Int.reduceEq, Int.reduceBEq, Int.reduceBNe, Int.reduceLT, Int.reduceLE, Int.reduceAdd, Int.reduceSub, Int.reduceNeg, Int.reduceToNat, Int.reducePow, Nat.reducePow, Int.reduceMul, Int.reduceDiv, ↓s_law_ModelOf, hla, hlb, decide_eq_false h1, decide_eq_true h2]
        rfl
    · generalize hH1 : H.push (.cells [.slice va vn vc, .slice wa wn wc] T.sl_api_Pair true) = H1
      have s1 : Still H H1 := by rw [← hH1]; exact (Fr.refl H).push _
      have f1 : H1.f H.n = .cells [.slice va vn vc, .slice wa wn wc] T.sl_api_Pair true := by rw [← hH1]; exact push_f_eq rfl
      have hloop0 := l_Of0 a b (.slice va vn vc) (.slice wa wn wc) H1 (ha.still s1) (hb.still s1) (by omega) (by omega) H.n f1
      by_cases hbig : bigP a = true ∨ bigP b = true
      · refine any_of (H1 := ?_) (d_law_ModelOf _ _ H ?_)
        rotate_left 1
        · simp (disch := first | with_reducible rfl | assumption | omega | rfl | (simp only [go_sem]; first | done | omega)) only [go_sem, ↓reduceIte, reduceCtorEq, Nat.reduceEqDiff, Nat.reduceAdd, Nat.reduceSub, Nat.reduceMul, Nat.reduceDiv, Nat.reduceMod, Nat.reduceLeDiff, Nat.reduceLT, Nat.reduceBEq, Int.reduceEq, Int.reduceBEq, Int.reduceBNe, Int.reduceLT, Int.reduceLE, Int.reduceAdd, Int.reduceSub, Int.reduceNeg, Int.reduceToNat, Int.reducePow, Nat.reducePow, Int.reduceMul, Int.reduceDiv, ↓s_law_ModelOf, hla, hlb, decide_eq_false h1, decide_eq_false h2, hH1]
          refine (hloop0 _).trans ?_
          rw [if_pos hbig]
          simp (disch := first | with_reducible rfl | assumption | omega | rfl | (simp only [go_sem]; first | done | omega)) only [go_sem, ↓reduceIte, reduceCtorEq, Nat.reduceEqDiff, Nat.reduceAdd, Nat.reduceSub, Nat.reduceMul, Nat.reduceDiv, Nat.reduceMod, Nat.reduceLeDiff, Nat.reduceLT, Nat.reduceBEq, Int.reduceEq, Int.reduceBEq, Int.reduceBNe, Int.reduceLT, Int.reduceLE, Int.reduceAdd, Int.reduceSub, Int.reduceNeg, Int.reduceToNat, Int.reducePow, Nat.reducePow, Int.reduceMul, Int.reduceDiv]
          rfl
      · obtain ⟨own, H2, happ, ho2, fr2, hb2⟩ := (Eng.Own.nil (E := EPr) (H := H1) (e := T.api_Pair)).appE (m := a) (sz := 2) (bytes := 32) rfl (by simp; omega) (by simp; omega) ((ha.still s1).src (sz := 2) rfl)
        have s2 : Still H1 H2 := fr2.mono fun c _ h => by unfold OnlyOf at h; cases h
        have n1 : H.n ≤ H1.n := s1.n
        have n2 : H1.n ≤ H2.n := s2.n
        obtain ⟨om, H3, hof1, om1, s3⟩ := q_OfM a own H2 ho2.rd (by omega)
        have n3 : H2.n ≤ H3.n := s3.n
        have t2 : Still H H2 := s1.still.then s2 fun _ _ h => h
        have t3 : Still H H3 := t2.still.then s3 fun _ _ h => h
        obtain ⟨ox, H4, hof2, ox1, s4⟩ := q_OfR a _ H3 (ha.still t3) (by omega)
        have n4 : H3.n ≤ H4.n := s4.n
        have t4 : Still H H4 := t3.still.then s4 fun _ _ h => h
        have ho4 : Own EPr H4 T.api_Pair own a := (ho2.still s3).still s4
        have hsame := q_RSame a a own _ H4 ho4.rd (ha.still t4) (by omega)
        rw [decide_eq_true rfl] at hsame
        have hbo : ∀ c, blockOf own = some c → H1.n ≤ c ∧ c < H2.n := fun c h => ⟨by
          rcases hb2 with hb | hb
          · rw [hb] at h; cases h
          · rw [hb] at h; cases h; exact Nat.le_refl _, ho2.blk h⟩
        obtain ⟨H5, fr5, hloop2⟩ := l_Of2 (.slice wa wn wc) (pv om) (pv ox) (blockOf own) a.length 0 a own H4 (by omega) (by omega) (by omega) ho4 rfl
        have n5 : H4.n ≤ H5.n := fr5.n
        have t5 : Still H H5 := t4.still.then fr5 fun c hc h => by have := (hbo c h).1; omega
        have om5 : OM T.model_Model H5 om (ofErr none a) a H2.n := (om1.keep s4 fun _ _ h => h.elim).keep fr5 fun c _ h => (hbo c h).2
        have ox5 : OM T.ref24_Model H5 ox (ofErr none a) a H3.n := ox1.keep fr5 fun c _ h => by have := (hbo c h).2; omega
        obtain ⟨on, H6, hof3, on1, s6⟩ := q_OfM b _ H5 (hb.still t5) (by omega)
        have t6 : Still H H6 := t5.still.then s6 fun _ _ h => h
        obtain ⟨oy, H7, hof4, oy1, s7⟩ := q_OfR b _ H6 (hb.still t6) (by omega)
        have om7 := (om5.keep s6 fun _ _ h => h.elim).keep s7 fun _ _ h => h.elim
        have ox7 := (ox5.keep s6 fun _ _ h => h.elim).keep s7 fun _ _ h => h.elim
        have on7 := on1.keep s7 fun _ _ h => h.elim
        generalize ofErr none a = ea at *
        generalize ofErr none b = eb at *
        refine any_of (H1 := H7) (d_law_ModelOf _ _ H ?_)
        rcases om7 with ⟨rfl, ea0⟩ | ⟨bm, rfl, ea0, mm, _⟩
        · have hox : ox = none := by rcases ox7 with ⟨h, _⟩ | ⟨_, _, h, _⟩; exact h; exact absurd h ea0
          subst hox
          simp only [pv] at hof1 hof2 hof3 hof4 hloop2
          rcases on7 with ⟨rfl, eb0⟩ | ⟨bn, rfl, eb0, mn, _⟩
          · have hoy : oy = none := by rcases oy1 with ⟨h, _⟩ | ⟨_, _, h, _⟩; exact h; exact absurd h eb0
            subst hoy
            simp only [pv] at hof1 hof2 hof3 hof4 hloop2
            simp (disch := first | with_reducible rfl | assumption | omega | rfl | (simp only [go_sem]; first | done | omega)) only [go_sem, ↓reduceIte, reduceCtorEq, Nat.reduceEqDiff, Nat.reduceAdd, Nat.reduceSub, Nat.reduceMul, Nat.reduceDiv, Nat.reduceMod, Nat.reduceLeDiff, Nat.reduceLT, Nat.reduceBEq, Int.reduceEq, Int.reduceBEq, Int.reduceBNe, Int.reduceLT, Int.reduceLE, Int.reduceAdd, Int.reduceSub, Int.reduceNeg, Int.reduceToNat, Int.reducePow, Nat.reducePow, Int.reduceMul, Int.reduceDiv, ↓s_law_ModelOf, hla, hlb, decide_eq_false h1, decide_eq_false h2, hH1]
            refine (hloop0 _).trans ?_
            rw [if_neg hbig]
            simp (disch := first | with_reducible rfl | assumption | omega | rfl | (simp only [go_sem]; first | done | omega)) only [go_sem, ↓reduceIte, reduceCtorEq, Nat.reduceEqDiff, Nat.reduceAdd, Nat.reduceSub, Nat.reduceMul, Nat.reduceDiv, Nat.reduceMod, Nat.reduceLeDiff, Nat.reduceLT, Nat.reduceBEq, Int.reduceEq, Int.reduceBEq, Int.reduceBNe, Int.reduceLT, Int.reduceLE, Int.reduceAdd, Int.reduceSub, Int.reduceNeg, Int.reduceToNat, Int.reducePow, Nat.reducePow, Int.reduceMul, Int.reduceDiv, happ, enterK_eq hof1, enterK_eq hof2, mp_nil, decide_eq_false ea0, bne_self_eq_false, Bool.not_false, enterK_eq hsame]
            refine (hloop2 _).trans ?_
            simp (disch := first | with_reducible rfl | assumption | omega | rfl | (simp only [go_sem]; first | done | omega)) only [go_sem, ↓reduceIte, reduceCtorEq, Nat.reduceEqDiff, Nat.reduceAdd, Nat.reduceSub, Nat.reduceMul, Nat.reduceDiv, Nat.reduceMod, Nat.reduceLeDiff, Nat.reduceLT, Nat.reduceBEq, Int.reduceEq, Int.reduceBEq, Int.reduceBNe, Int.reduceLT, Int.reduceLE, Int.reduceAdd, Int.reduceSub, Int.reduceNeg, Int.reduceToNat, Int.reducePow, Nat.reducePow, Int.reduceMul, Int.reduceDiv, enterK_eq hof3, enterK_eq hof4, beq_self_eq_true, enterK_eq (q_Equal_nn H7)]
          · obtain ⟨by', rfl, _, my, _⟩ := oy1.resolve_left fun h => h.2 eb0
            simp only [pv] at hof1 hof2 hof3 hof4 hloop2
            simp (disch := first | with_reducible rfl | assumption | omega | rfl | (simp only [go_sem]; first | done | omega)) only [go_sem, ↓reduceIte, reduceCtorEq, Nat.reduceEqDiff, Nat.reduceAdd, Nat.reduceSub, Nat.reduceMul, Nat.reduceDiv, Nat.reduceMod, Nat.reduceLeDiff, Nat.reduceLT, Nat.reduceBEq, Int.reduceEq, Int.reduceBEq, Int.reduceBNe, Int.reduceLT, Int.reduceLE, Int.reduceAdd, Int.reduceSub, Int.reduceNeg, Int.reduceToNat, Int.reducePow, Nat.reducePow, Int.reduceMul, Int.reduceDiv, ↓s_law_ModelOf, hla, hlb, decide_eq_false h1, decide_eq_false h2, hH1]
            refine (hloop0 _).trans ?_
            rw [if_neg hbig]
            simp (disch := first | with_reducible rfl | assumption | omega | rfl | (simp only [go_sem]; first | done | omega)) only [go_sem, ↓reduceIte, reduceCtorEq, Nat.reduceEqDiff, Nat.reduceAdd, Nat.reduceSub, Nat.reduceMul, Nat.reduceDiv, Nat.reduceMod, Nat.reduceLeDiff, Nat.reduceLT, Nat.reduceBEq, Int.reduceEq, Int.reduceBEq, Int.reduceBNe, Int.reduceLT, Int.reduceLE, Int.reduceAdd, Int.reduceSub, Int.reduceNeg, Int.reduceToNat, Int.reducePow, Nat.reducePow, Int.reduceMul, Int.reduceDiv, happ, enterK_eq hof1, enterK_eq hof2, mp_nil, decide_eq_false ea0, bne_self_eq_false, Bool.not_false, enterK_eq hsame]
            refine (hloop2 _).trans ?_
            simp (disch := first | with_reducible rfl | assumption | omega | rfl | (simp only [go_sem]; first | done | omega)) only [go_sem, ↓reduceIte, reduceCtorEq, Nat.reduceEqDiff, Nat.reduceAdd, Nat.reduceSub, Nat.reduceMul, Nat.reduceDiv, Nat.reduceMod, Nat.reduceLeDiff, Nat.reduceLT, Nat.reduceBEq, Int.reduceEq, Int.reduceBEq, Int.reduceBNe, Int.reduceLT, Int.reduceLE, Int.reduceAdd, Int.reduceSub, Int.reduceNeg, Int.reduceToNat, Int.reducePow, Nat.reducePow, Int.reduceMul, Int.reduceDiv, enterK_eq hof3, enterK_eq hof4, show (true == false) = false from rfl, beq_self_eq_true, enterK_eq (q_Equal_ns bn H7), enterK_eq (q_Equal_sn bn H7)]
        · obtain ⟨bx, rfl, _, mx, _⟩ := ox7.resolve_left fun h => h.2 ea0
          simp only [pv] at hof1 hof2 hof3 hof4 hloop2
          have hal := q_alike bm bx a H7 mm mx (by omega)
          subst ea0
          rcases on7 with ⟨rfl, eb0⟩ | ⟨bn, rfl, eb0, mn, _⟩
          · have hoy : oy = none := by rcases oy1 with ⟨h, _⟩ | ⟨_, _, h, _⟩; exact h; exact absurd h eb0
            subst hoy
            simp only [pv] at hof1 hof2 hof3 hof4 hloop2
            simp (disch := first | with_reducible rfl | assumption | omega | rfl | (simp only [go_sem]; first | done | omega)) only [go_sem, ↓reduceIte, reduceCtorEq, Nat.reduceEqDiff, Nat.reduceAdd, Nat.reduceSub, Nat.reduceMul, Nat.reduceDiv, Nat.reduceMod, Nat.reduceLeDiff, Nat.reduceLT, Nat.reduceBEq, Int.reduceEq, Int.reduceBEq, Int.reduceBNe, Int.reduceLT, Int.reduceLE, Int.reduceAdd, Int.reduceSub, Int.reduceNeg, Int.reduceToNat, Int.reducePow, Nat.reducePow, Int.reduceMul, Int.reduceDiv, ↓s_law_ModelOf, hla, hlb, decide_eq_false h1, decide_eq_false h2, hH1]
            refine (hloop0 _).trans ?_
            rw [if_neg hbig]
            simp (disch := first | with_reducible rfl | assumption | omega | rfl | (simp only [go_sem]; first | done | omega)) only [go_sem, ↓reduceIte, reduceCtorEq, Nat.reduceEqDiff, Nat.reduceAdd, Nat.reduceSub, Nat.reduceMul, Nat.reduceDiv, Nat.reduceMod, Nat.reduceLeDiff, Nat.reduceLT, Nat.reduceBEq, Int.reduceEq, Int.reduceBEq, Int.reduceBNe, Int.reduceLT, Int.reduceLE, Int.reduceAdd, Int.reduceSub, Int.reduceNeg, Int.reduceToNat, Int.reducePow, Nat.reducePow, Int.reduceMul, Int.reduceDiv, happ, enterK_eq hof1, enterK_eq hof2, mp_some, bne_self_eq_false, enterK_eq hsame]
            refine (hloop2 _).trans ?_
            simp (disch := first | with_reducible rfl | assumption | omega | rfl | (simp only [go_sem]; first | done | omega)) only [go_sem, ↓reduceIte, reduceCtorEq, Nat.reduceEqDiff, Nat.reduceAdd, Nat.reduceSub, Nat.reduceMul, Nat.reduceDiv, Nat.reduceMod, Nat.reduceLeDiff, Nat.reduceLT, Nat.reduceBEq, Int.reduceEq, Int.reduceBEq, Int.reduceBNe, Int.reduceLT, Int.reduceLE, Int.reduceAdd, Int.reduceSub, Int.reduceNeg, Int.reduceToNat, Int.reducePow, Nat.reducePow, Int.reduceMul, Int.reduceDiv, enterK_eq hof3, enterK_eq hof4, show (false == true) = false from rfl, beq_self_eq_true, enterK_eq hal, enterK_eq (q_Equal_ns bm H7), enterK_eq (q_Equal_sn bm H7)]
          · obtain ⟨by', rfl, _, my, _⟩ := oy1.resolve_left fun h => h.2 eb0
            simp only [pv] at hof1 hof2 hof3 hof4 hloop2
            have he1 := q_Equal bm bn a b H7 mm mn (by omega) (by omega)
            have he2 := q_Equal bn bm b a H7 mn mm (by omega) (by omega)
            have hdab : decide (b = a) = decide (a = b) := decide_eq_decide.2 eq_comm
            rw [hdab] at he2
            obtain ⟨vx, g1, g2, g3, g4⟩ := id mx
            obtain ⟨vy, k1, k2, k3, k4⟩ := id my
            have hs2 := q_RSame a b vx vy H7 g3.rd k3.rd (by omega)
            generalize decide (a = b) = dab at he1 he2 hs2
            simp (disch := first | with_reducible rfl | assumption | omega | rfl | (simp only [go_sem]; first | done | omega)) only [go_sem, ↓reduceIte, reduceCtorEq, Nat.reduceEqDiff, Nat.reduceAdd, Nat.reduceSub, Nat.reduceMul, Nat.reduceDiv, Nat.reduceMod, Nat.reduceLeDiff, Nat.reduceLT, Nat.reduceBEq, Int.reduceEq, Int.reduceBEq, Int.reduceBNe, Int.reduceLT, Int.reduceLE, Int.reduceAdd, Int.reduceSub, Int.reduceNeg, Int.reduceToNat, Int.reducePow, Nat.reducePow, Int.reduceMul, Int.reduceDiv, ↓s_law_ModelOf, hla, hlb, decide_eq_false h1, decide_eq_false h2, hH1]
            refine (hloop0 _).trans ?_
            rw [if_neg hbig]
            simp (disch := first | with_reducible rfl | assumption | omega | rfl | (simp only [go_sem]; first | done | omega)) only [go_sem, ↓reduceIte, reduceCtorEq, Nat.reduceEqDiff, Nat.reduceAdd, Nat.reduceSub, Nat.reduceMul, Nat.reduceDiv, Nat.reduceMod, Nat.reduceLeDiff, Nat.reduceLT, Nat.reduceBEq, Int.reduceEq, Int.reduceBEq, Int.reduceBNe, Int.reduceLT, Int.reduceLE, Int.reduceAdd, Int.reduceSub, Int.reduceNeg, Int.reduceToNat, Int.reducePow, Nat.reducePow, Int.reduceMul, Int.reduceDiv, happ, enterK_eq hof1, enterK_eq hof2, mp_some, bne_self_eq_false, enterK_eq hsame]
            refine (hloop2 _).trans ?_
            simp (disch := first | with_reducible rfl | assumption | omega | rfl | (simp only [go_sem]; first | done | omega)) only [go_sem, ↓reduceIte, reduceCtorEq, Nat.reduceEqDiff, Nat.reduceAdd, Nat.reduceSub, Nat.reduceMul, Nat.reduceDiv, Nat.reduceMod, Nat.reduceLeDiff, Nat.reduceLT, Nat.reduceBEq, Int.reduceEq, Int.reduceBEq, Int.reduceBNe, Int.reduceLT, Int.reduceLE, Int.reduceAdd, Int.reduceSub, Int.reduceNeg, Int.reduceToNat, Int.reducePow, Nat.reducePow, Int.reduceMul, Int.reduceDiv, enterK_eq hof3, enterK_eq hof4, beq_self_eq_true, g1, k1, enterK_eq hs2, enterK_eq hal, enterK_eq he1, enterK_eq he2]

theorem run_ModelOf (W : World) (v : Value) (a : List Pr) (ha : Rd EPr (absHeap W) v a) (_ : ∀ x, x ∈ a → True) (_ : a.length ≤ maxLen) (w : Value) (b : List Pr) (hb : Rd EPr (absHeap W) w b) (_ : ∀ x, x ∈ b → True) (_ : b.length ≤ maxLen) :
    ∃ k H', dCall Try.prog prims1 hints k F.law_ModelOf [v, w] (absHeap W) = some (.bool true, H') := by
  obtain ⟨H', h⟩ := q_ModelOf a b v w (absHeap W) ha hb
  obtain ⟨k, h⟩ := D_run h
  exact ⟨k, _, h⟩

end Go.Proofs.Ytlagijfkkpbbnaa
