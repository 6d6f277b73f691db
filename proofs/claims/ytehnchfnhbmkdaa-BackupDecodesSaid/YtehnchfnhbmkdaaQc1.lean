/-
  18 texts in one (merge.py): M1 M2 M3 M4 Ord M5 M6 MdP R S T MdA MdF ME U W X Dp.
  Conditions: none. By an AI agent.
-/
import Derived.Test.YtehnchfnhbmkdaaQb4

/-
  The plain map: strings compared; slices of pairs: Clone, Insert, Delete.
  Conditions: none. By an AI agent.
-/
set_option maxRecDepth 10000
set_option linter.unusedSimpArgs false
set_option linter.unusedVariables false
namespace Go.Proofs.Ytehnchfnhbmkdaa
open Go Eng

@[go_sem] theorem bool_ne {ox oy : Operand} {a b : Bool} : xbin Try.prog .neq T.bool ox oy (.bool a) (.bool b) = some (.bool (a != b)) := by
  cases a <;> cases b <;> kernel_rfl
@[go_sem] theorem mp_nil {ox oy : Operand} : xbin Try.prog .eql T.p_model_Model ox oy (.pointer none) (.pointer none) = some (.bool true) := by kernel_rfl
@[go_sem] theorem mp_some {ox oy : Operand} {a : Addr} : xbin Try.prog .eql T.p_model_Model ox oy (.pointer (some a)) (.pointer none) = some (.bool false) := by kernel_rfl

/-- A pair. -/
structure Pr where
  key : ByteArray
  value : ByteArray

def EPr : Enc Pr := ⟨2, fun a => [.string a.key, .string a.value], fun _ => rfl, by decide, fun _ => rfl⟩
def EStr : Enc ByteArray := ⟨1, fun a => [.string a], fun _ => rfl, by decide, fun _ => rfl⟩

/-! Comparing -/
def cmpS (a b : ByteArray) : Int := Lib.compareBytes (bl a) (bl b)

theorem q_CompareString (a b : ByteArray) (H : AHeap) : CC F.internal_bytealg_CompareString [.string a, .string b] H = some (.int .i64 (cmpS a b), H) := by
  have h : ∀ H, xext Try.prog Try.f63 [.string a, .string b] H = some (.int .i64 (cmpS a b)) := fun H => by kernel_rfl
  apply pure_of _ (d_internal_bytealg_CompareString _ _ H) rfl
  rotate_left 2
  · simp (disch := first | with_reducible rfl | assumption | omega | rfl | (simp only [go_sem]; first | done | omega)) only [go_sem, ↓reduceIte, reduceCtorEq, Nat.reduceEqDiff, Nat.reduceAdd, Nat.reduceSub, Nat.reduceMul, Nat.reduceDiv, Nat.reduceMod, Nat.reduceLeDiff, Nat.reduceLT, Nat.reduceBEq, Int.reduceEq, Int.reduceBEq, Int.reduceBNe, Int.reduceLT, Int.reduceLE, Int.reduceAdd, Int.reduceSub, Int.reduceNeg, Int.reduceToNat, Int.reducePow, Nat.reducePow, Int.reduceMul, Int.reduceDiv, ↓s_internal_bytealg_CompareString, h]
    rfl
  · (repeat (first | exact Fr.refl _ | refine Fr.push ?_ _ | refine Fr.set ?_ _ _ (by intro h; first | omega | (simp only [go_sem] at h; omega))))
@[go_sem, go_sem ↓] theorem e_CompareString (a b : ByteArray) (H : AHeap) {k : Value → AHeap → Res} : enterK CC F.internal_bytealg_CompareString [.string a, .string b] H k = k (.int .i64 (cmpS a b)) H := enterK_eq (q_CompareString a b H)
theorem q_SCompare (a b : ByteArray) (H : AHeap) : CC F.strings_Compare [.string a, .string b] H = some (.int .i64 (cmpS a b), H) := by
  apply pure_of _ (d_strings_Compare _ _ H) rfl
  rotate_left 2
  · simp (disch := first | with_reducible rfl | assumption | omega | rfl | (simp only [go_sem]; first | done | omega)) only [go_sem, ↓reduceIte, reduceCtorEq, Nat.reduceEqDiff, Nat.reduceAdd, Nat.reduceSub, Nat.reduceMul, Nat.reduceDiv, Nat.reduceMod, Nat.reduceLeDiff, Nat.reduceLT, Nat.reduceBEq, Int.reduceEq, Int.reduceBEq, Int.reduceBNe, Int.reduceLT, Int.reduceLE, Int.reduceAdd, Int.reduceSub, Int.reduceNeg, Int.reduceToNat, Int.reducePow, Nat.reducePow, Int.reduceMul, Int.reduceDiv, ↓s_strings_Compare, e_CompareString]
    rfl
  · (repeat (first | exact Fr.refl _ | refine Fr.push ?_ _ | refine Fr.set ?_ _ _ (by intro h; first | omega | (simp only [go_sem] at h; omega))))
@[go_sem, go_sem ↓] theorem e_SCompare (a b : ByteArray) (H : AHeap) {k : Value → AHeap → Res} : enterK CC F.strings_Compare [.string a, .string b] H k = k (.int .i64 (cmpS a b)) H := enterK_eq (q_SCompare a b H)
theorem q_KCompare (a b : ByteArray) (H : AHeap) : CC F.keys_Compare [.string a, .string b] H = some (.int .i64 (cmpS a b), H) := by
  apply pure_of _ (d_keys_Compare _ _ H) rfl
  rotate_left 2
  · simp (disch := first | with_reducible rfl | assumption | omega | rfl | (simp only [go_sem]; first | done | omega)) only [go_sem, ↓reduceIte, reduceCtorEq, Nat.reduceEqDiff, Nat.reduceAdd, Nat.reduceSub, Nat.reduceMul, Nat.reduceDiv, Nat.reduceMod, Nat.reduceLeDiff, Nat.reduceLT, Nat.reduceBEq, Int.reduceEq, Int.reduceBEq, Int.reduceBNe, Int.reduceLT, Int.reduceLE, Int.reduceAdd, Int.reduceSub, Int.reduceNeg, Int.reduceToNat, Int.reducePow, Nat.reducePow, Int.reduceMul, Int.reduceDiv, ↓s_keys_Compare, e_SCompare]
    rfl
  · (repeat (first | exact Fr.refl _ | refine Fr.push ?_ _ | refine Fr.set ?_ _ _ (by intro h; first | omega | (simp only [go_sem] at h; omega))))
@[go_sem, go_sem ↓] theorem e_KCompare (a b : ByteArray) (H : AHeap) {k : Value → AHeap → Res} : enterK CC F.keys_Compare [.string a, .string b] H k = k (.int .i64 (cmpS a b)) H := enterK_eq (q_KCompare a b H)

@[go_sem] theorem sl_nil_Pair {ox oy : Operand} : xbin Try.prog .eql T.sl_api_Pair ox oy (.slice none 0 0) (.slice none 0 0) = some (.bool true) := by kernel_rfl
@[go_sem] theorem sl_some_Pair {ox oy : Operand} {a : Addr} {n c : Nat} : xbin Try.prog .eql T.sl_api_Pair ox oy (.slice (some a) n c) (.slice none 0 0) = some (.bool false) := by kernel_rfl

theorem q_clone_Pair (l : List Pr) (v : Value) (H : AHeap) (hr : Rd EPr H v l) (hl : l.length ≤ 1000000000000) :
    ∃ v' H', CC F.slices_Clone_Pair [v] H = some (v', H') ∧ Own EPr H' T.api_Pair v' l ∧ Still H H' ∧ ∀ b, blockOf v' = some b → H.n ≤ b := by
  have hsrc : ∀ H1, Still H H1 → srcS 2 v H1 = some (l.length, EPr.cells l) := fun H1 h => (hr.still h).src rfl
  have s1 : Still H (H.push (.cells [] T.api_Pair true)) := (Fr.refl H).push _
  have hs := hsrc _ s1
  by_cases hn : v = .slice none 0 0
  · have hl0 : l = [] := by
      rcases hr with h | h | ⟨b, o, c, h, _⟩
      · exact h.1
      · exact h.1
      · rw [hn] at h; cases h
    subst hn hl0
    refine ⟨.slice none 0 0, H, ?_, .inl ⟨rfl, rfl⟩, Fr.refl H, fun b h => by cases h⟩
    apply pure_of _ (d_slices_Clone_Pair _ H) rfl
    rotate_left 2
    · simp (disch := first | with_reducible rfl | assumption | omega | rfl | (simp only [go_sem]; first | done | omega)) only [go_sem, ↓reduceIte, reduceCtorEq, Nat.reduceEqDiff, Nat.reduceAdd, Nat.reduceSub, Nat.reduceMul, Nat.reduceDiv, Nat.reduceMod, Nat.reduceLeDiff, Nat.reduceLT, Nat.reduceBEq, Int.reduceEq, Int.reduceBEq, Int.reduceBNe, Int.reduceLT, Int.reduceLE, Int.reduceAdd, Int.reduceSub, Int.reduceNeg, Int.reduceToNat, Int.reducePow, Nat.reducePow, Int.reduceMul, Int.reduceDiv, ↓s_slices_Clone_Pair]
      rfl
    · (repeat (first | exact Fr.refl _ | refine Fr.push ?_ _ | refine Fr.set ?_ _ _ (by intro h; first | omega | (simp only [go_sem] at h; omega))))
  · obtain ⟨a, n, c, hv⟩ : ∃ a n c, v = .slice (some a) n c := by
      rcases hr with h | ⟨_, a, k, h, _⟩ | ⟨b, o, c, h, _⟩
      · exact absurd h.2 hn
      · exact ⟨_, _, _, h⟩
      · exact ⟨_, _, _, h⟩
    have hnil : ∀ ox oy, xbin Try.prog .eql T.sl_api_Pair ox oy v (.slice none 0 0) = some (.bool false) := fun ox oy => by rw [hv]; exact sl_some_Pair
    have ho : Own EPr (H.push (.cells [] T.api_Pair true)) T.api_Pair (.slice (some ⟨H.n, 0, none⟩) 0 0) [] := .inr (.inl ⟨rfl, _, rfl, rfl, by simp⟩)
    by_cases hl0 : l = []
    · subst hl0
      refine ⟨.slice (some ⟨H.n, 0, none⟩) 0 0, H.push (.cells [] T.api_Pair true), ?_, ho, s1, fun b h => by cases h; exact Nat.le_refl _⟩
      have happ : app T.api_Pair 2 32 (.slice (some ⟨H.n, 0, none⟩) 0 0) (srcS 2 v (H.push (.cells [] T.api_Pair true))) (H.push (.cells [] T.api_Pair true)) = some (.slice (some ⟨H.n, 0, none⟩) 0 0, H.push (.cells [] T.api_Pair true)) := by rw [hs]; rfl
      refine (d_slices_Clone_Pair _ H ?_).trans (congrArg some (tidy_mem (v := .slice (some ⟨H.n, 0, none⟩) 0 0) (H' := H.push (.cells [] T.api_Pair true)) rfl))
      simp (disch := first | with_reducible rfl | assumption | omega | rfl | (simp only [go_sem]; first | done | omega)) only [go_sem, ↓reduceIte, reduceCtorEq, Nat.reduceEqDiff, Nat.reduceAdd, Nat.reduceSub, Nat.reduceMul, Nat.reduceDiv, Nat.reduceMod, Nat.reduceLeDiff, Nat.reduceLT, Nat.reduceBEq, Int.reduceEq, Int.reduceBEq, Int.reduceBNe, Int.reduceLT, Int.reduceLE, Int.reduceAdd, Int.reduceSub, Int.reduceNeg, Int.reduceToNat, Int.reducePow, Nat.reducePow, Int.reduceMul, Int.reduceDiv, ↓s_slices_Clone_Pair, hnil, happ]
    · obtain ⟨v', H', happ, hown, hfr, hb, hg⟩ := ho.app (m := l) hl0 (sz := 2) (bytes := 32) rfl (by simp; omega) (by simp; omega) hs
      refine ⟨v', H', ?_, hown, ?_, ?_⟩
      · refine (d_slices_Clone_Pair _ H ?_).trans (congrArg some (tidy_mem (v := v') (H' := H') hg))
        simp (disch := first | with_reducible rfl | assumption | omega | rfl | (simp only [go_sem]; first | done | omega)) only [go_sem, ↓reduceIte, reduceCtorEq, Nat.reduceEqDiff, Nat.reduceAdd, Nat.reduceSub, Nat.reduceMul, Nat.reduceDiv, Nat.reduceMod, Nat.reduceLeDiff, Nat.reduceLT, Nat.reduceBEq, Int.reduceEq, Int.reduceBEq, Int.reduceBNe, Int.reduceLT, Int.reduceLE, Int.reduceAdd, Int.reduceSub, Int.reduceNeg, Int.reduceToNat, Int.reducePow, Nat.reducePow, Int.reduceMul, Int.reduceDiv, ↓s_slices_Clone_Pair, hnil, happ]
      · refine s1.then hfr fun b hb h => ?_
        unfold OnlyOf at h
        simp [blockOf] at h
        omega
      · intro b h
        rcases hb with hb | hb
        · rw [hb] at h
          simp [blockOf] at h
          omega
        · rw [hb] at h
          simp at h
          omega

/-! ### Insert -/
theorem ins_loop_Pair : noLoop (codeOf Try.prog hints F.slices_Insert_Pair) = true := by kernel_rfl

theorem q_insert_Pair (l : List Pr) (v : Value) (a : Pr) (bv i : Nat) (H : AHeap) (hr : Own EPr H T.api_Pair v l) (hl : l.length ≤ 1000000000000) (hi : i ≤ l.length) (hbn : bv < H.n) (hbv : H.f bv = .cells [.string a.key, .string a.value] T.api_Pair true) (hne : blockOf v ≠ some bv) :
    ∃ v' H', CC F.slices_Insert_Pair [v, .int .i64 (i : Int), .slice (some ⟨bv, 0, none⟩) 1 2] H = some (v', H') ∧ Own EPr H' T.api_Pair v' (l.take i ++ a :: l.drop i) ∧ Fr (OnlyOf v) H H' ∧
      (blockOf v' = blockOf v ∨ ∃ b, blockOf v' = some b ∧ H.n ≤ b) := by
  have hp : prims1 F.slices_Insert_Pair = some (insP Try.prog hints 56 60 zIns0) := by kernel_rfl
  have hsrc : srcS 2 (.slice (some ⟨bv, 0, none⟩) 1 2) H = some ([a].length, EPr.cells [a]) := by
    unfold srcS
    simp only [cut_b, hbv, Nat.one_ne_zero, if_false]
    rfl
  by_cases hin : i = l.length
  · subst hin
    obtain ⟨v', H', happ, hown, hfr, hb, hg⟩ := hr.app (m := [a]) (by simp) (sz := 2) (bytes := 32) rfl (by simp; omega) (by simp; omega) hsrc
    obtain ⟨w, hw, _, _⟩ := hr.drop (sz := 2) (q := .i64) rfl (Nat.le_refl l.length)
    have hlen := hr.rd.lenS
    refine ⟨v', H', ?_, by simpa using hown, hfr, hb.imp id fun h => ⟨_, h, Nat.le_refl _⟩⟩
    refine D_prim hp ?_
    have hbody : dBody Try.prog hints (fun _ _ _ => none) 1 F.slices_Insert_Pair [v, .int .i64 (l.length : Int), .slice (some ⟨bv, 0, none⟩) 1 2] H = some (v', H') := by
      rw [dBody_noLoop ins_loop_Pair, s_slices_Insert_Pair_eq]
      show s_slices_Insert_Pair guardK condL shareL Try.prog _ _ _ _ H _ = _
      simp (disch := first | with_reducible rfl | assumption | omega | rfl | (simp only [go_sem]; first | done | omega)) only [go_sem, ↓reduceIte, reduceCtorEq, Nat.reduceEqDiff, Nat.reduceAdd, Nat.reduceSub, Nat.reduceMul, Nat.reduceDiv, Nat.reduceMod, Nat.reduceLeDiff, Nat.reduceLT, Nat.reduceBEq, Int.reduceEq, Int.reduceBEq, Int.reduceBNe, Int.reduceLT, Int.reduceLE, Int.reduceAdd, Int.reduceSub, Int.reduceNeg, Int.reduceToNat, Int.reducePow, Nat.reducePow, Int.reduceMul, Int.reduceDiv, ↓s_slices_Insert_Pair, hw, hlen, happ]
    show (match dBody Try.prog hints (fun _ _ _ => none) 1 F.slices_Insert_Pair [v, .int .i64 (l.length : Int), .slice (some ⟨bv, 0, none⟩) 1 2] H with
      | some r => some r
      | none => _) = _
    rw [hbody]
  · have hilt : i < l.length := by omega
    rcases hr with ⟨h, _⟩ | ⟨h, _⟩ | ⟨b, o, c, xs, rfl, hlc, hb, hf, ho, hx⟩
    · subst h; simp at hilt
    · subst h; simp at hilt
    · have hneb : bv ≠ b := fun h => hne (by rw [h]; rfl)
      obtain ⟨v', H', hins, hown, hfr, hbl⟩ := insS_own (P := Try.prog) (E := EPr) (l := l) (el := T.api_Pair) (z := zIns0) (b := b) (o := o) (c := c) (i := i) (bv := bv) (ov := 0) (cv := 2) (m := [a]) rfl rfl hlc hb hf ho hx hilt (by simp) hbv hneb (by kernel_rfl) (show 0 + 1 * 2 ≤ 2 by decide) rfl
        (by rw [show Try.prog.bytesOf T.api_Pair = 32 by kernel_rfl]; simp; omega) (by simp; omega)
      refine ⟨v', H', ?_, hown, hfr.mono fun x _ h => by rw [h]; rfl, hbl.imp id fun h => ⟨_, h, Nat.le_refl _⟩⟩
      refine D_prim hp ?_
      have hlo : slS T.api_Pair 2 (.slice (some ⟨b, o, none⟩) l.length (2 * c + 1)) (some (.int .i64 (i : Int))) none none H = some (.slice (some ⟨b, o + i * 2, none⟩) (l.length - i) (2 * (c - i) + 1)) := sl_lo hf hi hlc
      have hne' : ¬ (i : Int) = (l.length : Int) := by omega
      have hbody : dBody Try.prog hints (fun _ _ _ => none) 1 F.slices_Insert_Pair [.slice (some ⟨b, o, none⟩) l.length (2 * c + 1), .int .i64 (i : Int), .slice (some ⟨bv, 0, none⟩) 1 2] H = none := by
        rw [dBody_noLoop ins_loop_Pair, s_slices_Insert_Pair_eq]
        show s_slices_Insert_Pair guardK condL shareL Try.prog _ _ _ _ H _ = _
        simp (disch := first | with_reducible rfl | assumption | omega | rfl | (simp only [go_sem]; first | done | omega)) only [go_sem, ↓reduceIte, reduceCtorEq, Nat.reduceEqDiff, Nat.reduceAdd, Nat.reduceSub, Nat.reduceMul, Nat.reduceDiv, Nat.reduceMod, Nat.reduceLeDiff, Nat.reduceLT, Nat.reduceBEq, Int.reduceEq, Int.reduceBEq, Int.reduceBNe, Int.reduceLT, Int.reduceLE, Int.reduceAdd, Int.reduceSub, Int.reduceNeg, Int.reduceToNat, Int.reducePow, Nat.reducePow, Int.reduceMul, Int.reduceDiv, ↓s_slices_Insert_Pair, hlo, hne', cap_odd]
      show (match dBody Try.prog hints (fun _ _ _ => none) 1 F.slices_Insert_Pair [.slice (some ⟨b, o, none⟩) l.length (2 * c + 1), .int .i64 (i : Int), .slice (some ⟨bv, 0, none⟩) 1 2] H with
        | some r => some r
        | none => _) = _
      rw [hbody]
      exact hins



end Go.Proofs.Ytehnchfnhbmkdaa

/-
  The plain map: where a key is, the check of a key and values.
  Conditions: none. By an AI agent.
-/
set_option maxRecDepth 10000
set_option linter.unusedSimpArgs false
set_option linter.unusedVariables false
namespace Go.Proofs.Ytehnchfnhbmkdaa
open Go Eng

theorem q_place_1 (a : Pr) (key : ByteArray) (H : AHeap) : CC F.model_Model_place_1 [.agg #[.string a.key, .string a.value], .string key] H = some (.int .i64 (cmpS a.key key), H) := by
  apply pure_of _ (d_model_Model_place_1 _ _ H) rfl
  rotate_left 2
  · simp (disch := first | with_reducible rfl | assumption | omega | rfl | (simp only [go_sem]; first | done | omega)) only [go_sem, ↓reduceIte, reduceCtorEq, Nat.reduceEqDiff, Nat.reduceAdd, Nat.reduceSub, Nat.reduceMul, Nat.reduceDiv, Nat.reduceMod, Nat.reduceLeDiff, Nat.reduceLT, Nat.reduceBEq, Int.reduceEq, Int.reduceBEq, Int.reduceBNe, Int.reduceLT, Int.reduceLE, Int.reduceAdd, Int.reduceSub, Int.reduceNeg, Int.reduceToNat, Int.reducePow, Nat.reducePow, Int.reduceMul, Int.reduceDiv, ↓s_model_Model_place_1, e_KCompare]
    rfl
  · (repeat (first | exact Fr.refl _ | refine Fr.push ?_ _ | refine Fr.set ?_ _ _ (by intro h; first | omega | (simp only [go_sem] at h; omega))))
@[go_sem, go_sem ↓] theorem e_place_1 (a : Pr) (key : ByteArray) (H : AHeap) {k : Value → AHeap → Res} : enterK CC F.model_Model_place_1 [.agg #[.string a.key, .string a.value], .string key] H k = k (.int .i64 (cmpS a.key key)) H := enterK_eq (q_place_1 a key H)

/-- p is where a key is, or would be. -/
def PosP (l : List Pr) (key : ByteArray) (p : Nat) : Prop :=
  p ≤ l.length ∧ (∀ (i : Nat) (h : i < l.length), i < p → cmpS l[i].key key < 0) ∧ (∀ (i : Nat) (h : i < l.length), p ≤ i → ¬ cmpS l[i].key key < 0)

/-- Is the key there? -/
def isP (l : List Pr) (key : ByteArray) (p : Nat) : Bool := match l[p]? with | some a => decide (cmpS a.key key = 0) | none => false

theorem l_bsP (l : List Pr) (v : Value) (key : ByteArray) (H : AHeap) (hr : Rd EPr H v l) (hl : l.length < 1152921504606846976)
    (p : Nat) (hp1 : ∀ (i : Nat) (h : i < l.length), i < p → cmpS l[i].key key < 0) (hp2 : ∀ (i : Nat) (h : i < l.length), p ≤ i → ¬ cmpS l[i].key key < 0) (K : K) : ∀ (d i j : Nat), j - i = d → i ≤ p → p ≤ j → j ≤ l.length →
    l_slices_BinarySearchFunc_string_0 v (.string key) (.func (.func F.model_Model_place_1) #[] #[]) (.int .i64 l.length) (.int .i64 i) (.int .i64 j) H K
      = K (.exit 0) [(17, .bool false), (16, .int .i64 p), (15, .int .i64 p), (0, v), (1, .string key), (2, .func (.func F.model_Model_place_1) #[] #[]), (8, .int .i64 l.length), (9, .int .i64 p), (10, .int .i64 p)] H := by
  intro d
  induction d using Nat.strongRecOn with
  | ind d ih =>
    intro i j hd hi hj hn
    by_cases hlt : i < j
    · have hlt' : (i : Int) < (j : Int) := by omega
      have hm : ((i : Int) + (j : Int)) / 2 = (((i + j) / 2 : Nat) : Int) := by omega
      generalize hh : (i + j) / 2 = m at hm
      have hm1 : i ≤ m := by omega
      have hm2 : m < j := by omega
      have hml : m < l.length := by omega
      obtain ⟨b, o, hix, hb, hc, _⟩ := hr.ix (q := .i64) hml
      have hix : ixS 2 v (.int .i64 m) = some (.pointer (some ⟨b, o, none⟩)) := hix
      have hc : cutB (H.f b) o 2 = some [.string l[m].key, .string l[m].value] := hc
      rw [r_slices_BinarySearchFunc_string_0]
      by_cases hp : m < p
      · have hcmp : decide (cmpS l[m].key key < 0) = true := decide_eq_true (hp1 m hml hp)
        have ih := ih (j - (m + 1)) (by omega) (m + 1) j rfl (by omega) hj hn
        rw [Int.natCast_add] at ih
        simp (disch := first | with_reducible rfl | assumption | omega | rfl | (simp only [go_sem]; first | done | omega)) only [go_sem, ↓reduceIte, reduceCtorEq, Nat.reduceEqDiff, Nat.reduceAdd, Nat.reduceSub, Nat.reduceMul, Nat.reduceDiv, Nat.reduceMod, Nat.reduceLeDiff, Nat.reduceLT, Nat.reduceBEq, Int.reduceEq, Int.reduceBEq, Int.reduceBNe, Int.reduceLT, Int.reduceLE, Int.reduceAdd, Int.reduceSub, Int.reduceNeg, Int.reduceToNat, Int.reducePow, Nat.reducePow, Int.reduceMul, Int.reduceDiv, ↓s_slices_BinarySearchFunc_string_b0, hlt', hm, hix, hc, c_model_Model_place_1, e_place_1, hcmp]
        exact ih
      · have hcmp : decide (cmpS l[m].key key < 0) = false := decide_eq_false (hp2 m hml (by omega))
        have ih := ih (m - i) (by omega) i m rfl hi (by omega) (by omega)
        simp (disch := first | with_reducible rfl | assumption | omega | rfl | (simp only [go_sem]; first | done | omega)) only [go_sem, ↓reduceIte, reduceCtorEq, Nat.reduceEqDiff, Nat.reduceAdd, Nat.reduceSub, Nat.reduceMul, Nat.reduceDiv, Nat.reduceMod, Nat.reduceLeDiff, Nat.reduceLT, Nat.reduceBEq, Int.reduceEq, Int.reduceBEq, Int.reduceBNe, Int.reduceLT, Int.reduceLE, Int.reduceAdd, Int.reduceSub, Int.reduceNeg, Int.reduceToNat, Int.reducePow, Nat.reducePow, Int.reduceMul, Int.reduceDiv, ↓s_slices_BinarySearchFunc_string_b0, hlt', hm, hix, hc, c_model_Model_place_1, e_place_1, hcmp]
        exact ih
    · have hip : i = p := by omega
      have hjp : j = p := by omega
      subst hip
      subst hjp
      have hlt' : ¬ (j : Int) < (j : Int) := by omega
      rw [r_slices_BinarySearchFunc_string_0]
      simp (disch := first | with_reducible rfl | assumption | omega | rfl | (simp only [go_sem]; first | done | omega)) only [go_sem, ↓reduceIte, reduceCtorEq, Nat.reduceEqDiff, Nat.reduceAdd, Nat.reduceSub, Nat.reduceMul, Nat.reduceDiv, Nat.reduceMod, Nat.reduceLeDiff, Nat.reduceLT, Nat.reduceBEq, Int.reduceEq, Int.reduceBEq, Int.reduceBNe, Int.reduceLT, Int.reduceLE, Int.reduceAdd, Int.reduceSub, Int.reduceNeg, Int.reduceToNat, Int.reducePow, Nat.reducePow, Int.reduceMul, Int.reduceDiv, ↓s_slices_BinarySearchFunc_string_b0, hlt']

theorem q_bsP (l : List Pr) (v : Value) (key : ByteArray) (H : AHeap) (hr : Rd EPr H v l) (hl : l.length < 1152921504606846976) (p : Nat) (hp : PosP l key p) :
    CC F.slices_BinarySearchFunc_string [v, .string key, .func (.func F.model_Model_place_1) #[] #[]] H = some (.tuple #[.int .i64 p, .bool (isP l key p)], H) := by
  obtain ⟨hpl, hp1, hp2⟩ := hp
  have hlen := hr.lenS
  have hloop := l_bsP l v key H hr hl p hp1 hp2
  have hz : Value.int IntKind.i64 0 = Value.int IntKind.i64 ((0 : Nat) : Int) := rfl
  by_cases hlt : p < l.length
  · obtain ⟨b, o, hix, hb, hc, _⟩ := hr.ix (q := .i64) hlt
    have hix : ixS 2 v (.int .i64 p) = some (.pointer (some ⟨b, o, none⟩)) := hix
    have hc : cutB (H.f b) o 2 = some [.string l[p].key, .string l[p].value] := hc
    have hlt' : (p : Int) < (l.length : Int) := by omega
    have his : isP l key p = decide (cmpS l[p].key key = 0) := by unfold isP; rw [List.getElem?_eq_getElem hlt]
    rw [his]
    apply pure_of _ (d_slices_BinarySearchFunc_string _ _ _ H) rfl
    rotate_left 2
    · simp (disch := first | with_reducible rfl | assumption | omega | rfl | (simp only [go_sem]; first | done | omega)) only [go_sem, ↓reduceIte, reduceCtorEq, Nat.reduceEqDiff, Nat.reduceAdd, Nat.reduceSub, Nat.reduceMul, Nat.reduceDiv, Nat.reduceMod, Nat.reduceLeDiff, Nat.reduceLT, Nat.reduceBEq, Int.reduceEq, Int.reduceBEq, Int.reduceBNe, Int.reduceLT, Int.reduceLE, Int.reduceAdd, Int.reduceSub, Int.reduceNeg, Int.reduceToNat, Int.reducePow, Nat.reducePow, Int.reduceMul, Int.reduceDiv, ↓s_slices_BinarySearchFunc_string, hlen]
      rw [hz, hloop _ (l.length - 0) 0 l.length rfl (by omega) hpl (by omega)]
      simp (disch := first | with_reducible rfl | assumption | omega | rfl | (simp only [go_sem]; first | done | omega)) only [go_sem, ↓reduceIte, reduceCtorEq, Nat.reduceEqDiff, Nat.reduceAdd, Nat.reduceSub, Nat.reduceMul, Nat.reduceDiv, Nat.reduceMod, Nat.reduceLeDiff, Nat.reduceLT, Nat.reduceBEq, Int.reduceEq, Int.reduceBEq, Int.reduceBNe, Int.reduceLT, Int.reduceLE, Int.reduceAdd, Int.reduceSub, Int.reduceNeg, Int.reduceToNat, Int.reducePow, Nat.reducePow, Int.reduceMul, Int.reduceDiv, hlt', hix, hc, c_model_Model_place_1, e_place_1]
      rfl
    · (repeat (first | exact Fr.refl _ | refine Fr.push ?_ _ | refine Fr.set ?_ _ _ (by intro h; first | omega | (simp only [go_sem] at h; omega))))
  · have hlt' : ¬ (p : Int) < (l.length : Int) := by omega
    have his : isP l key p = false := by unfold isP; rw [List.getElem?_eq_none (by omega)]
    rw [his]
    apply pure_of _ (d_slices_BinarySearchFunc_string _ _ _ H) rfl
    rotate_left 2
    · simp (disch := first | with_reducible rfl | assumption | omega | rfl | (simp only [go_sem]; first | done | omega)) only [go_sem, ↓reduceIte, reduceCtorEq, Nat.reduceEqDiff, Nat.reduceAdd, Nat.reduceSub, Nat.reduceMul, Nat.reduceDiv, Nat.reduceMod, Nat.reduceLeDiff, Nat.reduceLT, Nat.reduceBEq, Int.reduceEq, Int.reduceBEq, Int.reduceBNe, Int.reduceLT, Int.reduceLE, Int.reduceAdd, Int.reduceSub, Int.reduceNeg, Int.reduceToNat, Int.reducePow, Nat.reducePow, Int.reduceMul, Int.reduceDiv, ↓s_slices_BinarySearchFunc_string, hlen]
      rw [hz, hloop _ (l.length - 0) 0 l.length rfl (by omega) hpl (by omega)]
      simp (disch := first | with_reducible rfl | assumption | omega | rfl | (simp only [go_sem]; first | done | omega)) only [go_sem, ↓reduceIte, reduceCtorEq, Nat.reduceEqDiff, Nat.reduceAdd, Nat.reduceSub, Nat.reduceMul, Nat.reduceDiv, Nat.reduceMod, Nat.reduceLeDiff, Nat.reduceLT, Nat.reduceBEq, Int.reduceEq, Int.reduceBEq, Int.reduceBNe, Int.reduceLT, Int.reduceLE, Int.reduceAdd, Int.reduceSub, Int.reduceNeg, Int.reduceToNat, Int.reducePow, Nat.reducePow, Int.reduceMul, Int.reduceDiv, hlt']
      rfl
    · (repeat (first | exact Fr.refl _ | refine Fr.push ?_ _ | refine Fr.set ?_ _ _ (by intro h; first | omega | (simp only [go_sem] at h; omega))))

/-! ### The check -/
theorem q_check_1 (a : ByteArray) (H : AHeap) : CC F.model_check_1 [.string a] H = some (.bool (decide (40 < (bl a).length)), H) := by
  have e : decide ((40 : Int) < ((bl a).length : Int)) = decide (40 < (bl a).length) := decide_eq_decide.2 (by omega)
  apply pure_of _ (d_model_check_1 _ H) rfl
  rotate_left 2
  · simp (disch := first | with_reducible rfl | assumption | omega | rfl | (simp only [go_sem]; first | done | omega)) only [go_sem, ↓reduceIte, reduceCtorEq, Nat.reduceEqDiff, Nat.reduceAdd, Nat.reduceSub, Nat.reduceMul, Nat.reduceDiv, Nat.reduceMod, Nat.reduceLeDiff, Nat.reduceLT, Nat.reduceBEq, Int.reduceEq, Int.reduceBEq, Int.reduceBNe, Int.reduceLT, Int.reduceLE, Int.reduceAdd, Int.reduceSub, Int.reduceNeg, Int.reduceToNat, Int.reducePow, Nat.reducePow, Int.reduceMul, Int.reduceDiv, ↓s_model_check_1, e]
    rfl
  · (repeat (first | exact Fr.refl _ | refine Fr.push ?_ _ | refine Fr.set ?_ _ _ (by intro h; first | omega | (simp only [go_sem] at h; omega))))
@[go_sem, go_sem ↓] theorem e_check_1 (a : ByteArray) (H : AHeap) {k : Value → AHeap → Res} : enterK CC F.model_check_1 [.string a] H k = k (.bool (decide (40 < (bl a).length))) H := enterK_eq (q_check_1 a H)

def idxLong : List ByteArray → Nat → Int
  | [], _ => -1
  | a :: l, i => if 40 < (bl a).length then i else idxLong l (i + 1)

theorem l_indexS (l : List ByteArray) (v : Value) (H : AHeap) (hr : Rd EStr H v l) (hl : l.length < 4611686018427387904) (K : K) : ∀ (m : List ByteArray) (i : Nat), l.drop i = m → i ≤ l.length →
    l_slices_IndexFunc_string_0 v (.func (.func F.model_check_1) #[] #[]) (.int .i64 l.length) (.int .i64 i) H (blkK [] 0 (seqK (fun _ h2 => K .ret [(4, .int .i64 (-1))] h2) K)) = K .ret [(4, .int .i64 (idxLong m i))] H
  | [], i, hm, hi => by
    have h : l.length ≤ i := List.drop_eq_nil_iff.1 hm
    have hlt : ¬ (i : Int) < (l.length : Int) := by omega
    rw [r_slices_IndexFunc_string_0]
    simp (disch := first | with_reducible rfl | assumption | omega | rfl | (simp only [go_sem]; first | done | omega)) only [go_sem, ↓reduceIte, reduceCtorEq, Nat.reduceEqDiff, Nat.reduceAdd, Nat.reduceSub, Nat.reduceMul, Nat.reduceDiv, Nat.reduceMod, Nat.reduceLeDiff, Nat.reduceLT, Nat.reduceBEq, Int.reduceEq, Int.reduceBEq, Int.reduceBNe, Int.reduceLT, Int.reduceLE, Int.reduceAdd, Int.reduceSub, Int.reduceNeg, Int.reduceToNat, Int.reducePow, Nat.reducePow, Int.reduceMul, Int.reduceDiv, ↓s_slices_IndexFunc_string_b0, hlt, idxLong]
  | a :: m, i, hm, hi => by
    have h : i < l.length := by
      rcases Nat.lt_or_ge i l.length with h | h
      · exact h
      · rw [List.drop_eq_nil_of_le h] at hm; cases hm
    have hlt : (i : Int) < (l.length : Int) := by omega
    have ha : l[i] = a := by rw [List.drop_eq_getElem_cons h] at hm; exact (List.cons.inj hm).1
    have hm' : l.drop (i + 1) = m := by rw [List.drop_eq_getElem_cons h] at hm; exact (List.cons.inj hm).2
    have ih := l_indexS l v H hr hl K m (i + 1) hm' h
    obtain ⟨b, o, hix, hb, hc, _⟩ := hr.ix (q := .i64) h
    rw [ha] at hc
    have hix : ixS 1 v (.int .i64 i) = some (.pointer (some ⟨b, o, none⟩)) := hix
    have hc : cellB (H.f b) o = some (.string a) := cutB_cell hc (i := 0) (by decide)
    rw [Int.natCast_add] at ih
    rw [r_slices_IndexFunc_string_0]
    by_cases he : 40 < (bl a).length
    · have hd : decide (40 < (bl a).length) = true := decide_eq_true he
      rw [idxLong, if_pos he]
      simp (disch := first | with_reducible rfl | assumption | omega | rfl | (simp only [go_sem]; first | done | omega)) only [go_sem, ↓reduceIte, reduceCtorEq, Nat.reduceEqDiff, Nat.reduceAdd, Nat.reduceSub, Nat.reduceMul, Nat.reduceDiv, Nat.reduceMod, Nat.reduceLeDiff, Nat.reduceLT, Nat.reduceBEq, Int.reduceEq, Int.reduceBEq, Int.reduceBNe, Int.reduceLT, Int.reduceLE, Int.reduceAdd, Int.reduceSub, Int.reduceNeg, Int.reduceToNat, Int.reducePow, Nat.reducePow, Int.reduceMul, Int.reduceDiv, ↓s_slices_IndexFunc_string_b0, hlt, hix, hc, c_model_check_1, e_check_1, hd]
    · have hd : decide (40 < (bl a).length) = false := decide_eq_false he
      rw [idxLong, if_neg he]
      simp (disch := first | with_reducible rfl | assumption | omega | rfl | (simp only [go_sem]; first | done | omega)) only [go_sem, ↓reduceIte, reduceCtorEq, Nat.reduceEqDiff, Nat.reduceAdd, Nat.reduceSub, Nat.reduceMul, Nat.reduceDiv, Nat.reduceMod, Nat.reduceLeDiff, Nat.reduceLT, Nat.reduceBEq, Int.reduceEq, Int.reduceBEq, Int.reduceBNe, Int.reduceLT, Int.reduceLE, Int.reduceAdd, Int.reduceSub, Int.reduceNeg, Int.reduceToNat, Int.reducePow, Nat.reducePow, Int.reduceMul, Int.reduceDiv, ↓s_slices_IndexFunc_string_b0, hlt, hix, hc, c_model_check_1, e_check_1, hd]
      exact ih

theorem idxLong_iff : ∀ (l : List ByteArray) (i : Nat), (0 ≤ idxLong l i) = (∃ a, a ∈ l ∧ 40 < (bl a).length)
  | [], i => by simp [idxLong]
  | a :: l, i => by
    rw [idxLong]
    by_cases h : 40 < (bl a).length
    · rw [if_pos h]; simp [h]
    · rw [if_neg h, idxLong_iff l (i + 1)]; simp [h]

/-- The error of a key and values. -/
def chk (key : ByteArray) (vs : List ByteArray) : Int :=
  if bl key = [] then 2 else if 24 < (bl key).length ∨ (vs.any fun a => decide (40 < (bl a).length)) = true then 5 else 0

theorem q_contains (l : List ByteArray) (v : Value) (H : AHeap) (hr : Rd EStr H v l) (hl : l.length < 4611686018427387904) :
    CC F.slices_ContainsFunc_string [v, .func (.func F.model_check_1) #[] #[]] H = some (.bool (l.any fun a => decide (40 < (bl a).length)), H) := by
  have hlen := hr.lenS
  have hix : CC F.slices_IndexFunc_string [v, .func (.func F.model_check_1) #[] #[]] H = some (.int .i64 (idxLong l 0), H) := by
    apply pure_of _ (d_slices_IndexFunc_string _ _ H) rfl
    rotate_left 2
    · simp (disch := first | with_reducible rfl | assumption | omega | rfl | (simp only [go_sem]; first | done | omega)) only [go_sem, ↓reduceIte, reduceCtorEq, Nat.reduceEqDiff, Nat.reduceAdd, Nat.reduceSub, Nat.reduceMul, Nat.reduceDiv, Nat.reduceMod, Nat.reduceLeDiff, Nat.reduceLT, Nat.reduceBEq, Int.reduceEq, Int.reduceBEq, Int.reduceBNe, Int.reduceLT, Int.reduceLE, Int.reduceAdd, Int.reduceSub, Int.reduceNeg, Int.reduceToNat, Int.reducePow, Nat.reducePow, Int.reduceMul, Int.reduceDiv, ↓s_slices_IndexFunc_string, hlen]
      exact l_indexS l v H hr hl (endK Try.prog [.tmp 4]) l 0 (by simp) (by omega)
    · (repeat (first | exact Fr.refl _ | refine Fr.push ?_ _ | refine Fr.set ?_ _ _ (by intro h; first | omega | (simp only [go_sem] at h; omega))))
  have e : decide (0 ≤ idxLong l 0) = l.any fun a => decide (40 < (bl a).length) := by
    rw [Bool.eq_iff_iff, decide_eq_true_iff, idxLong_iff, List.any_eq_true]
    simp
  apply pure_of _ (d_slices_ContainsFunc_string _ _ H) rfl
  rotate_left 2
  · simp (disch := first | with_reducible rfl | assumption | omega | rfl | (simp only [go_sem]; first | done | omega)) only [go_sem, ↓reduceIte, reduceCtorEq, Nat.reduceEqDiff, Nat.reduceAdd, Nat.reduceSub, Nat.reduceMul, Nat.reduceDiv, Nat.reduceMod, Nat.reduceLeDiff, Nat.reduceLT, Nat.reduceBEq, Int.reduceEq, Int.reduceBEq, Int.reduceBNe, Int.reduceLT, Int.reduceLE, Int.reduceAdd, Int.reduceSub, Int.reduceNeg, Int.reduceToNat, Int.reducePow, Nat.reducePow, Int.reduceMul, Int.reduceDiv, ↓s_slices_ContainsFunc_string, enterK_eq hix, e]
    rfl
  · (repeat (first | exact Fr.refl _ | refine Fr.push ?_ _ | refine Fr.set ?_ _ _ (by intro h; first | omega | (simp only [go_sem] at h; omega))))

theorem q_check (key : ByteArray) (l : List ByteArray) (v : Value) (H : AHeap) (hr : Rd EStr H v l) (hl : l.length < 4611686018427387904) :
    CC F.model_check [.string key, v] H = some (.int .i64 (chk key l), H) := by
  have hcon := q_contains l v H hr hl
  unfold chk
  by_cases h1 : bl key = []
  · have hd : decide (bl key = []) = true := decide_eq_true h1
    rw [if_pos h1]
    apply pure_of _ (d_model_check _ _ H) rfl
    rotate_left 2
    · simp (disch := first | with_reducible rfl | assumption | omega | rfl | (simp only [go_sem]; first | done | omega)) only [go_sem, ↓reduceIte, reduceCtorEq, Nat.reduceEqDiff, Nat.reduceAdd, Nat.reduceSub, Nat.reduceMul, Nat.reduceDiv, Nat.reduceMod, Nat.reduceLeDiff, Nat.reduceLT, Nat.reduceBEq, Int.reduceEq, Int.reduceBEq, Int.reduceBNe, Int.reduceLT, Int.reduceLE, Int.reduceAdd, Int.reduceSub, Int.reduceNeg, Int.reduceToNat, Int.reducePow, Nat.reducePow, Int.reduceMul, Int.reduceDiv, ↓s_model_check, hd]
      rfl
    · (repeat (first | exact Fr.refl _ | refine Fr.push ?_ _ | refine Fr.set ?_ _ _ (by intro h; first | omega | (simp only [go_sem] at h; omega))))
  · have hd : decide (bl key = []) = false := decide_eq_false h1
    rw [if_neg h1]
    by_cases h2 : 24 < (bl key).length
    · have hd2 : decide ((24 : Int) < ((bl key).length : Int)) = true := decide_eq_true (by omega)
      rw [if_pos (.inl h2)]
      apply pure_of _ (d_model_check _ _ H) rfl
      rotate_left 2
      · simp (disch := first | with_reducible rfl | assumption | omega | rfl | (simp only [go_sem]; first | done | omega)) only [go_sem, ↓reduceIte, reduceCtorEq, Nat.reduceEqDiff, Nat.reduceAdd, Nat.reduceSub, Nat.reduceMul, Nat.reduceDiv, Nat.reduceMod, Nat.reduceLeDiff, Nat.reduceLT, Nat.reduceBEq, Int.reduceEq, Int.reduceBEq, Int.reduceBNe, Int.reduceLT, Int.reduceLE, Int.reduceAdd, Int.reduceSub, Int.reduceNeg, Int.reduceToNat, Int.reducePow, Nat.reducePow, Int.reduceMul, Int.reduceDiv, ↓s_model_check, hd, hd2]
        rfl
      · (repeat (first | exact Fr.refl _ | refine Fr.push ?_ _ | refine Fr.set ?_ _ _ (by intro h; first | omega | (simp only [go_sem] at h; omega))))
    · have hd2 : decide ((24 : Int) < ((bl key).length : Int)) = false := decide_eq_false (by omega)
      cases hany : l.any fun a => decide (40 < (bl a).length) with
      | true =>
        rw [hany] at hcon
        rw [if_pos (.inr rfl)]
        apply pure_of _ (d_model_check _ _ H) rfl
        rotate_left 2
        · simp (disch := first | with_reducible rfl | assumption | omega | rfl | (simp only [go_sem]; first | done | omega)) only [go_sem, ↓reduceIte, reduceCtorEq, Nat.reduceEqDiff, Nat.reduceAdd, Nat.reduceSub, Nat.reduceMul, Nat.reduceDiv, Nat.reduceMod, Nat.reduceLeDiff, Nat.reduceLT, Nat.reduceBEq, Int.reduceEq, Int.reduceBEq, Int.reduceBNe, Int.reduceLT, Int.reduceLE, Int.reduceAdd, Int.reduceSub, Int.reduceNeg, Int.reduceToNat, Int.reducePow, Nat.reducePow, Int.reduceMul, Int.reduceDiv, ↓s_model_check, hd, hd2, enterK_eq hcon]
          rfl
        · (repeat (first | exact Fr.refl _ | refine Fr.push ?_ _ | refine Fr.set ?_ _ _ (by intro h; first | omega | (simp only [go_sem] at h; omega))))
      | false =>
        rw [hany] at hcon
        rw [if_neg (by simp; omega)]
        apply pure_of _ (d_model_check _ _ H) rfl
        rotate_left 2
        · simp (disch := first | with_reducible rfl | assumption | omega | rfl | (simp only [go_sem]; first | done | omega)) only [go_sem, ↓reduceIte, reduceCtorEq, Nat.reduceEqDiff, Nat.reduceAdd, Nat.reduceSub, Nat.reduceMul, Nat.reduceDiv, Nat.reduceMod, Nat.reduceLeDiff, Nat.reduceLT, Nat.reduceBEq, Int.reduceEq, Int.reduceBEq, Int.reduceBNe, Int.reduceLT, Int.reduceLE, Int.reduceAdd, Int.reduceSub, Int.reduceNeg, Int.reduceToNat, Int.reducePow, Nat.reducePow, Int.reduceMul, Int.reduceDiv, ↓s_model_check, hd, hd2, enterK_eq hcon]
          rfl
        · (repeat (first | exact Fr.refl _ | refine Fr.push ?_ _ | refine Fr.set ?_ _ _ (by intro h; first | omega | (simp only [go_sem] at h; omega))))

/-! ### The map -/
def MdlT (t : TypeId) (H : AHeap) (b : Nat) (l : List Pr) : Prop := ∃ v, H.f b = .cells [v] t true ∧ b < H.n ∧ Own EPr H T.api_Pair v l ∧ blockOf v ≠ some b
abbrev Mdl := MdlT T.model_Model

theorem MdlT.keep {t : TypeId} {H H' : AHeap} {S : Nat → Prop} {b : Nat} {l : List Pr} (r : MdlT t H b l) (h : Fr S H H') (hb : ¬ S b) (hv : ∀ v, H.f b = .cells [v] t true → Off S v) : MdlT t H' b l := by
  obtain ⟨v, h1, h2, h3, h4⟩ := r
  exact ⟨v, by rw [h.f h2 hb]; exact h1, Nat.lt_of_lt_of_le h2 h.n, h3.keep h (hv v h1), h4⟩
theorem MdlT.still {t : TypeId} {H H' : AHeap} {b : Nat} {l : List Pr} (r : MdlT t H b l) (h : Still H H') : MdlT t H' b l := r.keep h (fun h => h) fun _ _ _ _ h => h

def MOk (H : AHeap) : Prop := ∀ b, H.ver b < H.clk
theorem MOk.fr {S : Nat → Prop} {H H' : AHeap} (h : MOk H) (f : Fr S H H') : MOk H' := f.ok h
theorem H0_ok : MOk H0 := fun _ => Nat.zero_lt_one

/-- The blocks of a map. -/
def MBT (t : TypeId) (H : AHeap) (b : Nat) : Nat → Prop := fun c => c = b ∨ ∃ v, H.f b = .cells [v] t true ∧ blockOf v = some c
abbrev MB := MBT T.model_Model

theorem q_place (b : Nat) (l : List Pr) (key : ByteArray) (H : AHeap) (r : Mdl H b l) (hl : l.length < 1152921504606846976) (p : Nat) (hp : PosP l key p) :
    CC F.model_Model_place [.pointer (some ⟨b, 0, none⟩), .string key] H = some (.tuple #[.int .i64 p, .bool (isP l key p)], H) := by
  obtain ⟨v, h1, h2, h3, h4⟩ := r
  have hbs := q_bsP l v key H h3.rd hl p hp
  apply pure_of _ (d_model_Model_place _ _ H) rfl
  rotate_left 2
  · simp (disch := first | with_reducible rfl | assumption | omega | rfl | (simp only [go_sem]; first | done | omega)) only [go_sem, ↓reduceIte, reduceCtorEq, Nat.reduceEqDiff, Nat.reduceAdd, Nat.reduceSub, Nat.reduceMul, Nat.reduceDiv, Nat.reduceMod, Nat.reduceLeDiff, Nat.reduceLT, Nat.reduceBEq, Int.reduceEq, Int.reduceBEq, Int.reduceBNe, Int.reduceLT, Int.reduceLE, Int.reduceAdd, Int.reduceSub, Int.reduceNeg, Int.reduceToNat, Int.reducePow, Nat.reducePow, Int.reduceMul, Int.reduceDiv, ↓s_model_Model_place, h1, enterK_eq hbs]
    rfl
  · (repeat (first | exact Fr.refl _ | refine Fr.push ?_ _ | refine Fr.set ?_ _ _ (by intro h; first | omega | (simp only [go_sem] at h; omega))))

theorem q_at_bad (b : Nat) (key : ByteArray) (vs : List ByteArray) (v : Value) (H : AHeap) (hv : Rd EStr H v vs) (hvl : vs.length < 4611686018427387904) (hc : chk key vs ≠ 0) :
    CC F.model_Model_at [.pointer (some ⟨b, 0, none⟩), .string key, v] H = some (.tuple #[.int .i64 0, .bool false, .int .i64 (chk key vs)], H) := by
  have hck := q_check key vs v H hv hvl
  generalize chk key vs = e at hck hc
  apply pure_of _ (d_model_Model_at _ _ _ H) rfl
  rotate_left 2
  · simp (disch := first | with_reducible rfl | assumption | omega | rfl | (simp only [go_sem]; first | done | omega)) only [go_sem, ↓reduceIte, reduceCtorEq, Nat.reduceEqDiff, Nat.reduceAdd, Nat.reduceSub, Nat.reduceMul, Nat.reduceDiv, Nat.reduceMod, Nat.reduceLeDiff, Nat.reduceLT, Nat.reduceBEq, Int.reduceEq, Int.reduceBEq, Int.reduceBNe, Int.reduceLT, Int.reduceLE, Int.reduceAdd, Int.reduceSub, Int.reduceNeg, Int.reduceToNat, Int.reducePow, Nat.reducePow, Int.reduceMul, Int.reduceDiv, ↓s_model_Model_at, mp_some, enterK_eq hck, hc]
    rfl
  · (repeat (first | exact Fr.refl _ | refine Fr.push ?_ _ | refine Fr.set ?_ _ _ (by intro h; first | omega | (simp only [go_sem] at h; omega))))

theorem q_at (b : Nat) (l : List Pr) (key : ByteArray) (vs : List ByteArray) (v : Value) (H : AHeap) (r : Mdl H b l) (hl : l.length < 1152921504606846976) (p : Nat) (hp : PosP l key p) (hv : Rd EStr H v vs) (hvl : vs.length < 4611686018427387904) (hc : chk key vs = 0) :
    CC F.model_Model_at [.pointer (some ⟨b, 0, none⟩), .string key, v] H = some (.tuple #[.int .i64 p, .bool (isP l key p), .int .i64 0], H) := by
  have hck := q_check key vs v H hv hvl
  rw [hc] at hck
  have hpl := q_place b l key H r hl p hp
  apply pure_of _ (d_model_Model_at _ _ _ H) rfl
  rotate_left 2
  · simp (disch := first | with_reducible rfl | assumption | omega | rfl | (simp only [go_sem]; first | done | omega)) only [go_sem, ↓reduceIte, reduceCtorEq, Nat.reduceEqDiff, Nat.reduceAdd, Nat.reduceSub, Nat.reduceMul, Nat.reduceDiv, Nat.reduceMod, Nat.reduceLeDiff, Nat.reduceLT, Nat.reduceBEq, Int.reduceEq, Int.reduceBEq, Int.reduceBNe, Int.reduceLT, Int.reduceLE, Int.reduceAdd, Int.reduceSub, Int.reduceNeg, Int.reduceToNat, Int.reducePow, Nat.reducePow, Int.reduceMul, Int.reduceDiv, ↓s_model_Model_at, mp_some, enterK_eq hck, c_model_Model_place, enterK_eq hpl]
    rfl
  · (repeat (first | exact Fr.refl _ | refine Fr.push ?_ _ | refine Fr.set ?_ _ _ (by intro h; first | omega | (simp only [go_sem] at h; omega))))

def getP (l : List Pr) (key : ByteArray) (p : Nat) : Value := if isP l key p = true then .tuple #[.string ((l[p]?).elim (mk []) Pr.value), .int .i64 0] else .tuple #[.string (mk []), .int .i64 9]

end Go.Proofs.Ytehnchfnhbmkdaa

/-
  The plain map: set, Put, Insert, Delete, Swap.
  Conditions: none. By an AI agent.
-/
set_option maxRecDepth 10000
set_option linter.unusedSimpArgs false
set_option linter.unusedVariables false
namespace Go.Proofs.Ytehnchfnhbmkdaa
open Go Eng

theorem srcOne {a : Pr} {b : Nat} {H : AHeap} (h : H.f b = .cells [.string a.key, .string a.value] T.api_Pair true) : srcS 2 (.slice (some ⟨b, 0, none⟩) 1 2) H = some ([a].length, EPr.cells [a]) := by
  unfold srcS
  simp only [cut_b, h, Nat.one_ne_zero, if_false]
  rfl

/-- Writing an element of a list of its own. -/
theorem Own.write {l : List Pr} {v : Value} {H : AHeap} (r : Own EPr H T.api_Pair v l) {i : Nat} (hi : i < l.length) (a : Pr) :
    ∃ b o H', ixS 2 v (.int .i64 (i : Int)) = some (.pointer (some ⟨b, o, none⟩)) ∧ setB H b (wrL (H.f b) o [.string a.key, .string a.value]) = some H' ∧ Own EPr H' T.api_Pair v (l.set i a) ∧ blockOf v = some b ∧ b < H.n ∧
      H'.n = H.n ∧ Fr (fun c => c = b) H H' ∧ H'.ver b = H.clk := by
  rcases r with ⟨h, _⟩ | ⟨h, _⟩ | ⟨b, o, c, xs, rfl, hlc, hb, hf, ho, hx⟩
  · subst h; simp at hi
  · subst h; simp at hi
  · have hw : EPr.w = 2 := rfl
    rw [hw] at ho hx
    have hmul : l.length * 2 ≤ c * 2 := Nat.mul_le_mul_right _ hlc
    refine ⟨b, o + i * 2, H.set b (.cells (spl xs (o + i * 2) [.string a.key, .string a.value]) T.api_Pair true), ixS_nat hi, ?_, ?_, rfl, hb, rfl, Fr.set (Fr.refl H) _ _ fun _ => rfl, set_v_eq⟩
    · rw [hf, wrL_c (by simp; omega) rfl, setB_s]
    · refine .inr (.inr ⟨b, o, c, _, by simp, by simpa using hlc, by simpa using hb, set_f_eq, by rw [spl_length, hw, ho], ?_⟩)
      rw [List.length_set, hw]
      apply List.ext_getElem?
      intro j
      have hcell : ∀ (l : List Pr) (k m : Nat), m < 2 → (EPr.cells l)[k * 2 + m]? = (l[k]?).bind fun a => (EPr.enc a)[m]? := by
        intro l k m hm
        by_cases hk : k < l.length
        · have := EPr.cells_elem l k hk
          rw [hw] at this
          rw [List.getElem?_eq_getElem hk, Option.bind_some, ← this, List.getElem?_take_of_lt hm, List.getElem?_drop]
        · rw [List.getElem?_eq_none (by rw [EPr.cells_len, hw]; omega), List.getElem?_eq_none (by omega)]
          rfl
      by_cases hj : j < l.length * 2
      · rw [List.getElem?_take_of_lt hj, List.getElem?_drop, spl_get _ _ _ _ (by simp; omega)]
        have hdm : j = (j / 2) * 2 + j % 2 := by omega
        rw [hdm, hcell _ _ _ (by omega)]
        have hold : xs[o + j]? = (l[j / 2]?).bind fun a => (EPr.enc a)[j % 2]? := by
          rw [← hcell _ _ _ (by omega), ← hdm, ← hx, List.getElem?_take_of_lt hj, List.getElem?_drop]
        by_cases h1 : j / 2 = i
        · rw [if_pos (by simp; omega), ← h1, List.getElem?_set_self (by omega), Option.bind_some]
          rw [show o + (j / 2 * 2 + j % 2) - (o + j / 2 * 2) = j % 2 by omega]
          rfl
        · rw [if_neg (by simp; omega), List.getElem?_set_ne (by omega), ← hdm, hold]
      · rw [List.getElem?_eq_none (by simp only [List.length_take]; omega), List.getElem?_eq_none (by rw [EPr.cells_len, List.length_set, hw]; omega)]

/-- What a call may turn that works on a map: the map's blocks; and it has new ones at most. -/
structure UpT (t : TypeId) (H : AHeap) (b : Nat) (H' : AHeap) : Prop where
  fr : Fr (MBT t H b) H H'
  mb : ∀ c, MBT t H' b c → MBT t H b c ∨ H.n ≤ c
abbrev Up := UpT T.model_Model
theorem UpT.refl {t : TypeId} (H : AHeap) (b : Nat) : UpT t H b H := ⟨Fr.refl H, fun _ h => .inl h⟩
theorem Up.refl (H : AHeap) (b : Nat) : Up H b H := UpT.refl H b
/-- From the map's cell before and behind. -/
theorem UpT.of {t : TypeId} {H H' : AHeap} {b : Nat} {v v' : Value} (h1 : H.f b = .cells [v] t true) (f : Fr (MBT t H b) H H') (h2 : H'.f b = .cells [v'] t true) (h : ∀ c, blockOf v' = some c → blockOf v = some c ∨ H.n ≤ c) : UpT t H b H' := by
  refine ⟨f, fun c hc => ?_⟩
  rcases hc with hc | ⟨u, hu, hb⟩
  · exact .inl (.inl hc)
  · rw [h2] at hu
    cases hu
    exact (h c hb).imp (fun h => .inr ⟨v, h1, h⟩) id

/-- set, where the key is there. -/
theorem q_set_is (b : Nat) (l : List Pr) (i : Nat) (a : Pr) (H : AHeap) (ok : MOk H) (r : Mdl H b l) (hi : i < l.length) :
    ∃ H', CC F.model_Model_set [.pointer (some ⟨b, 0, none⟩), .int .i64 (i : Int), .bool true, .agg #[.string a.key, .string a.value]] H = some (.int .i64 0, H') ∧ Mdl H' b (l.set i a) ∧ Up H b H' := by
  obtain ⟨v, h1, h2, h3, h4⟩ := r
  let H1 : AHeap := H.push (.cells [.string a.key, .string a.value] T.api_Pair true)
  have s1 : Still H H1 := (Fr.refl H).push _
  have o1 : Own EPr H1 T.api_Pair v l := h3.still s1
  obtain ⟨bb, o, H2, hix, hw, o2, hbv, hb, hn2, hf2, hv2⟩ := Own.write o1 hi a
  have hbn : bb < H.n := h3.blk hbv
  have fbb : H1.f bb = H.f bb := s1.f hbn (fun h => h)
  have hw : setB (H.push (.cells [.string a.key, .string a.value] T.api_Pair true)) bb (wrL (H.f bb) o [.string a.key, .string a.value]) = some H2 := by rw [← fbb]; exact hw
  have hne : b ≠ bb := fun h => h4 (by rw [h]; exact hbv)
  have hfr : Fr (MB H b) H H2 := Fr.then (S := MB H b) s1.still hf2 fun c _ h => by subst h; exact .inr ⟨v, h1, hbv⟩
  have hfb : H2.f b = .cells [v] T.model_Model true := by rw [hf2.f (Nat.lt_of_lt_of_le h2 s1.n) hne, s1.f h2 (fun h => h), h1]
  refine ⟨H2, (d_model_Model_set _ _ _ _ H (r := (.int .i64 0, H2)) ?_).trans (congrArg some (tidy_turned hbn (ok bb) ?_)), ⟨v, hfb, by rw [hn2]; exact Nat.lt_of_lt_of_le h2 s1.n, o2, h4⟩, UpT.of h1 hfr hfb fun c h => .inl h⟩
  · simp (disch := first | with_reducible rfl | assumption | omega | rfl | (simp only [go_sem]; first | done | omega)) only [go_sem, ↓reduceIte, reduceCtorEq, Nat.reduceEqDiff, Nat.reduceAdd, Nat.reduceSub, Nat.reduceMul, Nat.reduceDiv, Nat.reduceMod, Nat.reduceLeDiff, Nat.reduceLT, Nat.reduceBEq, Int.reduceEq, Int.reduceBEq, Int.reduceBNe, Int.reduceLT, Int.reduceLE, Int.reduceAdd, Int.reduceSub, Int.reduceNeg, Int.reduceToNat, Int.reducePow, Nat.reducePow, Int.reduceMul, Int.reduceDiv, ↓s_model_Model_set, h1, hix, hw]
  · rw [hv2]; exact s1.clk

/-- set, where there is no room. -/
theorem q_set_full (b : Nat) (l : List Pr) (i : Nat) (a : Pr) (H : AHeap) (r : Mdl H b l) (hl : l.length = 20000) :
    CC F.model_Model_set [.pointer (some ⟨b, 0, none⟩), .int .i64 (i : Int), .bool false, .agg #[.string a.key, .string a.value]] H = some (.int .i64 7, H) := by
  obtain ⟨v, h1, h2, h3, h4⟩ := r
  have hlen := h3.rd.lenS
  have he : (l.length : Int) = 20000 := by omega
  rw [he] at hlen
  apply pure_of _ (d_model_Model_set _ _ _ _ H) rfl
  rotate_left 2
  · simp (disch := first | with_reducible rfl | assumption | omega | rfl | (simp only [go_sem]; first | done | omega)) only [go_sem, ↓reduceIte, reduceCtorEq, Nat.reduceEqDiff, Nat.reduceAdd, Nat.reduceSub, Nat.reduceMul, Nat.reduceDiv, Nat.reduceMod, Nat.reduceLeDiff, Nat.reduceLT, Nat.reduceBEq, Int.reduceEq, Int.reduceBEq, Int.reduceBNe, Int.reduceLT, Int.reduceLE, Int.reduceAdd, Int.reduceSub, Int.reduceNeg, Int.reduceToNat, Int.reducePow, Nat.reducePow, Int.reduceMul, Int.reduceDiv, ↓s_model_Model_set, h1, hlen]
    rfl
  · (repeat (first | exact Fr.refl _ | refine Fr.push ?_ _ | refine Fr.set ?_ _ _ (by intro h; first | omega | (simp only [go_sem] at h; omega))))

/-- set, where the key is not there. -/
theorem q_set_new (b : Nat) (l : List Pr) (i : Nat) (a : Pr) (H : AHeap) (ok : MOk H) (r : Mdl H b l) (hi : i ≤ l.length) (hl : l.length < 20000) :
    ∃ H', CC F.model_Model_set [.pointer (some ⟨b, 0, none⟩), .int .i64 (i : Int), .bool false, .agg #[.string a.key, .string a.value]] H = some (.int .i64 0, H') ∧ Mdl H' b (l.take i ++ a :: l.drop i) ∧ Up H b H' := by
  obtain ⟨v, h1, h2, h3, h4⟩ := r
  have hlen := h3.rd.lenS
  have hne : ¬ (l.length : Int) = 20000 := by omega
  generalize hH1 : H.push (.cells [.string a.key, .string a.value] T.api_Pair true) = H1
  have s1 : Still H H1 := by rw [← hH1]; exact (Fr.refl H).push _
  have n1 : H1.n = H.n + 1 := by rw [← hH1]; rfl
  have f1 : H1.f H.n = .cells [.string a.key, .string a.value] T.api_Pair true := by rw [← hH1]; exact push_f_eq rfl
  have fb1 : H1.f b = .cells [v] T.model_Model true := by rw [s1.f h2 (fun h => h), h1]
  generalize hH2 : H1.push (.cells [.string a.key, .string a.value] T.api_Pair true) = H2
  have s2 : Still H1 H2 := by rw [← hH2]; exact (Fr.refl H1).push _
  have n2 : H2.n = H1.n + 1 := by rw [← hH2]; rfl
  have f2 : H2.f H1.n = .cells [.string a.key, .string a.value] T.api_Pair true := by rw [← hH2]; exact push_f_eq rfl
  have fb2 : H2.f b = .cells [v] T.model_Model true := by rw [s2.f (by omega) (fun h => h), fb1]
  have hnb : ∀ c, blockOf v = some c → c < H.n := fun c h => h3.blk h
  obtain ⟨v6, H4, hins, ho6, fr4, hb6⟩ := q_insert_Pair l v a H1.n i H2 ((h3.still s1).still s2) (by omega) hi (by omega) f2 (fun h => by have := hnb _ h; omega)
  have hone6 : one v6 = true := ho6.cell
  have fb4 : H4.f b = .cells [v] T.model_Model true := by rw [fr4.f (by omega) h4, fb2]
  have n4 : H2.n ≤ H4.n := fr4.n
  generalize hH5 : H4.set b (.cells [v6] T.model_Model true) = H5
  have f5 : Fr (MB H b) H H5 := by
    rw [← hH5]
    refine Fr.set ?_ b _ (fun _ => .inl rfl)
    refine (s1.then s2 fun _ _ h => h).still.then (S := MB H b) fr4 fun c hc h => .inr ⟨v, h1, h⟩
  have hup : Up H b H5 := UpT.of h1 f5 (v' := v6) (by rw [← hH5]; exact set_f_eq) fun c hc => by
    rcases hb6 with h | ⟨x, h, hx⟩
    · exact .inl (by rw [← h]; exact hc)
    · rw [h] at hc; cases hc; exact .inr (by omega)
  refine ⟨H5, (d_model_Model_set _ _ _ _ H (r := (.int .i64 0, H5)) ?_).trans (congrArg some (tidy_turned h2 (ok b) ?_)), ?_, hup⟩
  · simp (disch := first | with_reducible rfl | assumption | omega | rfl | (simp only [go_sem]; first | done | omega)) only [go_sem, ↓reduceIte, reduceCtorEq, Nat.reduceEqDiff, Nat.reduceAdd, Nat.reduceSub, Nat.reduceMul, Nat.reduceDiv, Nat.reduceMod, Nat.reduceLeDiff, Nat.reduceLT, Nat.reduceBEq, Int.reduceEq, Int.reduceBEq, Int.reduceBNe, Int.reduceLT, Int.reduceLE, Int.reduceAdd, Int.reduceSub, Int.reduceNeg, Int.reduceToNat, Int.reducePow, Nat.reducePow, Int.reduceMul, Int.reduceDiv, ↓s_model_Model_set, hH1, fb1, f1, hlen, hne, hH2, enterK_eq hins, fb4, hH5]
  · rw [← hH5, set_v_eq]
    exact Nat.le_trans s1.clk (Nat.le_trans s2.clk fr4.clk)
  · have hb6' : blockOf v6 ≠ some b := by
      rcases hb6 with h | ⟨x, h, hx⟩
      · rw [h]; exact h4
      · rw [h]; intro h; cases h; omega
    refine ⟨v6, by rw [← hH5]; exact set_f_eq, by rw [← hH5]; simp; omega, ?_, hb6'⟩
    rw [← hH5]
    exact ho6.keep (S := fun x => x = b) (Fr.set (Fr.refl H4) b _ fun _ => rfl) fun c hc h => hb6' (h ▸ hc)

/-- The block of a new value: nothing of the map. -/
theorem rdOne (a : ByteArray) (H : AHeap) : Rd EStr (H.push (.cells [.string a] T.string true)) (.slice (some ⟨H.n, 0, none⟩) 1 2) [a] := by
  refine .inr (.inr ⟨H.n, 0, 2, rfl, by simp, by simp, ?_⟩)
  rw [push_f_eq rfl]
  rfl

theorem MB_still {t : TypeId} {H H1 : AHeap} {b : Nat} {v : Value} (h1 : H.f b = .cells [v] t true) (h2 : b < H.n) (s : Still H H1) : ∀ c, c < H.n → MBT t H1 b c → MBT t H b c := by
  intro c hc h
  rcases h with h | ⟨u, hu, hb⟩
  · exact .inl h
  · rw [s.f h2 (fun h => h)] at hu
    exact .inr ⟨u, hu, hb⟩

/-- What Put makes of a map: the error and the map. -/
def putP (l : List Pr) (a : Pr) (p : Nat) : Int × List Pr :=
  if isP l a.key p = true then (0, l.set p a) else if l.length = 20000 then (7, l) else (0, l.take p ++ a :: l.drop p)

theorem isP_lt {l : List Pr} {key : ByteArray} {p : Nat} (h : isP l key p = true) : p < l.length := by
  rcases Nat.lt_or_ge p l.length with h' | h'
  · exact h'
  · unfold isP at h; rw [List.getElem?_eq_none h'] at h; cases h

theorem q_set (b : Nat) (l : List Pr) (a : Pr) (p : Nat) (H : AHeap) (ok : MOk H) (r : Mdl H b l) (hp : p ≤ l.length) (hl : l.length ≤ 20000) :
    ∃ H', CC F.model_Model_set [.pointer (some ⟨b, 0, none⟩), .int .i64 (p : Int), .bool (isP l a.key p), .agg #[.string a.key, .string a.value]] H = some (.int .i64 (putP l a p).1, H') ∧ Mdl H' b (putP l a p).2 ∧ Up H b H' := by
  unfold putP
  cases his : isP l a.key p with
  | true => exact q_set_is b l p a H ok r (isP_lt his)
  | false =>
    simp only [Bool.false_eq_true, if_false]
    by_cases hf : l.length = 20000
    · rw [if_pos hf]; exact ⟨H, q_set_full b l p a H r hf, r, Up.refl H b⟩
    · rw [if_neg hf]; exact q_set_new b l p a H ok r hp (by omega)

theorem q_Put_bad (b : Nat) (l : List Pr) (a : Pr) (H : AHeap) (r : Mdl H b l) (hc : chk a.key [a.value] ≠ 0) :
    CC F.model_Model_Put [.pointer (some ⟨b, 0, none⟩), .string a.key, .string a.value] H = some (.int .i64 (chk a.key [a.value]), H) := by
  have hat := q_at_bad b a.key [a.value] _ _ (rdOne a.value H) (by simp) hc
  generalize chk a.key [a.value] = e at hat hc
  apply pure_of _ (d_model_Model_Put _ _ _ H) rfl
  rotate_left 2
  · simp (disch := first | with_reducible rfl | assumption | omega | rfl | (simp only [go_sem]; first | done | omega)) only [go_sem, ↓reduceIte, reduceCtorEq, Nat.reduceEqDiff, Nat.reduceAdd, Nat.reduceSub, Nat.reduceMul, Nat.reduceDiv, Nat.reduceMod, Nat.reduceLeDiff, Nat.reduceLT, Nat.reduceBEq, Int.reduceEq, Int.reduceBEq, Int.reduceBNe, Int.reduceLT, Int.reduceLE, Int.reduceAdd, Int.reduceSub, Int.reduceNeg, Int.reduceToNat, Int.reducePow, Nat.reducePow, Int.reduceMul, Int.reduceDiv, ↓s_model_Model_Put, enterK_eq hat, hc]
    rfl
  · (repeat (first | exact Fr.refl _ | refine Fr.push ?_ _ | refine Fr.set ?_ _ _ (by intro h; first | omega | (simp only [go_sem] at h; omega))))

/-- A call that turns the map, behind a new block. -/
theorem after_push {t : TypeId} {H H1 H' : AHeap} {b : Nat} {l : List Pr} (r : MdlT t H b l) (s : Still H H1) (f : UpT t H1 b H') : UpT t H b H' := by
  obtain ⟨v, h1, h2, h3, h4⟩ := r
  refine ⟨s.still.then (S := MBT t H b) f.fr fun c hc h => MB_still h1 h2 s c hc h, fun c hc => ?_⟩
  rcases f.mb c hc with h | h
  · rcases Nat.lt_or_ge c H.n with h' | h'
    · exact .inl (MB_still h1 h2 s c h' h)
    · exact .inr h'
  · exact .inr (Nat.le_trans s.n h)

/-- What is told of a map behind a call that may have turned it: where the call is forgotten, nothing was. -/
theorem Mdl.tidied {t : TypeId} {H H' : AHeap} {b : Nat} {l l' : List Pr} {v : Value} (ok : MOk H) (r : MdlT t H b l) (hm : MdlT t H' b l') (hfr : UpT t H b H') : ∃ H'', tidy H (v, H') = (v, H'') ∧ MdlT t H'' b l' ∧ UpT t H b H'' := by
  unfold tidy
  split
  · rename_i hg
    simp only [Bool.and_eq_true] at hg
    refine ⟨H, rfl, ?_, UpT.refl H b⟩
    obtain ⟨v, h1, h2, h3, h4⟩ := r
    obtain ⟨v', h1', h2', h3', h4'⟩ := hm
    have hsame : ∀ c, c < H.n → H'.f c = H.f c := by
      intro c hc
      rcases hfr.fr.old c hc with h | ⟨h, _⟩
      · exact h.2
      · have := List.all_eq_true.1 hg.2 c (by simpa using hc)
        have := ok c
        simp at *
        omega
    rw [hsame b h2, h1] at h1'
    cases h1'
    refine ⟨v, h1, h2, ?_, h4⟩
    rcases h3' with h | ⟨hl, x, hv, hs, hb⟩ | ⟨bb, o, c, xs, hv, hlc, hb, hff, ho, hx⟩
    · exact .inl h
    · exact .inr (.inl ⟨hl, x, hv, hs, h3.blk (by rw [hv]; rfl)⟩)
    · have hbb : bb < H.n := h3.blk (by rw [hv]; rfl)
      exact .inr (.inr ⟨bb, o, c, xs, hv, hlc, hbb, by rw [← hsame bb hbb]; exact hff, ho, hx⟩)
  · exact ⟨H', rfl, hm, hfr⟩

theorem q_Put (b : Nat) (l : List Pr) (a : Pr) (H : AHeap) (ok : MOk H) (r : Mdl H b l) (hl : l.length ≤ 20000) (p : Nat) (hp : PosP l a.key p) (hc : chk a.key [a.value] = 0) :
    ∃ H', CC F.model_Model_Put [.pointer (some ⟨b, 0, none⟩), .string a.key, .string a.value] H = some (.int .i64 (putP l a p).1, H') ∧ Mdl H' b (putP l a p).2 ∧ Up H b H' := by
  have s1 : Still H (H.push (.cells [.string a.value] T.string true)) := (Fr.refl H).push _
  have r1 := r.still s1
  have hat := q_at b l a.key [a.value] _ _ r1 (by omega) p hp (rdOne a.value H) (by simp) hc
  obtain ⟨H', hset, hm, hf⟩ := q_set b l a p _ (ok.fr s1) r1 hp.1 hl
  have hfr := after_push r s1 hf
  obtain ⟨H'', ht, hm', hf'⟩ := Mdl.tidied (v := .int .i64 (putP l a p).1) ok r hm hfr
  refine ⟨H'', (d_model_Model_Put _ _ _ H (r := (.int .i64 (putP l a p).1, H')) ?_).trans (congrArg some ht), hm', hf'⟩
  simp (disch := first | with_reducible rfl | assumption | omega | rfl | (simp only [go_sem]; first | done | omega)) only [go_sem, ↓reduceIte, reduceCtorEq, Nat.reduceEqDiff, Nat.reduceAdd, Nat.reduceSub, Nat.reduceMul, Nat.reduceDiv, Nat.reduceMod, Nat.reduceLeDiff, Nat.reduceLT, Nat.reduceBEq, Int.reduceEq, Int.reduceBEq, Int.reduceBNe, Int.reduceLT, Int.reduceLE, Int.reduceAdd, Int.reduceSub, Int.reduceNeg, Int.reduceToNat, Int.reducePow, Nat.reducePow, Int.reduceMul, Int.reduceDiv, ↓s_model_Model_Put, enterK_eq hat, enterK_eq hset]

/-- What Insert makes of a map. -/
def insertP (l : List Pr) (a : Pr) (p : Nat) : Int × List Pr :=
  if isP l a.key p = true then (11, l) else if l.length = 20000 then (7, l) else (0, l.take p ++ a :: l.drop p)

theorem q_Insert_bad (b : Nat) (l : List Pr) (a : Pr) (H : AHeap) (r : Mdl H b l) (hc : chk a.key [a.value] ≠ 0) :
    CC F.model_Model_Insert [.pointer (some ⟨b, 0, none⟩), .string a.key, .string a.value] H = some (.int .i64 (chk a.key [a.value]), H) := by
  have hat := q_at_bad b a.key [a.value] _ _ (rdOne a.value H) (by simp) hc
  generalize chk a.key [a.value] = e at hat hc
  apply pure_of _ (d_model_Model_Insert _ _ _ H) rfl
  rotate_left 2
  · simp (disch := first | with_reducible rfl | assumption | omega | rfl | (simp only [go_sem]; first | done | omega)) only [go_sem, ↓reduceIte, reduceCtorEq, Nat.reduceEqDiff, Nat.reduceAdd, Nat.reduceSub, Nat.reduceMul, Nat.reduceDiv, Nat.reduceMod, Nat.reduceLeDiff, Nat.reduceLT, Nat.reduceBEq, Int.reduceEq, Int.reduceBEq, Int.reduceBNe, Int.reduceLT, Int.reduceLE, Int.reduceAdd, Int.reduceSub, Int.reduceNeg, Int.reduceToNat, Int.reducePow, Nat.reducePow, Int.reduceMul, Int.reduceDiv, ↓s_model_Model_Insert, enterK_eq hat, hc]
    rfl
  · (repeat (first | exact Fr.refl _ | refine Fr.push ?_ _ | refine Fr.set ?_ _ _ (by intro h; first | omega | (simp only [go_sem] at h; omega))))

theorem q_Insert (b : Nat) (l : List Pr) (a : Pr) (H : AHeap) (ok : MOk H) (r : Mdl H b l) (hl : l.length ≤ 20000) (p : Nat) (hp : PosP l a.key p) (hc : chk a.key [a.value] = 0) :
    ∃ H', CC F.model_Model_Insert [.pointer (some ⟨b, 0, none⟩), .string a.key, .string a.value] H = some (.int .i64 (insertP l a p).1, H') ∧ Mdl H' b (insertP l a p).2 ∧ Up H b H' := by
  have s1 : Still H (H.push (.cells [.string a.value] T.string true)) := (Fr.refl H).push _
  have r1 := r.still s1
  have hat := q_at b l a.key [a.value] _ _ r1 (by omega) p hp (rdOne a.value H) (by simp) hc
  obtain ⟨H', hset, hm, hf⟩ := q_set b l a p _ (ok.fr s1) r1 hp.1 hl
  unfold insertP
  cases his : isP l a.key p with
  | true =>
    rw [his] at hat
    refine ⟨H, ?_, r, Up.refl H b⟩
    apply pure_of _ (d_model_Model_Insert _ _ _ H) rfl
    rotate_left 2
    · simp (disch := first | with_reducible rfl | assumption | omega | rfl | (simp only [go_sem]; first | done | omega)) only [go_sem, ↓reduceIte, reduceCtorEq, Nat.reduceEqDiff, Nat.reduceAdd, Nat.reduceSub, Nat.reduceMul, Nat.reduceDiv, Nat.reduceMod, Nat.reduceLeDiff, Nat.reduceLT, Nat.reduceBEq, Int.reduceEq, Int.reduceBEq, Int.reduceBNe, Int.reduceLT, Int.reduceLE, Int.reduceAdd, Int.reduceSub, Int.reduceNeg, Int.reduceToNat, Int.reducePow, Nat.reducePow, Int.reduceMul, Int.reduceDiv, ↓s_model_Model_Insert, enterK_eq hat]
      rfl
    · (repeat (first | exact Fr.refl _ | refine Fr.push ?_ _ | refine Fr.set ?_ _ _ (by intro h; first | omega | (simp only [go_sem] at h; omega))))
  | false =>
    rw [his] at hat hset
    have e : putP l a p = if l.length = 20000 then (7, l) else (0, l.take p ++ a :: l.drop p) := by unfold putP; rw [his]; rfl
    rw [e] at hset hm
    simp only [Bool.false_eq_true, if_false]
    generalize (if l.length = 20000 then ((7 : Int), l) else (0, l.take p ++ a :: l.drop p)) = w at hset hm ⊢
    obtain ⟨H'', ht, hm', hf'⟩ := Mdl.tidied (v := .int .i64 w.1) ok r hm (after_push r s1 hf)
    refine ⟨H'', (d_model_Model_Insert _ _ _ H (r := (.int .i64 w.1, H')) ?_).trans (congrArg some ht), hm', hf'⟩
    simp (disch := first | with_reducible rfl | assumption | omega | rfl | (simp only [go_sem]; first | done | omega)) only [go_sem, ↓reduceIte, reduceCtorEq, Nat.reduceEqDiff, Nat.reduceAdd, Nat.reduceSub, Nat.reduceMul, Nat.reduceDiv, Nat.reduceMod, Nat.reduceLeDiff, Nat.reduceLT, Nat.reduceBEq, Int.reduceEq, Int.reduceBEq, Int.reduceBNe, Int.reduceLT, Int.reduceLE, Int.reduceAdd, Int.reduceSub, Int.reduceNeg, Int.reduceToNat, Int.reducePow, Nat.reducePow, Int.reduceMul, Int.reduceDiv, ↓s_model_Model_Insert, enterK_eq hat, enterK_eq hset]

end Go.Proofs.Ytehnchfnhbmkdaa

/-
  The plain map: Swap, Range, Min, Max, Len, Pairs, Copy, Equal, Of.
  Conditions: none. By an AI agent.
-/
set_option maxRecDepth 10000
set_option linter.unusedSimpArgs false
set_option linter.unusedVariables false
namespace Go.Proofs.Ytehnchfnhbmkdaa
open Go Eng

@[go_sem] theorem xload_Pair {a : Value} {H : AHeap} : xload Try.prog T.api_Pair a H = ldN 2 H a := by kernel_rfl
theorem pair_ne {ox oy : Operand} {a b : Pr} : xbin Try.prog .neq T.api_Pair ox oy (.agg #[.string a.key, .string a.value]) (.agg #[.string b.key, .string b.value]) = some (.bool (!(decide (bl a.key = bl b.key) && decide (bl a.value = bl b.value)))) := by
  have h := agg_ne (P := Try.prog) (t := T.api_Pair) (xs := [.string a.key, .string a.value]) (ys := [.string b.key, .string b.value]) (ox := ox) (oy := oy) Try.underlying60 (by kernel_rfl) (by kernel_rfl) (by kernel_rfl) rfl rfl
  rw [h]
  simp [ceqs, ceq]
theorem pair_eq {ox oy : Operand} {a b : Pr} : xbin Try.prog .eql T.api_Pair ox oy (.agg #[.string a.key, .string a.value]) (.agg #[.string b.key, .string b.value]) = some (.bool (decide (bl a.key = bl b.key) && decide (bl a.value = bl b.value))) := by
  have h := agg_eq (P := Try.prog) (t := T.api_Pair) (xs := [.string a.key, .string a.value]) (ys := [.string b.key, .string b.value]) (ox := ox) (oy := oy) Try.underlying60 (by kernel_rfl) (by kernel_rfl) (by kernel_rfl) rfl rfl
  rw [h]
  simp [ceqs, ceq]
theorem pr_ext {a b : Pr} : a = b ↔ bl a.key = bl b.key ∧ bl a.value = bl b.value := by
  constructor
  · rintro rfl; exact ⟨rfl, rfl⟩
  · rintro ⟨h1, h2⟩
    cases a; cases b
    simp only at h1 h2
    rw [bl_inj h1, bl_inj h2]

/-! ### Swap -/
theorem rdTwo (a c : ByteArray) (H : AHeap) : Rd EStr (H.push (.cells [.string a, .string c] T.string true)) (.slice (some ⟨H.n, 0, none⟩) 2 4) [a, c] := by
  refine .inr (.inr ⟨H.n, 0, 4, rfl, by simp, by simp, ?_⟩)
  rw [push_f_eq rfl]
  rfl

/-- What Swap makes of a map. -/
def swapP (l : List Pr) (key old new : ByteArray) (p : Nat) : Int × List Pr :=
  if isP l key p = true then (if bl ((l[p]?).elim (mk []) Pr.value) = bl old then (0, l.set p ⟨key, new⟩) else (11, l)) else (9, l)

/-! ### Len, Pairs, Copy, Min, Max -/
theorem q_Len (b : Nat) (l : List Pr) (H : AHeap) (r : Mdl H b l) : CC F.model_Model_Len [.pointer (some ⟨b, 0, none⟩)] H = some (.int .i64 l.length, H) := by
  obtain ⟨v, h1, h2, h3, h4⟩ := r
  have hlen := h3.rd.lenS
  apply pure_of _ (d_model_Model_Len _ H) rfl
  rotate_left 2
  · simp (disch := first | with_reducible rfl | assumption | omega | rfl | (simp only [go_sem]; first | done | omega)) only [go_sem, ↓reduceIte, reduceCtorEq, Nat.reduceEqDiff, Nat.reduceAdd, Nat.reduceSub, Nat.reduceMul, Nat.reduceDiv, Nat.reduceMod, Nat.reduceLeDiff, Nat.reduceLT, Nat.reduceBEq, Int.reduceEq, Int.reduceBEq, Int.reduceBNe, Int.reduceLT, Int.reduceLE, Int.reduceAdd, Int.reduceSub, Int.reduceNeg, Int.reduceToNat, Int.reducePow, Nat.reducePow, Int.reduceMul, Int.reduceDiv, ↓s_model_Model_Len, mp_some, h1, hlen]
    rfl
  · (repeat (first | exact Fr.refl _ | refine Fr.push ?_ _ | refine Fr.set ?_ _ _ (by intro h; first | omega | (simp only [go_sem] at h; omega))))

/-- A slice whose block, if it has one, is new. -/
def New (H : AHeap) (v : Value) : Prop := ∀ b, blockOf v = some b → H.n ≤ b

theorem own_tidied {H H' : AHeap} {v : Value} {l : List Pr} (ho : Own EPr H' T.api_Pair v l) (hs : Still H H') (hn : New H v) {x : Res} (hx : x = some (tidy H (v, H'))) :
    ∃ H'', x = some (v, H'') ∧ Own EPr H'' T.api_Pair v l ∧ Still H H'' ∧ New H v := by
  unfold tidy at hx
  split at hx
  · rename_i hg
    simp only [Bool.and_eq_true] at hg
    refine ⟨H, hx, ?_, Fr.refl _, hn⟩
    rcases ho with h | ⟨_, a, h, _⟩ | ⟨b, o, c, xs, h, _⟩
    · exact .inl h
    · rw [h] at hg; exact absurd hg.1 (by simp [gr])
    · rw [h] at hg; exact absurd hg.1 (by simp [gr])
  · exact ⟨H', hx, ho, hs, hn⟩

theorem q_Pairs (b : Nat) (l : List Pr) (H : AHeap) (r : Mdl H b l) (hl : l.length ≤ 1000000000000) :
    ∃ v' H', CC F.model_Model_Pairs [.pointer (some ⟨b, 0, none⟩)] H = some (v', H') ∧ Own EPr H' T.api_Pair v' l ∧ Still H H' ∧ New H v' := by
  obtain ⟨v, h1, h2, h3, h4⟩ := r
  obtain ⟨v', H', hcl, ho, hs, hn⟩ := q_clone_Pair l v H h3.rd hl
  obtain ⟨H'', h⟩ := own_tidied ho hs hn (d_model_Model_Pairs (.pointer (some ⟨b, 0, none⟩)) H (r := (v', H')) (by simp (disch := first | with_reducible rfl | assumption | omega | rfl | (simp only [go_sem]; first | done | omega)) only [go_sem, ↓reduceIte, reduceCtorEq, Nat.reduceEqDiff, Nat.reduceAdd, Nat.reduceSub, Nat.reduceMul, Nat.reduceDiv, Nat.reduceMod, Nat.reduceLeDiff, Nat.reduceLT, Nat.reduceBEq, Int.reduceEq, Int.reduceBEq, Int.reduceBNe, Int.reduceLT, Int.reduceLE, Int.reduceAdd, Int.reduceSub, Int.reduceNeg, Int.reduceToNat, Int.reducePow, Nat.reducePow, Int.reduceMul, Int.reduceDiv, ↓s_model_Model_Pairs, mp_some, h1, enterK_eq hcl]))
  exact ⟨v', H'', h⟩

/-- The first pair, the last pair. -/
def endV (a : Option Pr) : Value := match a with | some a => .tuple #[.agg #[.string a.key, .string a.value], .int .i64 0] | none => .tuple #[.agg #[.string (mk []), .string (mk [])], .int .i64 9]

end Go.Proofs.Ytehnchfnhbmkdaa

/-
  The order of strings.
  Conditions: none. By an AI agent.
-/
set_option maxRecDepth 10000
set_option linter.unusedSimpArgs false
set_option linter.unusedVariables false
namespace Go.Proofs.Ytehnchfnhbmkdaa
open Go Eng

theorem u8_lt {a b : UInt8} : a < b ↔ a.toNat < b.toNat := UInt8.lt_iff_toNat_lt
theorem u8_eq {a b : UInt8} : a = b ↔ a.toNat = b.toNat := UInt8.toNat_inj.symm

theorem cb_eq : ∀ {a b : List UInt8}, Lib.compareBytes a b = 0 ↔ a = b
  | [], [] => by simp [Lib.compareBytes]
  | [], _ :: _ => by simp [Lib.compareBytes]
  | _ :: _, [] => by simp [Lib.compareBytes]
  | a :: x, b :: y => by
    unfold Lib.compareBytes
    by_cases h1 : a < b
    · have := u8_lt.1 h1
      simp only [if_pos h1]
      constructor
      · intro h; cases h
      · intro h; cases h; omega
    · by_cases h2 : b < a
      · have := u8_lt.1 h2
        simp only [if_neg h1, if_pos h2]
        constructor
        · intro h; cases h
        · intro h; cases h; omega
      · have h3 : a = b := u8_eq.2 (by rw [u8_lt] at h1 h2; omega)
        subst h3
        simp only [if_neg h1]
        rw [cb_eq]
        simp
theorem cb_lt : ∀ {a b : List UInt8}, Op.bytesLess a b = true ↔ Lib.compareBytes a b < 0
  | [], [] => by simp [Lib.compareBytes, Op.bytesLess]
  | [], _ :: _ => by simp [Lib.compareBytes, Op.bytesLess]
  | _ :: _, [] => by simp [Lib.compareBytes, Op.bytesLess]
  | a :: x, b :: y => by
    unfold Lib.compareBytes
    rw [Op.bytesLess, Bool.or_eq_true, Bool.and_eq_true, cb_lt]
    by_cases h1 : a < b
    · simp [h1]
    · by_cases h2 : b < a
      · have h3 : ¬ a = b := fun h => by subst h; exact h1 h2
        simp [h1, h2, h3]
      · have h3 : a = b := u8_eq.2 (by rw [u8_lt] at h1 h2; omega)
        subst h3
        simp [h1]
theorem cb_swap : ∀ {a b : List UInt8}, Lib.compareBytes b a = - Lib.compareBytes a b
  | [], [] => by simp [Lib.compareBytes]
  | [], _ :: _ => by simp [Lib.compareBytes]
  | _ :: _, [] => by simp [Lib.compareBytes]
  | a :: x, b :: y => by
    unfold Lib.compareBytes
    by_cases h1 : a < b
    · have h2 : ¬ b < a := by rw [u8_lt] at h1 ⊢; omega
      simp [h1, h2]
    · by_cases h2 : b < a
      · simp [h1, h2]
      · simp only [if_neg h1, if_neg h2]
        exact cb_swap
theorem cb_trans : ∀ {a b c : List UInt8}, Lib.compareBytes a b < 0 → Lib.compareBytes b c < 0 → Lib.compareBytes a c < 0
  | _, b, [], _, h => by cases b <;> simp [Lib.compareBytes] at h
  | a, [], _ :: _, h, _ => by cases a <;> simp [Lib.compareBytes] at h
  | [], _ :: _, _ :: _, _, _ => by simp [Lib.compareBytes]
  | a :: x, b :: y, c :: z, h1, h2 => by
    rw [Lib.compareBytes] at h1 h2 ⊢
    by_cases p : a < b
    · by_cases q : b < c
      · have : a < c := by rw [u8_lt] at p q ⊢; omega
        rw [if_pos this]; decide
      · rw [if_neg q] at h2
        by_cases q' : c < b
        · rw [if_pos q'] at h2; cases h2
        · have : a < c := by rw [u8_lt] at p q q' ⊢; omega
          rw [if_pos this]; decide
    · rw [if_neg p] at h1
      by_cases p' : b < a
      · rw [if_pos p'] at h1; cases h1
      · rw [if_neg p'] at h1
        have e : a = b := u8_eq.2 (by rw [u8_lt] at p p'; omega)
        subst e
        by_cases q : a < c
        · rw [if_pos q]; decide
        · rw [if_neg q] at h2 ⊢
          by_cases q' : c < a
          · rw [if_pos q'] at h2; cases h2
          · rw [if_neg q'] at h2 ⊢
            exact cb_trans h1 h2

theorem cmpS_self (a : ByteArray) : cmpS a a = 0 := cb_eq.2 rfl
theorem bl_inj {a b : ByteArray} (h : bl a = bl b) : a = b := by
  cases a; cases b; unfold bl at h
  congr 1
  exact Array.toList_inj.1 h
theorem cmpS_eq {a b : ByteArray} : cmpS a b = 0 ↔ a = b := ⟨fun h => bl_inj (cb_eq.1 h), fun h => by subst h; exact cmpS_self a⟩
theorem cmpS_swap (a b : ByteArray) : cmpS b a = - cmpS a b := cb_swap
theorem cmpS_trans {a b c : ByteArray} : cmpS a b < 0 → cmpS b c < 0 → cmpS a c < 0 := cb_trans
theorem less_cmpS (a b : ByteArray) : Op.bytesLess (bl a) (bl b) = decide (cmpS a b < 0) := by
  rw [Bool.eq_iff_iff, cb_lt, decide_eq_true_iff]; rfl
theorem leq_cmpS (a b : ByteArray) : (Op.bytesLess (bl a) (bl b) || bl a == bl b) = decide (cmpS a b ≤ 0) := by
  rw [Bool.eq_iff_iff, Bool.or_eq_true, cb_lt, decide_eq_true_iff, beq_iff_eq, ← cb_eq]
  show (cmpS a b < 0 ∨ cmpS a b = 0) ↔ _
  omega

end Go.Proofs.Ytehnchfnhbmkdaa

/-
  The plain map: Range, Equal, Of.
  Conditions: none. By an AI agent.
-/
set_option maxRecDepth 10000
set_option linter.unusedSimpArgs false
set_option linter.unusedVariables false
namespace Go.Proofs.Ytehnchfnhbmkdaa
open Go Eng

/-- A part in the middle that is only read. -/
theorem Own.mid {α : Type} {E : Enc α} {H : AHeap} {e : TypeId} {v : Value} {l : List α} (r : Own E H e v l) {sz : Nat} (hsz : sz = E.w) {i j : Nat} (hi : i ≤ j) (hj : j ≤ l.length) {q q' : IntKind} :
    ∃ v', slS e sz v (some (.int q (i : Int))) (some (.int q' (j : Int))) none H = some v' ∧ Rd E H v' ((l.drop i).take (j - i)) := by
  subst hsz
  rcases r with ⟨rfl, rfl⟩ | ⟨rfl, ⟨b, o, s⟩, rfl, hs, hbb⟩ | ⟨b, o, c, xs, rfl, hl, hbn, hf, ho, hx⟩
  · simp only [List.length_nil, Nat.le_zero_eq] at hj
    subst hj
    simp only [Nat.le_zero_eq] at hi
    subst hi
    exact ⟨.slice none 0 0, rfl, .inl ⟨by simp, rfl⟩⟩
  · simp only at hs
    subst hs
    simp only [List.length_nil, Nat.le_zero_eq] at hj
    subst hj
    simp only [Nat.le_zero_eq] at hi
    subst hi
    exact ⟨.slice (some ⟨b, o, none⟩) 0 0, by simp [slS, lowOf, highOf, bnd], .inr (.inl ⟨by simp, _, _, rfl, rfl⟩)⟩
  · have hmul := Nat.mul_le_mul_right E.w hl
    have hmj := Nat.mul_le_mul_right E.w hj
    have hmi := Nat.mul_le_mul_right E.w hi
    refine ⟨_, sl_lohi hf hi (Nat.le_trans hj hl), ?_⟩
    have hlen : ((l.drop i).take (j - i)).length = j - i := by simp; omega
    by_cases h0 : j - i = 0
    · rw [h0]; exact .inr (.inl ⟨by simp, _, _, rfl, rfl⟩)
    · refine .inr (.inr ⟨b, _, _, by rw [hlen], fun h => h0 (by rw [← hlen, h]; rfl), hbn, ?_⟩)
      have hsub : (j - i) * E.w = j * E.w - i * E.w := Nat.sub_mul _ _ _
      rw [hlen, hf, cutB_c (by omega), ← E.cells_take, ← E.cells_drop, ← hx, List.drop_take, List.take_take, List.drop_drop, Nat.min_eq_left (by omega)]

/-- The same where the value stands in a tuple behind a number. -/
theorem own_tidied2 {H H' : AHeap} {v : Value} {l : List Pr} {n : Int} (ho : Own EPr H' T.api_Pair v l) (hs : Still H H') (hn : New H v) {x : Res} (hx : x = some (tidy H (.tuple #[v, .int .i64 n], H'))) :
    ∃ H'', x = some (.tuple #[v, .int .i64 n], H'') ∧ Own EPr H'' T.api_Pair v l ∧ Still H H'' := by
  unfold tidy at hx
  split at hx
  · rename_i hg
    simp only [Bool.and_eq_true] at hg
    refine ⟨H, hx, ?_, Fr.refl _⟩
    rcases ho with h | ⟨_, a, h, _⟩ | ⟨b, o, c, xs, h, _⟩
    · exact .inl h
    · rw [h] at hg; exact absurd hg.1 (by simp [gr])
    · rw [h] at hg; exact absurd hg.1 (by simp [gr])
  · exact ⟨H', hx, ho, hs⟩

/-- What Range answers. -/
def rangeP (l : List Pr) (p q n : Nat) : List Pr := (l.drop p).take (min q (p + n) - p)

end Go.Proofs.Ytehnchfnhbmkdaa

/-
  The plain map: Equal, Of.
  Conditions: none. By an AI agent.
-/
set_option maxRecDepth 10000
set_option linter.unusedSimpArgs false
set_option linter.unusedVariables false
namespace Go.Proofs.Ytehnchfnhbmkdaa
open Go Eng

instance : DecidableEq Pr := fun a b => decidable_of_iff (bl a.key = bl b.key ∧ bl a.value = bl b.value) pr_ext.symm
theorem pair_ne' {ox oy : Operand} {a b : Pr} : xbin Try.prog .neq T.api_Pair ox oy (.agg #[.string a.key, .string a.value]) (.agg #[.string b.key, .string b.value]) = some (.bool (!decide (a = b))) := by
  rw [pair_ne, ← Bool.decide_and, decide_eq_decide.2 pr_ext]
theorem pair_eq' {ox oy : Operand} {a b : Pr} : xbin Try.prog .eql T.api_Pair ox oy (.agg #[.string a.key, .string a.value]) (.agg #[.string b.key, .string b.value]) = some (.bool (decide (a = b))) := by
  rw [pair_eq, ← Bool.decide_and, decide_eq_decide.2 pr_ext]


theorem l_eqP (l m : List Pr) (v w : Value) (H : AHeap) (hv : Rd EPr H v l) (hw : Rd EPr H w m) (hlm : l.length = m.length) (hl : l.length < 1152921504606846976) (K : K) : ∀ (x y : List Pr) (i : Nat), l.drop i = x → m.drop i = y →
    l_slices_Equal_Pair_0 v w (.int .i64 l.length) (.int .i64 i) H (blkK [] 0 (seqK (fun _ h2 => K .ret [(4, .bool true)] h2) K)) = K .ret [(4, .bool (decide (x = y)))] H
  | [], y, i, hx, hy => by
    have h : l.length ≤ i := List.drop_eq_nil_iff.1 hx
    have hlt : ¬ (i : Int) < (l.length : Int) := by omega
    have hy0 : y = [] := by rw [← hy]; exact List.drop_eq_nil_of_le (by omega)
    subst hy0
    rw [r_slices_Equal_Pair_0]
    simp (disch := first | with_reducible rfl | assumption | omega | rfl | (simp only [go_sem]; first | done | omega)) only [go_sem, ↓reduceIte, reduceCtorEq, Nat.reduceEqDiff, Nat.reduceAdd, Nat.reduceSub, Nat.reduceMul, Nat.reduceDiv, Nat.reduceMod, Nat.reduceLeDiff, Nat.reduceLT, Nat.reduceBEq, Int.reduceEq, Int.reduceBEq, Int.reduceBNe, Int.reduceLT, Int.reduceLE, Int.reduceAdd, Int.reduceSub, Int.reduceNeg, Int.reduceToNat, Int.reducePow, Nat.reducePow, Int.reduceMul, Int.reduceDiv, ↓s_slices_Equal_Pair_b0, hlt]
  | a :: x, [], i, hx, hy => by
    obtain ⟨h, _⟩ := drop_cons hx
    have h2 : m.length ≤ i := List.drop_eq_nil_iff.1 hy
    omega
  | a :: x, b :: y, i, hx, hy => by
    obtain ⟨h, hxa, hx'⟩ := drop_cons hx
    obtain ⟨h2, hyb, hy'⟩ := drop_cons hy
    have hlt : (i : Int) < (l.length : Int) := by omega
    have ih := l_eqP l m v w H hv hw hlm hl K x y (i + 1) hx' hy'
    obtain ⟨b1, o1, hix1, _, hc1, _⟩ := hv.ix (q := .i64) h
    obtain ⟨b2, o2, hix2, _, hc2, _⟩ := hw.ix (q := .i64) h2
    rw [hxa] at hc1
    rw [hyb] at hc2
    have hix1 : ixS 2 v (.int .i64 i) = some (.pointer (some ⟨b1, o1, none⟩)) := hix1
    have hix2 : ixS 2 w (.int .i64 i) = some (.pointer (some ⟨b2, o2, none⟩)) := hix2
    have hc1 : cutB (H.f b1) o1 2 = some [.string a.key, .string a.value] := hc1
    have hc2 : cutB (H.f b2) o2 2 = some [.string b.key, .string b.value] := hc2
    rw [Int.natCast_add] at ih
    rw [r_slices_Equal_Pair_0]
    by_cases he : a = b
    · have hd : decide (a = b) = true := decide_eq_true he
      have hd2 : decide (a :: x = b :: y) = decide (x = y) := decide_eq_decide.2 (by simp [he])
      rw [hd2]
      simp (disch := first | with_reducible rfl | assumption | omega | rfl | (simp only [go_sem]; first | done | omega)) only [go_sem, ↓reduceIte, reduceCtorEq, Nat.reduceEqDiff, Nat.reduceAdd, Nat.reduceSub, Nat.reduceMul, Nat.reduceDiv, Nat.reduceMod, Nat.reduceLeDiff, Nat.reduceLT, Nat.reduceBEq, Int.reduceEq, Int.reduceBEq, Int.reduceBNe, Int.reduceLT, Int.reduceLE, Int.reduceAdd, Int.reduceSub, Int.reduceNeg, Int.reduceToNat, Int.reducePow, Nat.reducePow, Int.reduceMul, Int.reduceDiv, ↓s_slices_Equal_Pair_b0, hlt, hix1, hc1, hix2, hc2, pair_ne', hd]
      exact ih
    · have hd : decide (a = b) = false := decide_eq_false he
      have hd2 : decide (a :: x = b :: y) = false := decide_eq_false (by simp [he])
      rw [hd2]
      simp (disch := first | with_reducible rfl | assumption | omega | rfl | (simp only [go_sem]; first | done | omega)) only [go_sem, ↓reduceIte, reduceCtorEq, Nat.reduceEqDiff, Nat.reduceAdd, Nat.reduceSub, Nat.reduceMul, Nat.reduceDiv, Nat.reduceMod, Nat.reduceLeDiff, Nat.reduceLT, Nat.reduceBEq, Int.reduceEq, Int.reduceBEq, Int.reduceBNe, Int.reduceLT, Int.reduceLE, Int.reduceAdd, Int.reduceSub, Int.reduceNeg, Int.reduceToNat, Int.reducePow, Nat.reducePow, Int.reduceMul, Int.reduceDiv, ↓s_slices_Equal_Pair_b0, hlt, hix1, hc1, hix2, hc2, pair_ne', hd]

theorem q_eqP (l m : List Pr) (v w : Value) (H : AHeap) (hv : Rd EPr H v l) (hw : Rd EPr H w m) (hl : l.length < 1152921504606846976) :
    CC F.slices_Equal_Pair [v, w] H = some (.bool (decide (l = m)), H) := by
  have l1 := hv.lenS
  have l2 := hw.lenS
  by_cases hlm : l.length = m.length
  · have hne : ¬ ¬ (l.length : Int) = (m.length : Int) := by omega
    have hloop := l_eqP l m v w H hv hw hlm hl (endK Try.prog [.tmp 4]) l m 0 rfl rfl
    have hz : Value.int IntKind.i64 0 = Value.int IntKind.i64 ((0 : Nat) : Int) := rfl
    have he : decide ((l.length : Int) = (m.length : Int)) = true := decide_eq_true (by omega)
    apply pure_of _ (d_slices_Equal_Pair _ _ H) rfl
    rotate_left 2
    · simp (disch := first | with_reducible rfl | assumption | omega | rfl | (simp only [go_sem]; first | done | omega)) only [go_sem, ↓reduceIte, reduceCtorEq, Nat.reduceEqDiff, Nat.reduceAdd, Nat.reduceSub, Nat.reduceMul, Nat.reduceDiv, Nat.reduceMod, Nat.reduceLeDiff, Nat.reduceLT, Nat.reduceBEq, Int.reduceEq, Int.reduceBEq, Int.reduceBNe, Int.reduceLT, Int.reduceLE, Int.reduceAdd, Int.reduceSub, Int.reduceNeg, Int.reduceToNat, Int.reducePow, Nat.reducePow, Int.reduceMul, Int.reduceDiv, ↓s_slices_Equal_Pair, l1, l2, he]
      exact hloop
    · (repeat (first | exact Fr.refl _ | refine Fr.push ?_ _ | refine Fr.set ?_ _ _ (by intro h; first | omega | (simp only [go_sem] at h; omega))))
  · have he : decide ((l.length : Int) = (m.length : Int)) = false := decide_eq_false (by omega)
    have hd : decide (l = m) = false := decide_eq_false fun h => hlm (by rw [h])
    rw [hd]
    apply pure_of _ (d_slices_Equal_Pair _ _ H) rfl
    rotate_left 2
    · simp (disch := first | with_reducible rfl | assumption | omega | rfl | (simp only [go_sem]; first | done | omega)) only [go_sem, ↓reduceIte, reduceCtorEq, Nat.reduceEqDiff, Nat.reduceAdd, Nat.reduceSub, Nat.reduceMul, Nat.reduceDiv, Nat.reduceMod, Nat.reduceLeDiff, Nat.reduceLT, Nat.reduceBEq, Int.reduceEq, Int.reduceBEq, Int.reduceBNe, Int.reduceLT, Int.reduceLE, Int.reduceAdd, Int.reduceSub, Int.reduceNeg, Int.reduceToNat, Int.reducePow, Nat.reducePow, Int.reduceMul, Int.reduceDiv, ↓s_slices_Equal_Pair, l1, l2, he]
      rfl
    · (repeat (first | exact Fr.refl _ | refine Fr.push ?_ _ | refine Fr.set ?_ _ _ (by intro h; first | omega | (simp only [go_sem] at h; omega))))

theorem q_Equal (b c : Nat) (l m : List Pr) (H : AHeap) (r : Mdl H b l) (s : Mdl H c m) (hl : l.length ≤ 1000000000000) (hm : m.length ≤ 1000000000000) :
    CC F.model_Equal [.pointer (some ⟨b, 0, none⟩), .pointer (some ⟨c, 0, none⟩)] H = some (.bool (decide (l = m)), H) := by
  have hl1 := q_Len b l H r
  have hl2 := q_Len c m H s
  by_cases hlm : l.length = m.length
  · obtain ⟨v1, H1, hp1, ho1, s1, _⟩ := q_Pairs b l H r hl
    obtain ⟨v2, H2, hp2, ho2, s2, _⟩ := q_Pairs c m H1 (s.still s1) hm
    have he := q_eqP l m v1 v2 H2 (ho1.still s2).rd ho2.rd (by omega)
    have hd : decide ((l.length : Int) = (m.length : Int)) = true := decide_eq_true (by omega)
    apply pure_of _ (d_model_Equal _ _ H) rfl
    rotate_left 2
    · simp (disch := first | with_reducible rfl | assumption | omega | rfl | (simp only [go_sem]; first | done | omega)) only [go_sem, ↓reduceIte, reduceCtorEq, Nat.reduceEqDiff, Nat.reduceAdd, Nat.reduceSub, Nat.reduceMul, Nat.reduceDiv, Nat.reduceMod, Nat.reduceLeDiff, Nat.reduceLT, Nat.reduceBEq, Int.reduceEq, Int.reduceBEq, Int.reduceBNe, Int.reduceLT, Int.reduceLE, Int.reduceAdd, Int.reduceSub, Int.reduceNeg, Int.reduceToNat, Int.reducePow, Nat.reducePow, Int.reduceMul, Int.reduceDiv, ↓s_model_Equal, mp_some, bne_self_eq_false, c_model_Model_Len, enterK_eq hl1, enterK_eq hl2, hd, enterK_eq hp1, enterK_eq hp2, enterK_eq he]
      rfl
    · exact s1.then s2 fun _ _ h => h
  · have hd : decide ((l.length : Int) = (m.length : Int)) = false := decide_eq_false (by omega)
    have hf : decide (l = m) = false := decide_eq_false fun h => hlm (by rw [h])
    rw [hf]
    apply pure_of _ (d_model_Equal _ _ H) rfl
    rotate_left 2
    · simp (disch := first | with_reducible rfl | assumption | omega | rfl | (simp only [go_sem]; first | done | omega)) only [go_sem, ↓reduceIte, reduceCtorEq, Nat.reduceEqDiff, Nat.reduceAdd, Nat.reduceSub, Nat.reduceMul, Nat.reduceDiv, Nat.reduceMod, Nat.reduceLeDiff, Nat.reduceLT, Nat.reduceBEq, Int.reduceEq, Int.reduceBEq, Int.reduceBNe, Int.reduceLT, Int.reduceLE, Int.reduceAdd, Int.reduceSub, Int.reduceNeg, Int.reduceToNat, Int.reducePow, Nat.reducePow, Int.reduceMul, Int.reduceDiv, ↓s_model_Equal, mp_some, bne_self_eq_false, c_model_Model_Len, enterK_eq hl1, enterK_eq hl2, hd]
      rfl
    · (repeat (first | exact Fr.refl _ | refine Fr.push ?_ _ | refine Fr.set ?_ _ _ (by intro h; first | omega | (simp only [go_sem] at h; omega))))

/-! ### Of -/
/-- The error of a list of pairs: of the pairs behind the one before. -/
def ofErr : Option Pr → List Pr → Int
  | _, [] => 0
  | o, a :: l => if chk a.key [a.value] ≠ 0 then chk a.key [a.value] else if (o.elim false fun b => decide (0 ≤ cmpS b.key a.key)) = true then 13 else ofErr (some a) l


theorem l_ofP (l : List Pr) (v : Value) (Hz : AHeap) (hr0 : Rd EPr Hz v l) (hl : l.length < 1152921504606846976) (K : K) : ∀ (x : List Pr) (i : Nat) (H : AHeap) (o : Option Pr), l.drop i = x → Still Hz H → i ≤ l.length → (if i = 0 then none else l[i - 1]?) = o → ∃ H', Still Hz H' ∧
    (l_model_Of_0 v v (.int .i64 l.length) (.int .i64 i) H (blkK [0] 0 K) = if ofErr o x = 0 then K .normal [(0, v)] H' else K .ret [(2, .pointer none), (3, .int .i64 (ofErr o x))] H')
  | [], i, H, o, hx, hs, hi, ho => by
    have h : l.length ≤ i := List.drop_eq_nil_iff.1 hx
    have hlt : ¬ (i : Int) < (l.length : Int) := by omega
    refine ⟨H, hs, ?_⟩
    rw [r_model_Of_0]
    simp only [ofErr, if_true]
    simp (disch := first | with_reducible rfl | assumption | omega | rfl | (simp only [go_sem]; first | done | omega)) only [go_sem, ↓reduceIte, reduceCtorEq, Nat.reduceEqDiff, Nat.reduceAdd, Nat.reduceSub, Nat.reduceMul, Nat.reduceDiv, Nat.reduceMod, Nat.reduceLeDiff, Nat.reduceLT, Nat.reduceBEq, Int.reduceEq, Int.reduceBEq, Int.reduceBNe, Int.reduceLT, Int.reduceLE, Int.reduceAdd, Int.reduceSub, Int.reduceNeg, Int.reduceToNat, Int.reducePow, Nat.reducePow, Int.reduceMul, Int.reduceDiv, ↓s_model_Of_b0, hlt]
  | a :: x, i, H, o, hx, hs, hi, ho => by
    obtain ⟨h, hxa, hx'⟩ := drop_cons hx
    have hlt : (i : Int) < (l.length : Int) := by omega
    obtain ⟨b1, o1, hix1, hb1, hc1, _⟩ := (hr0.still hs).ix (q := .i64) h
    rw [hxa] at hc1
    have hix1 : ixS 2 v (.int .i64 i) = some (.pointer (some ⟨b1, o1, none⟩)) := hix1
    have hc1 : cutB (H.f b1) o1 2 = some [.string a.key, .string a.value] := hc1
    generalize hH1 : (H.push (.cells [.string (mk []), .string (mk [])] T.api_Pair true)).set H.n (.cells [.string a.key, .string a.value] T.api_Pair true) = H1
    have s1 : Still H H1 := by rw [← hH1]; exact Fr.set ((Fr.refl H).push _) _ _ (fun h => by omega)
    have n1 : H1.n = H.n + 1 := by rw [← hH1]; rfl
    have f1 : H1.f H.n = .cells [.string a.key, .string a.value] T.api_Pair true := by rw [← hH1]; exact set_f_eq
    generalize hH2 : H1.push (.cells [.string a.value] T.string true) = H2
    have s2 : Still H1 H2 := by rw [← hH2]; exact (Fr.refl H1).push _
    have hck := q_check a.key [a.value] _ _ (rdOne a.value H1) (by simp)
    rw [hH2] at hck
    have f2 : H2.f H.n = .cells [.string a.key, .string a.value] T.api_Pair true := by rw [s2.f (by omega) (fun h => h), f1]
    have st : Still Hz H2 := (hs.then s1 fun _ _ h => h).still.then s2 fun _ _ h => h
    by_cases hchk : chk a.key [a.value] = 0
    · rw [hchk] at hck
      cases i with
      | zero =>
        have ho' : o = none := by rw [← ho]; rfl
        subst ho'
        obtain ⟨H', hs', ih⟩ := l_ofP l v Hz hr0 hl K x 1 H2 (some a) hx' st (by omega) (by simp [← hxa])
        refine ⟨H', hs', ?_⟩
        have e : ofErr none (a :: x) = ofErr (some a) x := by simp [ofErr, hchk]
        have hlt : (0 : Int) < (l.length : Int) := hlt
        have hix1 : ixS 2 v (.int .i64 0) = some (.pointer (some ⟨b1, o1, none⟩)) := hix1
        rw [e, r_model_Of_0]
        simp (disch := first | with_reducible rfl | assumption | omega | rfl | (simp only [go_sem]; first | done | omega)) only [go_sem, ↓reduceIte, reduceCtorEq, Nat.reduceEqDiff, Nat.reduceAdd, Nat.reduceSub, Nat.reduceMul, Nat.reduceDiv, Nat.reduceMod, Nat.reduceLeDiff, Nat.reduceLT, Nat.reduceBEq, Int.reduceEq, Int.reduceBEq, Int.reduceBNe, Int.reduceLT, Int.reduceLE, Int.reduceAdd, Int.reduceSub, Int.reduceNeg, Int.reduceToNat, Int.reducePow, Nat.reducePow, Int.reduceMul, Int.reduceDiv, ↓s_model_Of_b0, hlt, hix1, hc1, hH1, f1, hH2, enterK_eq hck]
        exact ih
      | succ k =>
        have hk : k < l.length := by omega
        have ho' : o = some l[k] := by rw [← ho]; simp [hk]
        subst ho'
        obtain ⟨b2, o2, hix2, hb2, hc2, _⟩ := (hr0.still hs).ix (q := .i64) hk
        have hix2 : ixS 2 v (.int .i64 k) = some (.pointer (some ⟨b2, o2, none⟩)) := hix2
        have hc2 : cellB (H.f b2) o2 = some (.string l[k].key) := cutB_cell hc2 (i := 0) (by decide)
        have fb2 : H2.f b2 = H.f b2 := by rw [s2.f (by omega) (fun h => h), s1.f hb2 (fun h => h)]
        obtain ⟨H', hs', ih⟩ := l_ofP l v Hz hr0 hl K x (k + 1 + 1) H2 (some a) hx' st (by omega) (by simp [← hxa])
        have hsub : ((k : Int) + 1 - 1) = (k : Int) := by omega
        have hlt : (k : Int) + 1 < (l.length : Int) := by omega
        have hpos : (0 : Int) < (k : Int) + 1 := by omega
        have hix1 : ixS 2 v (.int .i64 ((k : Int) + 1)) = some (.pointer (some ⟨b1, o1, none⟩)) := hix1
        rw [Int.natCast_add, Int.natCast_add] at ih
        by_cases hge : 0 ≤ cmpS l[k].key a.key
        · have hd : decide (0 ≤ cmpS l[k].key a.key) = true := decide_eq_true hge
          have e : ofErr (some l[k]) (a :: x) = 13 := by simp [ofErr, hchk, hge]
          refine ⟨H2, st, ?_⟩
          rw [e, r_model_Of_0, Int.natCast_add]
          simp (disch := first | with_reducible rfl | assumption | omega | rfl | (simp only [go_sem]; first | done | omega)) only [go_sem, ↓reduceIte, reduceCtorEq, Nat.reduceEqDiff, Nat.reduceAdd, Nat.reduceSub, Nat.reduceMul, Nat.reduceDiv, Nat.reduceMod, Nat.reduceLeDiff, Nat.reduceLT, Nat.reduceBEq, Int.reduceEq, Int.reduceBEq, Int.reduceBNe, Int.reduceLT, Int.reduceLE, Int.reduceAdd, Int.reduceSub, Int.reduceNeg, Int.reduceToNat, Int.reducePow, Nat.reducePow, Int.reduceMul, Int.reduceDiv, ↓s_model_Of_b0, hlt, hix1, hc1, hH1, f1, hH2, enterK_eq hck, hpos, hsub, hix2, fb2, hc2, f2, e_KCompare, hd]
        · have hd : decide (0 ≤ cmpS l[k].key a.key) = false := decide_eq_false hge
          have e : ofErr (some l[k]) (a :: x) = ofErr (some a) x := by simp [ofErr, hchk, hge]
          refine ⟨H', hs', ?_⟩
          rw [e, r_model_Of_0, Int.natCast_add]
          simp (disch := first | with_reducible rfl | assumption | omega | rfl | (simp only [go_sem]; first | done | omega)) only [go_sem, ↓reduceIte, reduceCtorEq, Nat.reduceEqDiff, Nat.reduceAdd, Nat.reduceSub, Nat.reduceMul, Nat.reduceDiv, Nat.reduceMod, Nat.reduceLeDiff, Nat.reduceLT, Nat.reduceBEq, Int.reduceEq, Int.reduceBEq, Int.reduceBNe, Int.reduceLT, Int.reduceLE, Int.reduceAdd, Int.reduceSub, Int.reduceNeg, Int.reduceToNat, Int.reducePow, Nat.reducePow, Int.reduceMul, Int.reduceDiv, ↓s_model_Of_b0, hlt, hix1, hc1, hH1, f1, hH2, enterK_eq hck, hpos, hsub, hix2, fb2, hc2, f2, e_KCompare, hd]
          exact ih
    · have e : ofErr o (a :: x) = chk a.key [a.value] := by simp [ofErr, hchk]
      refine ⟨H2, st, ?_⟩
      rw [e, if_neg hchk]
      generalize chk a.key [a.value] = y at hchk hck
      rw [r_model_Of_0]
      simp (disch := first | with_reducible rfl | assumption | omega | rfl | (simp only [go_sem]; first | done | omega)) only [go_sem, ↓reduceIte, reduceCtorEq, Nat.reduceEqDiff, Nat.reduceAdd, Nat.reduceSub, Nat.reduceMul, Nat.reduceDiv, Nat.reduceMod, Nat.reduceLeDiff, Nat.reduceLT, Nat.reduceBEq, Int.reduceEq, Int.reduceBEq, Int.reduceBNe, Int.reduceLT, Int.reduceLE, Int.reduceAdd, Int.reduceSub, Int.reduceNeg, Int.reduceToNat, Int.reducePow, Nat.reducePow, Int.reduceMul, Int.reduceDiv, ↓s_model_Of_b0, hlt, hix1, hc1, hH1, f1, hH2, enterK_eq hck, hchk]

/-- What Of answers. -/
theorem q_Of_err (l : List Pr) (v : Value) (H : AHeap) (hr : Rd EPr H v l) (hl : l.length < 1152921504606846976) (h : ofErr none l ≠ 0) : CC F.model_Of [v] H = some (.tuple #[.pointer none, .int .i64 (ofErr none l)], H) := by
  have hlen := hr.lenS
  obtain ⟨H', hs, hloop⟩ := l_ofP l v H hr hl (seqK (fun tT h2 => bareK (lenS (get tT 0)) h2 fun t39 h3 =>
    bareK (xbin Try.prog .gtr T.int (.tmp 39) (.const (.int .i64 20000)) t39 (.int .i64 20000)) h3 fun t40 h4 =>
    condL t40 (fun k2 => k2 .ret [(2, (.pointer none)), (3, (.int .i64 7))] h4) (fun k2 =>
    k2 .normal [(0, (get tT 0))] h4) (seqK (fun tT_1 h5 =>
    enterK CC F.slices_Clone_Pair [(get tT_1 0)] h5 fun t42 h6 =>
    bareK (bldS #[(.slice none 0 0)] [(0, 1)] [(0, t42)]) h6 fun t43 h7 =>
    bothK (newv T.model_Model t43 h7) fun t44 h8 =>
    endK Try.prog [.tmp 2, .tmp 3] .ret [(2, t44), (3, (.int .i64 0))] h8) (endK Try.prog [.tmp 2, .tmp 3]))) (endK Try.prog [.tmp 2, .tmp 3])) l 0 H none rfl (Fr.refl H) (by omega) rfl
  rw [if_neg h] at hloop
  generalize ofErr none l = e at hloop h
  apply pure_of _ (d_model_Of _ H) rfl
  rotate_left 2
  · simp (disch := first | with_reducible rfl | assumption | omega | rfl | (simp only [go_sem]; first | done | omega)) only [go_sem, ↓reduceIte, reduceCtorEq, Nat.reduceEqDiff, Nat.reduceAdd, Nat.reduceSub, Nat.reduceMul, Nat.reduceDiv, Nat.reduceMod, Nat.reduceLeDiff, Nat.reduceLT, Nat.reduceBEq, Int.reduceEq, Int.reduceBEq, Int.reduceBNe, Int.reduceLT, Int.reduceLE, Int.reduceAdd, Int.reduceSub, Int.reduceNeg, Int.reduceToNat, Int.reducePow, Nat.reducePow, Int.reduceMul, Int.reduceDiv, ↓s_model_Of, hlen]
    exact hloop
  · exact hs

theorem q_Of_full (l : List Pr) (v : Value) (H : AHeap) (hr : Rd EPr H v l) (hl : l.length < 1152921504606846976) (h : ofErr none l = 0) (hf : 20000 < l.length) : CC F.model_Of [v] H = some (.tuple #[.pointer none, .int .i64 7], H) := by
  have hlen := hr.lenS
  have hgt : (20000 : Int) < (l.length : Int) := by omega
  obtain ⟨H', hs, hloop⟩ := l_ofP l v H hr hl (seqK (fun tT h2 => bareK (lenS (get tT 0)) h2 fun t39 h3 =>
    bareK (xbin Try.prog .gtr T.int (.tmp 39) (.const (.int .i64 20000)) t39 (.int .i64 20000)) h3 fun t40 h4 =>
    condL t40 (fun k2 => k2 .ret [(2, (.pointer none)), (3, (.int .i64 7))] h4) (fun k2 =>
    k2 .normal [(0, (get tT 0))] h4) (seqK (fun tT_1 h5 =>
    enterK CC F.slices_Clone_Pair [(get tT_1 0)] h5 fun t42 h6 =>
    bareK (bldS #[(.slice none 0 0)] [(0, 1)] [(0, t42)]) h6 fun t43 h7 =>
    bothK (newv T.model_Model t43 h7) fun t44 h8 =>
    endK Try.prog [.tmp 2, .tmp 3] .ret [(2, t44), (3, (.int .i64 0))] h8) (endK Try.prog [.tmp 2, .tmp 3]))) (endK Try.prog [.tmp 2, .tmp 3])) l 0 H none rfl (Fr.refl H) (by omega) rfl
  rw [if_pos h] at hloop
  apply pure_of _ (d_model_Of _ H) rfl
  rotate_left 2
  · simp (disch := first | with_reducible rfl | assumption | omega | rfl | (simp only [go_sem]; first | done | omega)) only [go_sem, ↓reduceIte, reduceCtorEq, Nat.reduceEqDiff, Nat.reduceAdd, Nat.reduceSub, Nat.reduceMul, Nat.reduceDiv, Nat.reduceMod, Nat.reduceLeDiff, Nat.reduceLT, Nat.reduceBEq, Int.reduceEq, Int.reduceBEq, Int.reduceBNe, Int.reduceLT, Int.reduceLE, Int.reduceAdd, Int.reduceSub, Int.reduceNeg, Int.reduceToNat, Int.reducePow, Nat.reducePow, Int.reduceMul, Int.reduceDiv, ↓s_model_Of, hlen]
    refine hloop.trans ?_
    simp (disch := first | with_reducible rfl | assumption | omega | rfl | (simp only [go_sem]; first | done | omega)) only [go_sem, ↓reduceIte, reduceCtorEq, Nat.reduceEqDiff, Nat.reduceAdd, Nat.reduceSub, Nat.reduceMul, Nat.reduceDiv, Nat.reduceMod, Nat.reduceLeDiff, Nat.reduceLT, Nat.reduceBEq, Int.reduceEq, Int.reduceBEq, Int.reduceBNe, Int.reduceLT, Int.reduceLE, Int.reduceAdd, Int.reduceSub, Int.reduceNeg, Int.reduceToNat, Int.reducePow, Nat.reducePow, Int.reduceMul, Int.reduceDiv, hlen, decide_eq_true hgt]
    rfl
  · exact hs

theorem q_Of (l : List Pr) (v : Value) (H : AHeap) (hr : Rd EPr H v l) (h : ofErr none l = 0) (hf : l.length ≤ 20000) :
    ∃ b H', CC F.model_Of [v] H = some (.tuple #[.pointer (some ⟨b, 0, none⟩), .int .i64 0], H') ∧ Mdl H' b l ∧ Still H H' ∧ H.n ≤ b ∧ (∀ c, MB H' b c → H.n ≤ c) := by
  have hlen := hr.lenS
  have hgt : ¬ (20000 : Int) < (l.length : Int) := by omega
  obtain ⟨H1, hs, hloop⟩ := l_ofP l v H hr (by omega) (seqK (fun tT h2 => bareK (lenS (get tT 0)) h2 fun t39 h3 =>
    bareK (xbin Try.prog .gtr T.int (.tmp 39) (.const (.int .i64 20000)) t39 (.int .i64 20000)) h3 fun t40 h4 =>
    condL t40 (fun k2 => k2 .ret [(2, (.pointer none)), (3, (.int .i64 7))] h4) (fun k2 =>
    k2 .normal [(0, (get tT 0))] h4) (seqK (fun tT_1 h5 =>
    enterK CC F.slices_Clone_Pair [(get tT_1 0)] h5 fun t42 h6 =>
    bareK (bldS #[(.slice none 0 0)] [(0, 1)] [(0, t42)]) h6 fun t43 h7 =>
    bothK (newv T.model_Model t43 h7) fun t44 h8 =>
    endK Try.prog [.tmp 2, .tmp 3] .ret [(2, t44), (3, (.int .i64 0))] h8) (endK Try.prog [.tmp 2, .tmp 3]))) (endK Try.prog [.tmp 2, .tmp 3])) l 0 H none rfl (Fr.refl H) (by omega) rfl
  rw [if_pos h] at hloop
  obtain ⟨v5, H2, hcl, ho5, s2, hn5⟩ := q_clone_Pair l v H1 (hr.still hs) (by omega)
  have n1 : H.n ≤ H1.n := hs.n
  have n2 : H1.n ≤ H2.n := s2.n
  have s12 : Still H H2 := hs.still.then s2 fun _ _ h => h
  refine ⟨H2.n, H2.push (.cells [v5] T.model_Model true), (d_model_Of _ H (r := (.tuple #[.pointer (some ⟨H2.n, 0, none⟩), .int .i64 0], _)) ?_).trans (congrArg some (tidy_mem rfl)), ?_, s12.push _, by omega, ?_⟩
  · obtain ⟨a, n, c, hv5⟩ : ∃ a n c, v5 = .slice a n c := by
      rcases ho5 with ⟨_, h⟩ | ⟨_, a, h, _⟩ | ⟨b, o, c, xs, h, _⟩ <;> exact ⟨_, _, _, h⟩
    subst hv5
    simp (disch := first | with_reducible rfl | assumption | omega | rfl | (simp only [go_sem]; first | done | omega)) only [go_sem, ↓reduceIte, reduceCtorEq, Nat.reduceEqDiff, Nat.reduceAdd, Nat.reduceSub, Nat.reduceMul, Nat.reduceDiv, Nat.reduceMod, Nat.reduceLeDiff, Nat.reduceLT, Nat.reduceBEq, Int.reduceEq, Int.reduceBEq, Int.reduceBNe, Int.reduceLT, Int.reduceLE, Int.reduceAdd, Int.reduceSub, Int.reduceNeg, Int.reduceToNat, Int.reducePow, Nat.reducePow, Int.reduceMul, Int.reduceDiv, ↓s_model_Of, hlen]
    refine hloop.trans ?_
    simp (disch := first | with_reducible rfl | assumption | omega | rfl | (simp only [go_sem]; first | done | omega)) only [go_sem, ↓reduceIte, reduceCtorEq, Nat.reduceEqDiff, Nat.reduceAdd, Nat.reduceSub, Nat.reduceMul, Nat.reduceDiv, Nat.reduceMod, Nat.reduceLeDiff, Nat.reduceLT, Nat.reduceBEq, Int.reduceEq, Int.reduceBEq, Int.reduceBNe, Int.reduceLT, Int.reduceLE, Int.reduceAdd, Int.reduceSub, Int.reduceNeg, Int.reduceToNat, Int.reducePow, Nat.reducePow, Int.reduceMul, Int.reduceDiv, hlen, decide_eq_false hgt, enterK_eq hcl]
  · refine ⟨v5, push_f_eq rfl, by simp, ho5.still ((Fr.refl _).push _), fun h => by have := ho5.blk h; omega⟩
  · intro c h
    rcases h with h | ⟨u, hu, hb⟩
    · omega
    · rw [push_f_eq rfl] at hu
      cases hu
      have := hn5 c hb
      omega

end Go.Proofs.Ytehnchfnhbmkdaa

/-
  Sorted lists of pairs: where a key is.
  Conditions: none. By an AI agent.
-/
set_option maxRecDepth 10000
set_option linter.unusedSimpArgs false
set_option linter.unusedVariables false
namespace Go.Proofs.Ytehnchfnhbmkdaa
open Go Eng

/-- Sorted, each key once. -/
def Srt (l : List Pr) : Prop := l.Pairwise fun a b => cmpS a.key b.key < 0

/-- Where a key is, or would be. -/
def posP : List Pr → ByteArray → Nat
  | [], _ => 0
  | a :: l, key => if cmpS a.key key < 0 then posP l key + 1 else 0

theorem posP_le : ∀ (l : List Pr) (key : ByteArray), posP l key ≤ l.length
  | [], _ => Nat.le_refl _
  | a :: l, key => by
    rw [posP]
    have := posP_le l key
    split <;> simp <;> omega

theorem cmpS_le_lt {a b c : ByteArray} (h1 : ¬ cmpS a b < 0) (h2 : cmpS a c < 0) : cmpS b c < 0 := by
  by_cases h : cmpS a b = 0
  · rw [← cmpS_eq.1 h]; exact h2
  · have h3 : cmpS b a < 0 := by rw [cmpS_swap]; omega
    exact cmpS_trans h3 h2

theorem posP_pos : ∀ {l : List Pr} (_ : Srt l) (key : ByteArray), PosP l key (posP l key)
  | [], _, key => ⟨Nat.le_refl _, fun i h => absurd h (by simp), fun i h => absurd h (by simp)⟩
  | a :: l, hs, key => by
    obtain ⟨ha, hl⟩ := List.pairwise_cons.1 hs
    obtain ⟨h1, h2, h3⟩ := posP_pos hl key
    rw [posP]
    by_cases h : cmpS a.key key < 0
    · rw [if_pos h]
      refine ⟨by simp; omega, fun i hi hp => ?_, fun i hi hp => ?_⟩
      · cases i with
        | zero => exact h
        | succ i => exact h2 i (by simpa using hi) (by omega)
      · cases i with
        | zero => omega
        | succ i => exact h3 i (by simpa using hi) (by omega)
    · rw [if_neg h]
      refine ⟨by simp, fun i hi hp => by omega, fun i hi hp => ?_⟩
      cases i with
      | zero => exact h
      | succ i =>
        intro hc
        have hb := ha _ (List.getElem_mem (by simpa using hi : i < l.length))
        exact h (cmpS_trans hb hc)

/-- Is a key there? -/
def hasP (l : List Pr) (key : ByteArray) : Bool := isP l key (posP l key)

theorem isP_eq {l : List Pr} {key : ByteArray} {p : Nat} (h : isP l key p = true) : ∃ hp : p < l.length, l[p].key = key := by
  unfold isP at h
  cases hg : l[p]? with
  | none => rw [hg] at h; cases h
  | some a =>
    rw [hg] at h
    obtain ⟨hp, rfl⟩ := List.getElem?_eq_some_iff.1 hg
    exact ⟨hp, cmpS_eq.1 (by simpa using h)⟩

theorem mem_pos {l : List Pr} (hs : Srt l) {i : Nat} (hi : i < l.length) : posP l l[i].key = i := by
  obtain ⟨h1, h2, h3⟩ := posP_pos hs l[i].key
  rcases Nat.lt_trichotomy (posP l l[i].key) i with h | h | h
  · have hlt : posP l l[i].key < l.length := by omega
    have := List.pairwise_iff_getElem.1 hs _ _ hlt hi h
    exact absurd this (h3 _ hlt (Nat.le_refl _))
  · exact h
  · have := h2 i hi h
    rw [cmpS_self] at this
    omega

theorem isP_self {l : List Pr} (hs : Srt l) {i : Nat} (hi : i < l.length) : isP l l[i].key (posP l l[i].key) = true := by
  rw [mem_pos hs hi]
  unfold isP
  rw [List.getElem?_eq_getElem hi]
  simp [cmpS_self]

/-- What a search for an equal key finds: on a sorted list, the place. -/
def findP : List Pr → ByteArray → Nat → Int
  | [], _, _ => -1
  | a :: l, key, i => if bl a.key = bl key then i else findP l key (i + 1)

theorem findP_none : ∀ (l : List Pr) (key : ByteArray) (i : Nat), (∀ a ∈ l, ¬ a.key = key) → findP l key i = -1
  | [], _, _, _ => rfl
  | a :: l, key, i, h => by
    rw [findP, if_neg fun he => h a (by simp) (bl_inj he), findP_none l key (i + 1) fun b hb => h b (by simp [hb])]

theorem findP_some : ∀ (l : List Pr) (key : ByteArray) (i k : Nat) (hk : k < l.length), l[k].key = key → (∀ (j : Nat) (hj : j < l.length), j < k → ¬ l[j].key = key) → findP l key i = ((i + k : Nat) : Int)
  | [], _, _, k, hk, _, _ => absurd hk (by simp)
  | a :: l, key, i, 0, _, h, _ => by
    rw [findP, if_pos (by rw [← h]; rfl)]
    simp
  | a :: l, key, i, k + 1, hk, h, hn => by
    rw [findP, if_neg fun he => hn 0 (by simp) (by omega) (bl_inj he), findP_some l key (i + 1) k (by simpa using hk) h fun j hj hjk => hn (j + 1) (by simpa using hj) (by omega)]
    omega

theorem findP_eq {l : List Pr} (hs : Srt l) (key : ByteArray) : findP l key 0 = if isP l key (posP l key) = true then (posP l key : Int) else -1 := by
  by_cases h : isP l key (posP l key) = true
  · rw [if_pos h]
    obtain ⟨hp, he⟩ := isP_eq h
    have := findP_some l key 0 (posP l key) hp he fun j hj hjk hej => by
      have := mem_pos hs hj
      rw [hej] at this
      omega
    rw [this]; simp
  · rw [if_neg h]
    refine findP_none l key 0 fun a ha hak => h ?_
    obtain ⟨i, hi, rfl⟩ := List.getElem_of_mem ha
    rw [← hak]
    exact isP_self hs hi

/-! ### What stays sorted -/
theorem srt_set {l : List Pr} (hs : Srt l) {p : Nat} {a : Pr} (h : isP l a.key p = true) : Srt (l.set p a) := by
  obtain ⟨hp, he⟩ := isP_eq h
  refine List.pairwise_iff_getElem.2 fun i j hi hj hij => ?_
  have hk : ∀ (i : Nat) (hi : i < (l.set p a).length), (l.set p a)[i].key = (l[i]'(by simpa using hi)).key := by
    intro i hi
    rw [List.getElem_set]
    split
    · rename_i h'; subst h'; exact he.symm
    · rfl
  rw [hk i hi, hk j hj]
  exact List.pairwise_iff_getElem.1 hs _ _ _ _ hij

theorem srt_ins {l : List Pr} (hs : Srt l) {a : Pr} (h : isP l a.key (posP l a.key) = false) : Srt (l.take (posP l a.key) ++ a :: l.drop (posP l a.key)) := by
  obtain ⟨h1, h2, h3⟩ := posP_pos hs a.key
  generalize hp : posP l a.key = p at h h1 h2 h3
  unfold Srt
  rw [List.pairwise_append]
  refine ⟨hs.sublist (List.take_sublist _ _), ?_, ?_⟩
  · rw [List.pairwise_cons]
    refine ⟨fun b hb => ?_, hs.sublist (List.drop_sublist _ _)⟩
    obtain ⟨i, hi, rfl⟩ := List.getElem_of_mem hb
    rw [List.getElem_drop]
    have hi' : p + i < l.length := by simp at hi; omega
    have hge := h3 (p + i) hi' (by omega)
    have hpl : p < l.length := by omega
    have hne0 : ¬ cmpS l[p].key a.key = 0 := by
      unfold isP at h
      rw [List.getElem?_eq_getElem hpl] at h
      simpa using h
    rw [cmpS_swap]
    by_cases hi0 : i = 0
    · subst hi0
      have := h3 p hpl (Nat.le_refl _)
      simp only [Nat.add_zero]
      omega
    · have hlt := List.pairwise_iff_getElem.1 hs p (p + i) hpl hi' (by omega)
      have hpp := h3 p hpl (Nat.le_refl _)
      have : cmpS a.key l[p].key < 0 := by rw [cmpS_swap]; omega
      have := cmpS_trans this hlt
      rw [cmpS_swap] at this
      omega
  · intro b hb c hc
    obtain ⟨i, hi, rfl⟩ := List.getElem_of_mem hb
    rw [List.getElem_take]
    have hi' : i < p := by simp at hi; omega
    have hlt := h2 i (by omega) hi'
    rcases List.mem_cons.1 hc with rfl | hc
    · exact hlt
    · obtain ⟨j, hj, rfl⟩ := List.getElem_of_mem hc
      rw [List.getElem_drop]
      exact List.pairwise_iff_getElem.1 hs _ _ _ _ (by omega)

theorem srt_del {l : List Pr} (hs : Srt l) (p : Nat) : Srt (l.take p ++ l.drop (p + 1)) := by
  rw [← List.eraseIdx_eq_take_drop_succ]
  exact hs.sublist (List.eraseIdx_sublist _ _)

theorem srt_put {l : List Pr} (hs : Srt l) (a : Pr) : Srt (putP l a (posP l a.key)).2 := by
  unfold putP
  split
  · rename_i h; exact srt_set hs h
  · rename_i h
    split
    · exact hs
    · exact srt_ins hs (by simpa using h)
theorem len_put {l : List Pr} (hl : l.length ≤ 20000) (a : Pr) : (putP l a (posP l a.key)).2.length ≤ 20000 := by
  unfold putP
  split
  · simpa using hl
  · split
    · exact hl
    · simp; have := posP_le l a.key; omega
theorem srt_insert {l : List Pr} (hs : Srt l) (a : Pr) : Srt (insertP l a (posP l a.key)).2 := by
  unfold insertP
  split
  · exact hs
  · rename_i h
    split
    · exact hs
    · exact srt_ins hs (by simpa using h)
theorem len_insert {l : List Pr} (hl : l.length ≤ 20000) (a : Pr) : (insertP l a (posP l a.key)).2.length ≤ 20000 := by
  unfold insertP
  split
  · exact hl
  · split
    · exact hl
    · simp; have := posP_le l a.key; omega
theorem srt_swap {l : List Pr} (hs : Srt l) (key old new : ByteArray) : Srt (swapP l key old new (posP l key)).2 := by
  unfold swapP
  split
  · rename_i h
    split
    · exact srt_set (a := ⟨key, new⟩) hs h
    · exact hs
  · exact hs
theorem len_swap {l : List Pr} (hl : l.length ≤ 20000) (key old new : ByteArray) : (swapP l key old new (posP l key)).2.length ≤ 20000 := by
  unfold swapP
  split
  · split
    · simpa using hl
    · exact hl
  · exact hl

end Go.Proofs.Ytehnchfnhbmkdaa

/-
  Chapter 48: strings in parts; Prefix, take; the bytes of pairs.
  Conditions: none. By an AI agent.
-/
set_option maxRecDepth 10000
set_option linter.unusedSimpArgs false
set_option linter.unusedVariables false
namespace Go.Proofs.Ytehnchfnhbmkdaa
open Go Eng

theorem slT_lo {s : ByteArray} {q : IntKind} {i : Nat} (h : i ≤ (bl s).length) : slT (.string s) (some (.int q (i : Int))) none = some (.string (mk ((bl s).drop i))) := by
  show ((some (bl s).length).bind fun h => (lowOf h (some (.int q (i : Int)))).map fun l => Value.string (mk (((bl s).take h).drop l))) = _
  rw [Option.bind_some, low_nat h, Option.map_some, List.take_length]
theorem slT_hi {s : ByteArray} {q : IntKind} {j : Nat} (h : j ≤ (bl s).length) : slT (.string s) none (some (.int q (j : Int))) = some (.string (mk ((bl s).take j))) := by
  show ((highOf (bl s).length (bl s).length (some (.int q (j : Int)))).bind fun h => (lowOf h none).map fun l => Value.string (mk (((bl s).take h).drop l))) = _
  rw [high_nat h]
  rfl
theorem xix {s : ByteArray} {i : Nat} (h : i < (bl s).length) : xindex Try.prog T.string (.string s) (.int .i64 (i : Int)) = some (.int .u8 ((bl s)[i].toNat : Int)) := by
  have e : xindex Try.prog T.string (.string s) (.int .i64 (i : Int)) = (if (0 : Int) ≤ (i : Int) then ((bl s)[(i : Int).toNat]?).map byteCell else none) := by
    have hu : Try.prog.underlying T.string = some .string := Try.underlying9
    unfold xindex; rw [hu]
  rw [e, if_pos (by omega), Int.toNat_natCast, List.getElem?_eq_getElem h]
  rfl
theorem str_add {t : TypeId} {ox oy : Operand} {a b : ByteArray} (h : (bl a).length + (bl b).length ≤ 4611686018427387904) : xbin Try.prog .add t ox oy (.string a) (.string b) = some (.string (mk (bl a ++ bl b))) := by
  show strOp .add a b = _
  unfold strOp
  simp only [if_pos h]

/-! ### Prefix -/
def pre : List UInt8 → List UInt8 → Nat
  | a :: x, b :: y => if a = b then pre x y + 1 else 0
  | _, _ => 0
theorem pre_le : ∀ (x y : List UInt8), pre x y ≤ x.length ∧ pre x y ≤ y.length ∧ x.take (pre x y) = y.take (pre x y)
  | [], _ => by simp [pre]
  | _ :: _, [] => by simp [pre]
  | a :: x, b :: y => by
    unfold pre
    by_cases h : a = b
    · rw [if_pos h]
      obtain ⟨h1, h2, h3⟩ := pre_le x y
      exact ⟨by simpa using h1, by simpa using h2, by simp [h, h3]⟩
    · rw [if_neg h]; simp

theorem l_Prefix (a b : ByteArray) (H : AHeap) (ha : (bl a).length < 1000000000000) : ∀ (x y : List UInt8) (i : Nat), (bl a).drop i = x → (bl b).drop i = y → i ≤ (bl a).length → i ≤ (bl b).length →
    ∀ K : K, l_keys_Prefix_0 (.string a) (.string b) (.int .i64 (i : Int)) H (blkK [5] 0 K) = K .normal [(5, .int .i64 ((i + pre x y : Nat) : Int))] H
  | [], y, i, hx, hy, h1, h2, K => by
    have h : (bl a).length ≤ i := List.drop_eq_nil_iff.1 hx
    have hlt : ¬ (i : Int) < ((bl a).length : Int) := by omega
    rw [r_keys_Prefix_0]
    simp (disch := first | with_reducible rfl | assumption | omega | rfl | (simp only [go_sem]; first | done | omega)) only [go_sem, ↓reduceIte, reduceCtorEq, Nat.reduceEqDiff, Nat.reduceAdd, Nat.reduceSub, Nat.reduceMul, Nat.reduceDiv, Nat.reduceMod, Nat.reduceLeDiff, Nat.reduceLT, Nat.reduceBEq, Int.reduceEq, Int.reduceBEq, Int.reduceBNe, Int.reduceLT, Int.reduceLE, Int.reduceAdd, Int.reduceSub, Int.reduceNeg, Int.reduceToNat, Int.reducePow, Nat.reducePow, Int.reduceMul, Int.reduceDiv, ↓s_keys_Prefix_b0, hlt]
    rfl
  | c :: x, [], i, hx, hy, h1, h2, K => by
    obtain ⟨h, _, _⟩ := drop_cons hx
    have hlt : (i : Int) < ((bl a).length : Int) := by omega
    have h : (bl b).length ≤ i := List.drop_eq_nil_iff.1 hy
    have hlt2 : ¬ (i : Int) < ((bl b).length : Int) := by omega
    rw [r_keys_Prefix_0]
    simp (disch := first | with_reducible rfl | assumption | omega | rfl | (simp only [go_sem]; first | done | omega)) only [go_sem, ↓reduceIte, reduceCtorEq, Nat.reduceEqDiff, Nat.reduceAdd, Nat.reduceSub, Nat.reduceMul, Nat.reduceDiv, Nat.reduceMod, Nat.reduceLeDiff, Nat.reduceLT, Nat.reduceBEq, Int.reduceEq, Int.reduceBEq, Int.reduceBNe, Int.reduceLT, Int.reduceLE, Int.reduceAdd, Int.reduceSub, Int.reduceNeg, Int.reduceToNat, Int.reducePow, Nat.reducePow, Int.reduceMul, Int.reduceDiv, ↓s_keys_Prefix_b0, hlt, hlt2]
    rfl
  | c :: x, d :: y, i, hx, hy, h1, h2, K => by
    obtain ⟨hi, hxa, hx'⟩ := drop_cons hx
    obtain ⟨hj, hyb, hy'⟩ := drop_cons hy
    have hlt : (i : Int) < ((bl a).length : Int) := by omega
    have hlt2 : (i : Int) < ((bl b).length : Int) := by omega
    have e1 := xix hi
    have e2 := xix hj
    rw [hxa] at e1
    rw [hyb] at e2
    unfold pre
    by_cases hcd : c = d
    · rw [if_pos hcd]
      have hcd' : ((c.toNat : Int) = (d.toNat : Int)) = True := by simp [hcd]
      have ih := l_Prefix a b H ha x y (i + 1) hx' hy' (by omega) (by omega) K
      rw [show i + 1 + pre x y = i + (pre x y + 1) by omega] at ih
      rw [r_keys_Prefix_0]
      simp (disch := first | with_reducible rfl | assumption | omega | rfl | (simp only [go_sem]; first | done | omega)) only [go_sem, ↓reduceIte, reduceCtorEq, Nat.reduceEqDiff, Nat.reduceAdd, Nat.reduceSub, Nat.reduceMul, Nat.reduceDiv, Nat.reduceMod, Nat.reduceLeDiff, Nat.reduceLT, Nat.reduceBEq, Int.reduceEq, Int.reduceBEq, Int.reduceBNe, Int.reduceLT, Int.reduceLE, Int.reduceAdd, Int.reduceSub, Int.reduceNeg, Int.reduceToNat, Int.reducePow, Nat.reducePow, Int.reduceMul, Int.reduceDiv, ↓s_keys_Prefix_b0, hlt, hlt2, e1, e2, hcd']
      exact ih
    · rw [if_neg hcd]
      have hcd' : ¬ ((c.toNat : Int) = (d.toNat : Int)) := fun h => hcd (UInt8.toNat_inj.1 (by omega))
      rw [r_keys_Prefix_0]
      simp (disch := first | with_reducible rfl | assumption | omega | rfl | (simp only [go_sem]; first | done | omega)) only [go_sem, ↓reduceIte, reduceCtorEq, Nat.reduceEqDiff, Nat.reduceAdd, Nat.reduceSub, Nat.reduceMul, Nat.reduceDiv, Nat.reduceMod, Nat.reduceLeDiff, Nat.reduceLT, Nat.reduceBEq, Int.reduceEq, Int.reduceBEq, Int.reduceBNe, Int.reduceLT, Int.reduceLE, Int.reduceAdd, Int.reduceSub, Int.reduceNeg, Int.reduceToNat, Int.reducePow, Nat.reducePow, Int.reduceMul, Int.reduceDiv, ↓s_keys_Prefix_b0, hlt, hlt2, e1, e2, hcd']

theorem q_Prefix (a b : ByteArray) (H : AHeap) (ha : (bl a).length < 1000000000000) : CC F.keys_Prefix [.string a, .string b] H = some (.int .i64 (pre (bl a) (bl b) : Int), H) := by
  have hl : ∀ K : K, l_keys_Prefix_0 (.string a) (.string b) (.int .i64 0) H (blkK [5] 0 K) = K .normal [(5, .int .i64 ((0 + pre (bl a) (bl b) : Nat) : Int))] H := l_Prefix a b H ha (bl a) (bl b) 0 rfl rfl (Nat.zero_le _) (Nat.zero_le _)
  rw [Nat.zero_add] at hl
  apply pure_of _ (d_keys_Prefix _ _ H) rfl
  rotate_left 2
  · simp (disch := first | with_reducible rfl | assumption | omega | rfl | (simp only [go_sem]; first | done | omega)) only [go_sem, ↓reduceIte, reduceCtorEq, Nat.reduceEqDiff, Nat.reduceAdd, Nat.reduceSub, Nat.reduceMul, Nat.reduceDiv, Nat.reduceMod, Nat.reduceLeDiff, Nat.reduceLT, Nat.reduceBEq, Int.reduceEq, Int.reduceBEq, Int.reduceBNe, Int.reduceLT, Int.reduceLE, Int.reduceAdd, Int.reduceSub, Int.reduceNeg, Int.reduceToNat, Int.reducePow, Nat.reducePow, Int.reduceMul, Int.reduceDiv, ↓s_keys_Prefix, hl]
    rfl
  · (repeat (first | exact Fr.refl _ | refine Fr.push ?_ _ | refine Fr.set ?_ _ _ (by intro h; first | omega | (simp only [go_sem] at h; omega))))

/-! ### take -/
def takeL : List UInt8 → Option (List UInt8 × List UInt8)
  | [] => none
  | c :: t => if c.toNat ≤ t.length then some (t.take c.toNat, t.drop c.toNat) else none

theorem q_take (l : List UInt8) (v : Value) (H : AHeap) (hr : BR H v l) (hl : l.length ≤ 1000000000000) :
    (takeL l = none → CC F.backup_take [v] H = some (.tuple #[.string (mk []), .slice none 0 0, .bool false], H)) ∧
    (∀ s t, takeL l = some (s, t) → ∃ w, CC F.backup_take [v] H = some (.tuple #[.string (mk s), w, .bool true], H) ∧ BR H w t ∧ blockOf w = blockOf v) := by
  have hlen := hr.1.lenS
  cases l with
  | nil =>
    have hlen : lenS v = some (.int .i64 0) := hlen
    refine ⟨fun _ => ?_, fun s t h => nomatch h⟩
    apply pure_of _ (d_backup_take _ H) rfl
    rotate_left 2
    · simp (disch := first | with_reducible rfl | assumption | omega | rfl | (simp only [go_sem]; first | done | omega)) only [go_sem, ↓reduceIte, reduceCtorEq, Nat.reduceEqDiff, Nat.reduceAdd, Nat.reduceSub, Nat.reduceMul, Nat.reduceDiv, Nat.reduceMod, Nat.reduceLeDiff, Nat.reduceLT, Nat.reduceBEq, Int.reduceEq, Int.reduceBEq, Int.reduceBNe, Int.reduceLT, Int.reduceLE, Int.reduceAdd, Int.reduceSub, Int.reduceNeg, Int.reduceToNat, Int.reducePow, Nat.reducePow, Int.reduceMul, Int.reduceDiv, ↓s_backup_take, hlen]
      rfl
    · (repeat (first | exact Fr.refl _ | refine Fr.push ?_ _ | refine Fr.set ?_ _ _ (by intro h; first | omega | (simp only [go_sem] at h; omega))))
  | cons c t =>
    obtain ⟨m, hm⟩ : ∃ m, (c :: t).length = m := ⟨_, rfl⟩
    have hm' : m = t.length + 1 := by rw [← hm]; rfl
    rw [hm] at hlen
    have hne : ¬ (m : Int) = 0 := by omega
    obtain ⟨b0, o0, i0, c0, _, _⟩ := hr.1.byte (i := 0) (by simp)
    have i0 : ixS 1 v (.int .i64 0) = some (.pointer (some ⟨b0, o0, none⟩)) := i0
    have c0 : cellB (H.f b0) o0 = some (.int .u8 (c.toNat : Int)) := c0
    have uc := Eng.u8_lt c
    have hw : IntKind.wrap .i64 (c.toNat : Int) = (c.toNat : Int) := wrap_i64 ⟨by omega, by omega⟩
    rw [show takeL (c :: t) = if c.toNat ≤ t.length then some (t.take c.toNat, t.drop c.toNat) else none from rfl]
    by_cases hc : c.toNat ≤ t.length
    · rw [if_pos hc]
      refine ⟨fun h => (nomatch h), fun s t' h => ?_⟩
      injection h with h
      injection h with h1 h2
      subst h1 h2
      have hle : ¬ (m : Int) ≤ (c.toNat : Int) := by omega
      obtain ⟨w1, a1, r1, _⟩ := hr.mid (sz := 1) rfl (i := 1) (j := 1 + c.toNat) (q := .i64) (q' := .i64) (by omega) (by simp; omega)
      obtain ⟨w2, a2, r2, k2⟩ := hr.from (sz := 1) rfl (i := 1 + c.toNat) (q := .i64) (by simp; omega)
      have a1 : slS T.uint8 1 v (some (.int .i64 1)) (some (.int .i64 (1 + (c.toNat : Int)))) none H = some w1 := a1
      have a2 : slS T.uint8 1 v (some (.int .i64 (1 + (c.toNat : Int)))) none none H = some w2 := a2
      rw [Nat.add_sub_cancel_left] at r1
      have r1 : BR H w1 (t.take c.toNat) := r1
      have r2 : BR H w2 (t.drop c.toNat) := by rw [Nat.add_comm] at r2; exact r2
      have st := r1.str
      have key : s_backup_take guardK condL shareL Try.prog CC v H (endK Try.prog [.tmp 2, .tmp 3, .tmp 4]) = some (.tuple #[.string (mk (t.take c.toNat)), w2, .bool true], H) := by
        simp (disch := first | with_reducible rfl | assumption | omega | rfl | (simp only [go_sem]; first | done | omega)) only [go_sem, ↓reduceIte, reduceCtorEq, Nat.reduceEqDiff, Nat.reduceAdd, Nat.reduceSub, Nat.reduceMul, Nat.reduceDiv, Nat.reduceMod, Nat.reduceLeDiff, Nat.reduceLT, Nat.reduceBEq, Int.reduceEq, Int.reduceBEq, Int.reduceBNe, Int.reduceLT, Int.reduceLE, Int.reduceAdd, Int.reduceSub, Int.reduceNeg, Int.reduceToNat, Int.reducePow, Nat.reducePow, Int.reduceMul, Int.reduceDiv, ↓s_backup_take, hlen, hne, i0, c0, x_uint8_int, hw, hle, a1, st, a2]
      exact ⟨w2, (d_backup_take _ H key).trans (congrArg some (by unfold tidy; split <;> rfl)), r2, k2⟩
    · rw [if_neg hc]
      refine ⟨fun _ => ?_, fun s t' h => nomatch h⟩
      have hle : (m : Int) ≤ (c.toNat : Int) := by omega
      apply pure_of _ (d_backup_take _ H) rfl
      rotate_left 2
      · simp (disch := first | with_reducible rfl | assumption | omega | rfl | (simp only [go_sem]; first | done | omega)) only [go_sem, ↓reduceIte, reduceCtorEq, Nat.reduceEqDiff, Nat.reduceAdd, Nat.reduceSub, Nat.reduceMul, Nat.reduceDiv, Nat.reduceMod, Nat.reduceLeDiff, Nat.reduceLT, Nat.reduceBEq, Int.reduceEq, Int.reduceBEq, Int.reduceBNe, Int.reduceLT, Int.reduceLE, Int.reduceAdd, Int.reduceSub, Int.reduceNeg, Int.reduceToNat, Int.reducePow, Nat.reducePow, Int.reduceMul, Int.reduceDiv, ↓s_backup_take, hlen, hne, i0, c0, x_uint8_int, hw, hle]
        rfl
      · (repeat (first | exact Fr.refl _ | refine Fr.push ?_ _ | refine Fr.set ?_ _ _ (by intro h; first | omega | (simp only [go_sem] at h; omega))))

/-! ### The bytes of pairs -/
def by8 (n : Nat) : UInt8 := UInt8.ofNat n
theorem by8_cell (n : Nat) : byteCell (by8 n) = .int .u8 ((n : Int) % 256) := by
  unfold byteCell by8
  rw [UInt8.toNat_ofNat']
  rfl
def pairB (last : ByteArray) (p : Pr) : List UInt8 :=
  [by8 (pre (bl last) (bl p.key)), by8 ((bl p.key).length - pre (bl last) (bl p.key))] ++ (bl p.key).drop (pre (bl last) (bl p.key)) ++ [by8 (bl p.value).length] ++ bl p.value
def bodyB : ByteArray → List Pr → List UInt8
  | _, [] => []
  | last, p :: t => pairB last p ++ bodyB p.key t
def headB (l : List Pr) : List UInt8 := [84, 76, 1] ++ be l.length 4
def fullB (l : List Pr) : List UInt8 := headB l ++ bodyB (mk []) l
def encB (l : List Pr) : List UInt8 := fullB l ++ be (adl (fullB l)) 4

/-- Bytes written out. -/
theorem Since.lit {H0 H : AHeap} {v : Value} {l : List UInt8} (r : Since H0 H v l) (m : List UInt8) {H1 : AHeap} (h1 : H.push (.cells (EB.cells m) T.uint8 true) = H1) (hb : l.length + m.length ≤ 1000000000000) :
    ∃ v' H', Eng.app T.uint8 1 1 v (srcS 1 (.slice (some ⟨H.n, 0, none⟩) m.length (2 * m.length)) H1) H1 = some (v', H') ∧ Since H0 H' v' (l ++ m) := by
  have s1 : Still H H1 := by rw [← h1]; exact (Fr.refl H).push _
  have n1 : H1.n = H.n + 1 := by rw [← h1]; rfl
  have f1 : H1.f H.n = .cells (EB.cells m) T.uint8 true := by rw [← h1]; exact push_f_eq rfl
  have rm : BR H1 (.slice (some ⟨H.n, 0, none⟩) m.length (2 * m.length)) m := newB (by omega) f1
  have r1 : Since H0 H1 v l := ⟨r.still.trans s1, r.own.still s1, r.new⟩
  exact r1.app m (rm.1.src (sz := 1) rfl) hb
theorem Since.to {H0 H H' : AHeap} {v : Value} {l : List UInt8} (r : Since H0 H v l) (s : Still H H') : Since H0 H' v l := ⟨r.still.trans s, r.own.still s, r.new⟩

end Go.Proofs.Ytehnchfnhbmkdaa

/-
  Chapter 48: Encode and bytesOf.
  Conditions: none. By an AI agent.
-/
set_option maxRecDepth 10000
set_option linter.unusedSimpArgs false
set_option linter.unusedVariables false
namespace Go.Proofs.Ytehnchfnhbmkdaa
open Go Eng

theorem srcT_b (s : ByteArray) : srcT (.string s) = some ((bl s).length, EB.cells (bl s)) := by
  show some ((bl s).length, (bl s).map byteCell) = _
  rw [EB_cells]
theorem bl_len_mk (l : List UInt8) : (bl (mk l)).length = l.length := by rw [bl_mk]

/-- A block that is not the row's stays. -/
def Kp (H : AHeap) (v : Value) (H' : AHeap) (v' : Value) : Prop := ∀ c, c < H.n → blockOf v ≠ some c → H'.f c = H.f c ∧ blockOf v' ≠ some c ∧ c < H'.n
theorem Kp.trans {H1 H2 H3 : AHeap} {v1 v2 v3 : Value} (a : Kp H1 v1 H2 v2) (b : Kp H2 v2 H3 v3) : Kp H1 v1 H3 v3 := fun c h1 h2 => by
  obtain ⟨a1, a2, a3⟩ := a c h1 h2
  obtain ⟨b1, b2, b3⟩ := b c a3 a2
  exact ⟨b1.trans a1, b2, b3⟩
theorem Since.appK {H0 H : AHeap} {v : Value} {l : List UInt8} (r : Since H0 H v l) (m : List UInt8) {src : Option (Nat × List Value)} (hsrc : src = some (m.length, EB.cells m)) (hb : l.length + m.length ≤ 1000000000000) :
    ∃ v' H', Eng.app T.uint8 1 1 v src H = some (v', H') ∧ Since H0 H' v' (l ++ m) ∧ Kp H v H' v' ∧ Fr (OnlyOf v) H H' := by
  obtain ⟨v', H', e1, e2, e3, e4⟩ := r.own.appA m (sz := 1) (bytes := 1) rfl (by omega) (by omega) hsrc
  refine ⟨v', H', e1, ⟨r.still.then e3 fun b hb h => ?_, e2, fun b h => ?_⟩, fun c h1 h2 => ⟨e3.f h1 h2, fun h => ?_, Nat.lt_of_lt_of_le h1 e3.n⟩, e3⟩
  · unfold OnlyOf at h; have := r.new b h; omega
  · rcases e4 with h4 | h4
    · rw [h4] at h; exact r.new b h
    · rw [h4] at h; cases h; exact r.still.n
  · rcases e4 with h4 | h4
    · rw [h4] at h; exact h2 h
    · rw [h4] at h; cases h; omega
theorem Since.litK {H0 H : AHeap} {v : Value} {l : List UInt8} (r : Since H0 H v l) (m : List UInt8) {H1 : AHeap} (h1 : H.push (.cells (EB.cells m) T.uint8 true) = H1) (hb : l.length + m.length ≤ 1000000000000) :
    ∃ v' H', Eng.app T.uint8 1 1 v (srcS 1 (.slice (some ⟨H.n, 0, none⟩) m.length (2 * m.length)) H1) H1 = some (v', H') ∧ Since H0 H' v' (l ++ m) ∧ Kp H v H' v' ∧ Still H H1 ∧ Fr (OnlyOf v) H1 H' := by
  have s1 : Still H H1 := by rw [← h1]; exact (Fr.refl H).push _
  have n1 : H1.n = H.n + 1 := by rw [← h1]; rfl
  have f1 : H1.f H.n = .cells (EB.cells m) T.uint8 true := by rw [← h1]; exact push_f_eq rfl
  have rm : BR H1 (.slice (some ⟨H.n, 0, none⟩) m.length (2 * m.length)) m := newB (by omega) f1
  have r1 : Since H0 H1 v l := ⟨r.still.trans s1, r.own.still s1, r.new⟩
  obtain ⟨v', H', e1, e2, e3, e4⟩ := r1.appK m (rm.1.src (sz := 1) rfl) hb
  refine ⟨v', H', e1, e2, fun c h1 h2 => ?_, s1, e4⟩
  obtain ⟨k1, k2, k3⟩ := e3 c (by omega) h2
  exact ⟨k1.trans (s1.f h1 fun h => h), k2, k3⟩

theorem pre_comm : ∀ (x y : List UInt8), pre x y = pre y x
  | [], [] => rfl
  | [], _ :: _ => rfl
  | _ :: _, [] => rfl
  | a :: x, b :: y => by
    unfold pre
    by_cases h : a = b
    · rw [if_pos h, if_pos h.symm, pre_comm x y]
    · rw [if_neg h, if_neg fun e => h e.symm]

theorem cells_two (a b : Nat) : EB.cells [by8 a, by8 b] = [.int .u8 ((a : Int) % 256), .int .u8 ((b : Int) % 256)] := by
  rw [EB_cells]; simp only [List.map_cons, List.map_nil, by8_cell]
theorem cells_one' (a : Nat) : EB.cells [by8 a] = [.int .u8 ((a : Int) % 256)] := by
  rw [EB_cells]; simp only [List.map_cons, List.map_nil, by8_cell]

theorem pairB_eq (last : ByteArray) (p : Pr) (o : List UInt8) : o ++ [by8 (pre (bl last) (bl p.key)), by8 ((bl p.key).length - pre (bl last) (bl p.key))] ++ (bl p.key).drop (pre (bl last) (bl p.key)) ++ [by8 (bl p.value).length] ++ bl p.value = o ++ pairB last p := by
  unfold pairB; simp only [List.append_assoc]
theorem pairB_len (last : ByteArray) (p : Pr) : (pairB last p).length ≤ 3 + (bl p.key).length + (bl p.value).length := by
  unfold pairB; simp; omega

theorem r_Encode (l : List Pr) (v : Value) (H0 : AHeap) (hr : Rd EPr H0 v l) (i : Nat) (hi : i < l.length) (hsz : ∀ a ∈ l, (bl a.key).length ≤ 1000 ∧ (bl a.value).length ≤ 1000) (hl : l.length ≤ 20000) (last : ByteArray) (hla : (bl last).length ≤ 1000) (H : AHeap) (out : Value) (o : List UInt8) (so : Since H0 H out o) (ho : o.length ≤ 100000000) :
    ∃ out' H', (∀ K : K, l_backup_Encode_0 out (.string last) v (.int .i64 (l.length : Int)) (.int .i64 (i : Int)) H (blkK [5] 0 K) = l_backup_Encode_0 out' (.string l[i].key) v (.int .i64 (l.length : Int)) (.int .i64 ((i + 1 : Nat) : Int)) H' (blkK [5] 0 K)) ∧
      Since H0 H' out' (o ++ pairB last l[i]) := by
  have hlt : (i : Int) < (l.length : Int) := by omega
  obtain ⟨b1, o1, ix, _, hc, _⟩ := (hr.still so.still).ix (q := .i64) hi
  obtain ⟨a, ha⟩ : ∃ a, l[i] = a := ⟨_, rfl⟩
  have hsa := hsz _ (List.getElem_mem hi)
  rw [ha] at hc hsa
  rw [ha]
  have ix : ixS 2 v (.int .i64 (i : Int)) = some (.pointer (some ⟨b1, o1, none⟩)) := ix
  have hc : cutB (H.f b1) o1 2 = some [.string a.key, .string a.value] := hc
  obtain ⟨H1, hH1⟩ : ∃ H1, (H.push (.cells [.string (mk []), .string (mk [])] T.api_Pair true)).set H.n (.cells [.string a.key, .string a.value] T.api_Pair true) = H1 := ⟨_, rfl⟩
  have s1 : Still H H1 := by rw [← hH1]; exact Fr.set ((Fr.refl H).push _) _ _ (fun h => by omega)
  have n1 : H1.n = H.n + 1 := by rw [← hH1]; rfl
  have f1 : H1.f H.n = .cells [.string a.key, .string a.value] T.api_Pair true := by rw [← hH1]; exact set_f_eq
  have hno : blockOf out ≠ some H.n := fun h => by have := so.own.blk h; omega
  have hp := q_Prefix last a.key H1 (by omega)
  obtain ⟨p, hpd⟩ : ∃ p, pre (bl last) (bl a.key) = p := ⟨_, rfl⟩
  have hpl := (pre_le (bl last) (bl a.key)).2.1
  rw [hpd] at hp hpl
  have e1 := pairB_eq last a o
  rw [hpd] at e1
  obtain ⟨H2, hH2⟩ : ∃ H2, H1.push (.cells [.int .u8 ((p : Int) % 256), .int .u8 ((((bl a.key).length - p : Nat) : Int) % 256)] T.uint8 true) = H2 := ⟨_, rfl⟩
  have hH2' : H1.push (.cells (EB.cells [by8 p, by8 ((bl a.key).length - p)]) T.uint8 true) = H2 := by rw [cells_two]; exact hH2
  obtain ⟨v3, H3, a3, so3, k3, _⟩ := (so.to s1).litK [by8 p, by8 ((bl a.key).length - p)] hH2' (by simp; omega)
  obtain ⟨v4, H4, a4, so4, k4, _⟩ := so3.appK ((bl a.key).drop p) (srcT_cells _) (by simp; omega)
  obtain ⟨H5, hH5⟩ : ∃ H5, H4.push (.cells [.int .u8 (((bl a.value).length : Int) % 256)] T.uint8 true) = H5 := ⟨_, rfl⟩
  have hH5' : H4.push (.cells (EB.cells [by8 (bl a.value).length]) T.uint8 true) = H5 := by rw [cells_one']; exact hH5
  obtain ⟨v6, H6, a6, so6, k6, _⟩ := so4.litK [by8 (bl a.value).length] hH5' (by simp; omega)
  obtain ⟨v7, H7, a7, so7, k7, _⟩ := so6.appK (bl a.value) (srcT_b _) (by simp; omega)
  rw [e1] at so7
  have a3 : Eng.app T.uint8 1 1 out (srcS 1 (.slice (some ⟨H1.n, 0, none⟩) 2 4) H2) H2 = some (v3, H3) := a3
  have a6 : Eng.app T.uint8 1 1 v4 (srcS 1 (.slice (some ⟨H4.n, 0, none⟩) 1 2) H5) H5 = some (v6, H6) := a6
  obtain ⟨g3, n3, l3⟩ := k3 H.n (by omega) hno
  obtain ⟨g4, n4, l4⟩ := k4 H.n l3 n3
  obtain ⟨g6, n6, l6⟩ := k6 H.n l4 n4
  obtain ⟨g7, n7, l7⟩ := k7 H.n l6 n6
  rw [f1] at g3
  rw [g3] at g4
  rw [g4] at g6
  rw [g6] at g7
  have sub1 : ∀ ox oy, xbin Try.prog .sub T.int ox oy (.int .i64 ((bl a.key).length : Int)) (.int .i64 (p : Int)) = some (.int .i64 (((bl a.key).length - p : Nat) : Int)) := fun ox oy => by
    rw [show (((bl a.key).length - p : Nat) : Int) = ((bl a.key).length : Int) - (p : Int) by omega]
    exact sub_i64 (by omega)
  have cA : ∀ (m : Int) H, xconv Try.prog T.int T.uint8 (.int .i64 m) H = some (.int .u8 (m % 256), H) := fun m H => by rw [x_int_uint8, wrapU8]
  have sl1 := slT_lo (s := a.key) (q := .i64) hpl
  refine ⟨v7, H7, fun K => ?_, so7⟩
  rw [r_backup_Encode_0, Int.natCast_add]
  simp (disch := first | with_reducible rfl | assumption | omega | rfl | (simp only [go_sem]; first | done | omega)) only [go_sem, ↓reduceIte, reduceCtorEq, Nat.reduceEqDiff, Nat.reduceAdd, Nat.reduceSub, Nat.reduceMul, Nat.reduceDiv, Nat.reduceMod, Nat.reduceLeDiff, Nat.reduceLT, Nat.reduceBEq, Int.reduceEq, Int.reduceBEq, Int.reduceBNe, Int.reduceLT, Int.reduceLE, Int.reduceAdd, Int.reduceSub, Int.reduceNeg, Int.reduceToNat, Int.reducePow, Nat.reducePow, Int.reduceMul, Int.reduceDiv, ↓s_backup_Encode_b0, hlt, ix, hc, hH1, f1, enterK_eq hp, cA, sub1, hH2, a3, g3, sl1, a4, g4, hH5, a6, g6, a7, g7]

theorem drop_getElem {α : Type} {l t : List α} {a : α} {i : Nat} (h : l.drop i = a :: t) : ∃ hi : i < l.length, l[i] = a ∧ l.drop (i + 1) = t := drop_cons h

theorem l_Encode (l : List Pr) (v : Value) (H0 : AHeap) (hr : Rd EPr H0 v l) (hsz : ∀ a ∈ l, (bl a.key).length ≤ 1000 ∧ (bl a.value).length ≤ 1000) (hl : l.length ≤ 20000) : ∀ (t : List Pr) (i : Nat) (last : ByteArray) (H : AHeap) (out : Value) (o : List UInt8), l.drop i = t → (bl last).length ≤ 1000 → Since H0 H out o → o.length ≤ 2003 * i + 1000 →
    ∃ out' H', (∀ K : K, l_backup_Encode_0 out (.string last) v (.int .i64 (l.length : Int)) (.int .i64 (i : Int)) H (blkK [5] 0 K) = K .normal [(5, out')] H') ∧ Since H0 H' out' (o ++ bodyB last t)
  | [], i, last, H, out, o, hx, hla, so, ho => by
    have h : l.length ≤ i := List.drop_eq_nil_iff.1 hx
    have hlt : ¬ (i : Int) < (l.length : Int) := by omega
    refine ⟨out, H, fun K => ?_, by rw [bodyB, List.append_nil]; exact so⟩
    rw [r_backup_Encode_0]
    simp (disch := first | with_reducible rfl | assumption | omega | rfl | (simp only [go_sem]; first | done | omega)) only [go_sem, ↓reduceIte, reduceCtorEq, Nat.reduceEqDiff, Nat.reduceAdd, Nat.reduceSub, Nat.reduceMul, Nat.reduceDiv, Nat.reduceMod, Nat.reduceLeDiff, Nat.reduceLT, Nat.reduceBEq, Int.reduceEq, Int.reduceBEq, Int.reduceBNe, Int.reduceLT, Int.reduceLE, Int.reduceAdd, Int.reduceSub, Int.reduceNeg, Int.reduceToNat, Int.reducePow, Nat.reducePow, Int.reduceMul, Int.reduceDiv, ↓s_backup_Encode_b0, hlt]
  | a :: t, i, last, H, out, o, hx, hla, so, ho => by
    obtain ⟨hi, hxa, hx'⟩ := drop_cons hx
    obtain ⟨out1, H1, e1, so1⟩ := r_Encode l v H0 hr i hi hsz hl last hla H out o so (by omega)
    rw [hxa] at e1 so1
    have hsa := hsz a (by rw [← hxa]; exact List.getElem_mem hi)
    have hpl := pairB_len last a
    obtain ⟨out2, H2, e2, so2⟩ := l_Encode l v H0 hr hsz hl t (i + 1) a.key H1 out1 _ hx' hsa.1 so1 (by simp; omega)
    refine ⟨out2, H2, fun K => (e1 K).trans (e2 K), ?_⟩
    rw [bodyB, ← List.append_assoc]
    exact so2

theorem bodyB_len : ∀ (l : List Pr) (last : ByteArray), (∀ a ∈ l, (bl a.key).length ≤ 1000 ∧ (bl a.value).length ≤ 1000) → (bodyB last l).length ≤ 2003 * l.length
  | [], _, _ => by simp [bodyB]
  | a :: t, last, h => by
    have h1 := bodyB_len t a.key fun x hx => h x (by simp [hx])
    have h2 := h a (by simp)
    have h3 := pairB_len last a
    simp [bodyB]
    omega

theorem q_Encode (b : Nat) (l : List Pr) (H : AHeap) (r : Mdl H b l) (hl : l.length ≤ 20000) (hsz : ∀ a ∈ l, (bl a.key).length ≤ 1000 ∧ (bl a.value).length ≤ 1000) :
    ∃ v' H', CC F.backup_Encode [.pointer (some ⟨b, 0, none⟩)] H = some (.tuple #[v', .int .i64 0], H') ∧ BR H' v' (encB l) ∧ Still H H' := by
  obtain ⟨v1, H1, m1, o1, s1, _⟩ := q_Pairs b l H r (by omega)
  obtain ⟨H2, hH2⟩ : ∃ H2, H1.push (.cells [.int .u8 84, .int .u8 76, .int .u8 1] T.uint8 true) = H2 := ⟨_, rfl⟩
  have s2 : Still H1 H2 := by rw [← hH2]; exact (Fr.refl H1).push _
  have n2 : H2.n = H1.n + 1 := by rw [← hH2]; rfl
  have f2 : H2.f H1.n = .cells (EB.cells [84, 76, 1]) T.uint8 true := by rw [← hH2]; exact push_f_eq rfl
  have rd2 : BR H2 (.slice (some ⟨H1.n, 0, none⟩) 3 (2 * 3)) [84, 76, 1] := newB (l := [84, 76, 1]) (by omega) f2
  have m3 := q_four (l.length : Int) H2 (by omega) (by omega)
  obtain ⟨H3, hH3⟩ : ∃ H3, H2.push (.cells (EB.cells (be (l.length : Int) 4)) T.uint8 true) = H3 := ⟨_, rfl⟩
  rw [hH3] at m3
  have s3 : Still H2 H3 := by rw [← hH3]; exact (Fr.refl H2).push _
  have n3 : H3.n = H2.n + 1 := by rw [← hH3]; rfl
  have f3 : H3.f H2.n = .cells (EB.cells (be (l.length : Int) 4)) T.uint8 true := by rw [← hH3]; exact push_f_eq rfl
  have rd3 : BR H3 (.slice (some ⟨H2.n, 0, none⟩) 4 8) (be (l.length : Int) 4) := by
    have := newB (l := be (l.length : Int) 4) (b := H2.n) (H := H3) (by omega) f3
    rwa [be_length] at this
  obtain ⟨v4, H4, a4, o4, s4, b4, _⟩ := Full.app (e := T.uint8) Full.of (rd2.still s3).1 (m := be (l.length : Int) 4) (by simp [be]) (sz := 1) (bytes := 1) rfl (by simp [be]) (by simp [be]) (rd3.1.src (sz := 1) rfl)
  have so4 : Since H1 H4 v4 (headB l) := ⟨(s2.trans s3).trans s4, o4, fun c h => by rw [b4] at h; cases h; omega⟩
  have hlen := o1.rd.lenS
  obtain ⟨v5, H5, e5, so5⟩ := l_Encode l v1 H1 o1.rd hsz hl l 0 (mk []) H4 v4 (headB l) rfl (by rw [bl_mk]; simp) so4 (by simp [headB, be_length])
  have e5 : ∀ K : K, l_backup_Encode_0 v4 (.string (mk [])) v1 (.int .i64 (l.length : Int)) (.int .i64 0) H4 (blkK [5] 0 K) = K .normal [(5, v5)] H5 := e5
  have hbl := bodyB_len l (mk []) hsz
  have hfl : (fullB l).length ≤ 100000000 := by unfold fullB headB; simp [be_length]; omega
  have so5 : Since H1 H5 v5 (fullB l) := so5
  have hck := q_Check (fullB l) v5 H5 so5.own.rd (by omega)
  have hadl := adl_lt (fullB l)
  have m6 := q_four (adl (fullB l)) H5 hadl.1 hadl.2
  obtain ⟨H6, hH6⟩ : ∃ H6, H5.push (.cells (EB.cells (be (adl (fullB l)) 4)) T.uint8 true) = H6 := ⟨_, rfl⟩
  obtain ⟨v7, H7, a7, so7, _⟩ := so5.litK (be (adl (fullB l)) 4) hH6 (by simp [be_length]; omega)
  rw [hH6] at m6
  rw [be_length] at a7
  have hw : IntKind.wrap .u32 (l.length : Int) = (l.length : Int) := wrap_u32 ⟨by omega, by omega⟩
  have a4 : Eng.app T.uint8 1 1 (.slice (some ⟨H1.n, 0, none⟩) 3 6) (srcS 1 (.slice (some ⟨H2.n, 0, none⟩) 4 8) H3) H3 = some (v4, H4) := a4
  have a7 : Eng.app T.uint8 1 1 v5 (srcS 1 (.slice (some ⟨H5.n, 0, none⟩) 4 8) H6) H6 = some (v7, H7) := a7
  have key : s_backup_Encode guardK condL shareL Try.prog CC l_backup_Encode_0 (.pointer (some ⟨b, 0, none⟩)) H (endK Try.prog [.tmp 2, .tmp 3]) = some (.tuple #[v7, .int .i64 0], H7) := by
    simp (disch := first | with_reducible rfl | assumption | omega | rfl | (simp only [go_sem]; first | done | omega)) only [go_sem, ↓reduceIte, reduceCtorEq, Nat.reduceEqDiff, Nat.reduceAdd, Nat.reduceSub, Nat.reduceMul, Nat.reduceDiv, Nat.reduceMod, Nat.reduceLeDiff, Nat.reduceLT, Nat.reduceBEq, Int.reduceEq, Int.reduceBEq, Int.reduceBNe, Int.reduceLT, Int.reduceLE, Int.reduceAdd, Int.reduceSub, Int.reduceNeg, Int.reduceToNat, Int.reducePow, Nat.reducePow, Int.reduceMul, Int.reduceDiv, ↓s_backup_Encode, mp_some, enterK_eq m1, hH2, hlen, x_int_uint32, hw, enterK_eq m3, a4, e5, enterK_eq hck, enterK_eq m6, a7]
  obtain ⟨H8, h8, h9, h10⟩ := keep_pair (n := 0) (s1.trans so7.still) so7
  exact ⟨v7, H8, (d_backup_Encode _ H key).trans (by rw [h8]), h9, h10⟩

end Go.Proofs.Ytehnchfnhbmkdaa

/-
  Chapter 48: bytesOf.
  Conditions: none. By an AI agent.
-/
set_option maxRecDepth 10000
set_option linter.unusedSimpArgs false
set_option linter.unusedVariables false
namespace Go.Proofs.Ytehnchfnhbmkdaa
open Go Eng

theorem rd_pair {H : AHeap} {v : Value} {l : List Pr} (hr : Rd EPr H v l) {i : Nat} (hi : i < l.length) {iv : Int} (hiv : iv = (i : Int)) :
    ∃ b o, ixS 2 v (.int .i64 iv) = some (.pointer (some ⟨b, o, none⟩)) ∧ cellB (H.f b) o = some (.string l[i].key) ∧ cellB (H.f b) (o + 1) = some (.string l[i].value) ∧ b < H.n := by
  obtain ⟨b1, o1, ix, hb, hc, _⟩ := hr.ix (q := .i64) hi
  have ix : ixS 2 v (.int .i64 (i : Int)) = some (.pointer (some ⟨b1, o1, none⟩)) := ix
  have hc : cutB (H.f b1) o1 2 = some [.string l[i].key, .string l[i].value] := hc
  have c0 := cutB_cell hc (i := 0) (by decide)
  have c1 := cutB_cell hc (i := 1) (by decide)
  subst hiv
  exact ⟨b1, o1, ix, c0, c1, hb⟩

theorem l_bytesOf1 (l : List Pr) (v w : Value) (H : AHeap) (hr : Rd EPr H v l) (iv jv : Int) (i j : Nat) (hiv : iv = i) (hjv : jv = j) (hij : i = j + 1) (hi : i < l.length) (hl : l.length ≤ 1000000000) (hj : j < l.length) (hsz : (bl l[i].key).length ≤ 1000) : ∀ (x y : List UInt8) (n : Nat), (bl l[i].key).drop n = x → (bl l[j].key).drop n = y → n ≤ (bl l[i].key).length → n ≤ (bl l[j].key).length →
    ∀ K : K, l_law_bytesOf_1 v w (.int .i64 iv) (.int .i64 (n : Int)) H (blkK [0, 3, 4, 5] 2 K) = K .normal [(0, v), (3, w), (4, .int .i64 iv), (5, .int .i64 ((n + pre x y : Nat) : Int))] H
  | x, y, n, hx, hy, h1, h2, K => by
    have hgt : 0 < iv := by omega
    have sub1 : ∀ ox oy, xbin Try.prog .sub T.int ox oy (.int .i64 iv) (.int .i64 1) = some (.int .i64 jv) := fun ox oy => by
      rw [show jv = iv - 1 by omega]; exact sub_i64 (by omega)
    obtain ⟨b1, o1, i1, c1, _, _⟩ := rd_pair hr hi hiv
    obtain ⟨b2, o2, i2, c2, _, _⟩ := rd_pair hr hj hjv
    match x, y, hx, hy with
    | [], y, hx, hy =>
      have h : (bl l[i].key).length ≤ n := List.drop_eq_nil_iff.1 hx
      have hlt : ¬ (n : Int) < ((bl l[i].key).length : Int) := by omega
      rw [r_law_bytesOf_1]
      simp (disch := first | with_reducible rfl | assumption | omega | rfl | (simp only [go_sem]; first | done | omega)) only [go_sem, ↓reduceIte, reduceCtorEq, Nat.reduceEqDiff, Nat.reduceAdd, Nat.reduceSub, Nat.reduceMul, Nat.reduceDiv, Nat.reduceMod, Nat.reduceLeDiff, Nat.reduceLT, Nat.reduceBEq, Int.reduceEq, Int.reduceBEq, Int.reduceBNe, Int.reduceLT, Int.reduceLE, Int.reduceAdd, Int.reduceSub, Int.reduceNeg, Int.reduceToNat, Int.reducePow, Nat.reducePow, Int.reduceMul, Int.reduceDiv, ↓s_law_bytesOf_b1, hgt, i1, c1, hlt]
      rfl
    | c :: x, [], hx, hy =>
      obtain ⟨h, _, _⟩ := drop_cons hx
      have hlt : (n : Int) < ((bl l[i].key).length : Int) := by omega
      have h : (bl l[j].key).length ≤ n := List.drop_eq_nil_iff.1 hy
      have hlt2 : ¬ (n : Int) < ((bl l[j].key).length : Int) := by omega
      rw [r_law_bytesOf_1]
      simp (disch := first | with_reducible rfl | assumption | omega | rfl | (simp only [go_sem]; first | done | omega)) only [go_sem, ↓reduceIte, reduceCtorEq, Nat.reduceEqDiff, Nat.reduceAdd, Nat.reduceSub, Nat.reduceMul, Nat.reduceDiv, Nat.reduceMod, Nat.reduceLeDiff, Nat.reduceLT, Nat.reduceBEq, Int.reduceEq, Int.reduceBEq, Int.reduceBNe, Int.reduceLT, Int.reduceLE, Int.reduceAdd, Int.reduceSub, Int.reduceNeg, Int.reduceToNat, Int.reducePow, Nat.reducePow, Int.reduceMul, Int.reduceDiv, ↓s_law_bytesOf_b1, hgt, i1, c1, hlt, sub1, i2, c2, hlt2]
      rfl
    | c :: x, d :: y, hx, hy =>
      obtain ⟨h3, hxa, hx'⟩ := drop_cons hx
      obtain ⟨h4, hyb, hy'⟩ := drop_cons hy
      have hlt : (n : Int) < ((bl l[i].key).length : Int) := by omega
      have hlt2 : (n : Int) < ((bl l[j].key).length : Int) := by omega
      have e1 := xix h3
      have e2 := xix h4
      rw [hxa] at e1
      rw [hyb] at e2
      unfold pre
      by_cases hcd : c = d
      · rw [if_pos hcd]
        have hcd' : ((c.toNat : Int) = (d.toNat : Int)) = True := by simp [hcd]
        have ih := l_bytesOf1 l v w H hr iv jv i j hiv hjv hij hi hl hj hsz x y (n + 1) hx' hy' (by omega) (by omega) K
        rw [show n + 1 + pre x y = n + (pre x y + 1) by omega] at ih
        rw [r_law_bytesOf_1]
        simp (disch := first | with_reducible rfl | assumption | omega | rfl | (simp only [go_sem]; first | done | omega)) only [go_sem, ↓reduceIte, reduceCtorEq, Nat.reduceEqDiff, Nat.reduceAdd, Nat.reduceSub, Nat.reduceMul, Nat.reduceDiv, Nat.reduceMod, Nat.reduceLeDiff, Nat.reduceLT, Nat.reduceBEq, Int.reduceEq, Int.reduceBEq, Int.reduceBNe, Int.reduceLT, Int.reduceLE, Int.reduceAdd, Int.reduceSub, Int.reduceNeg, Int.reduceToNat, Int.reducePow, Nat.reducePow, Int.reduceMul, Int.reduceDiv, ↓s_law_bytesOf_b1, hgt, i1, c1, hlt, sub1, i2, c2, hlt2, e1, e2, hcd']
        exact ih
      · rw [if_neg hcd]
        have hcd' : ¬ ((c.toNat : Int) = (d.toNat : Int)) := fun h => hcd (UInt8.toNat_inj.1 (by omega))
        rw [r_law_bytesOf_1]
        simp (disch := first | with_reducible rfl | assumption | omega | rfl | (simp only [go_sem]; first | done | omega)) only [go_sem, ↓reduceIte, reduceCtorEq, Nat.reduceEqDiff, Nat.reduceAdd, Nat.reduceSub, Nat.reduceMul, Nat.reduceDiv, Nat.reduceMod, Nat.reduceLeDiff, Nat.reduceLT, Nat.reduceBEq, Int.reduceEq, Int.reduceBEq, Int.reduceBNe, Int.reduceLT, Int.reduceLE, Int.reduceAdd, Int.reduceSub, Int.reduceNeg, Int.reduceToNat, Int.reducePow, Nat.reducePow, Int.reduceMul, Int.reduceDiv, ↓s_law_bytesOf_b1, hgt, i1, c1, hlt, sub1, i2, c2, hlt2, e1, e2, hcd']
  termination_by x => x.length

theorem l_bytesOf1z (v w : Value) (H : AHeap) : ∀ K : K, l_law_bytesOf_1 v w (.int .i64 0) (.int .i64 0) H (blkK [0, 3, 4, 5] 2 K) = K .normal [(0, v), (3, w), (4, .int .i64 0), (5, .int .i64 0)] H := fun K => by
  rw [r_law_bytesOf_1]
  simp (disch := first | with_reducible rfl | assumption | omega | rfl | (simp only [go_sem]; first | done | omega)) only [go_sem, ↓reduceIte, reduceCtorEq, Nat.reduceEqDiff, Nat.reduceAdd, Nat.reduceSub, Nat.reduceMul, Nat.reduceDiv, Nat.reduceMod, Nat.reduceLeDiff, Nat.reduceLT, Nat.reduceBEq, Int.reduceEq, Int.reduceBEq, Int.reduceBNe, Int.reduceLT, Int.reduceLE, Int.reduceAdd, Int.reduceSub, Int.reduceNeg, Int.reduceToNat, Int.reducePow, Nat.reducePow, Int.reduceMul, Int.reduceDiv, ↓s_law_bytesOf_b1]

/-- The key before. -/
def lastK (l : List Pr) : Nat → ByteArray
  | 0 => mk []
  | i + 1 => (l[i]?).elim (mk []) Pr.key

theorem r_bytesOf (l : List Pr) (v : Value) (H0 : AHeap) (hr : Rd EPr H0 v l) (i : Nat) (hi : i < l.length) (hsz : ∀ a ∈ l, (bl a.key).length ≤ 1000 ∧ (bl a.value).length ≤ 1000) (hl : l.length ≤ 20000) (H : AHeap) (out : Value) (o : List UInt8) (so : Since H0 H out o) (ho : o.length ≤ 100000000) :
    ∃ out' H', (∀ K : K, l_law_bytesOf_0 v out (.int .i64 (i : Int)) H (blkK [3] 0 K) = l_law_bytesOf_0 v out' (.int .i64 ((i + 1 : Nat) : Int)) H' (blkK [3] 0 K)) ∧
      Since H0 H' out' (o ++ pairB (lastK l i) l[i]) := by
  have hlt : (i : Int) < (l.length : Int) := by omega
  have hlen := hr.lenS
  have hsa := hsz _ (List.getElem_mem hi)
  obtain ⟨b1, o1, ix, c0, c1, hb1⟩ := rd_pair hr hi (iv := (i : Int)) rfl
  obtain ⟨p, hpd⟩ : ∃ p, pre (bl (lastK l i)) (bl l[i].key) = p := ⟨_, rfl⟩
  have hpl := (pre_le (bl (lastK l i)) (bl l[i].key)).2.1
  have e1 := pairB_eq (lastK l i) l[i] o
  rw [hpd] at e1 hpl
  have hin : ∀ K : K, l_law_bytesOf_1 v out (.int .i64 (i : Int)) (.int .i64 0) H (blkK [0, 3, 4, 5] 2 K) = K .normal [(0, v), (3, out), (4, .int .i64 (i : Int)), (5, .int .i64 (p : Int))] H := by
    cases i with
    | zero =>
      have : p = 0 := by rw [← hpd]; show pre (bl (mk [])) _ = 0; rw [bl_mk]; rfl
      subst this
      exact l_bytesOf1z v out H
    | succ j =>
      have hjl : j < l.length := by omega
      have : lastK l (j + 1) = l[j].key := by show (l[j]?).elim (mk []) Pr.key = _; rw [List.getElem?_eq_getElem hjl]; rfl
      rw [this, pre_comm] at hpd
      intro K
      have := l_bytesOf1 l v out H (hr.still so.still) ((j + 1 : Nat) : Int) (j : Int) (j + 1) j rfl rfl rfl hi (by omega) hjl hsa.1 _ _ 0 rfl rfl (Nat.zero_le _) (Nat.zero_le _) K
      rw [Nat.zero_add, List.drop_zero, List.drop_zero, hpd] at this
      exact this
  obtain ⟨a, ha⟩ : ∃ a, l[i] = a := ⟨_, rfl⟩
  rw [ha] at c0 c1 hsa hpl e1 hpd
  rw [ha]
  obtain ⟨H2, hH2⟩ : ∃ H2, H.push (.cells [.int .u8 ((p : Int) % 256), .int .u8 ((((bl a.key).length - p : Nat) : Int) % 256)] T.uint8 true) = H2 := ⟨_, rfl⟩
  have hH2' : H.push (.cells (EB.cells [by8 p, by8 ((bl a.key).length - p)]) T.uint8 true) = H2 := by rw [cells_two]; exact hH2
  obtain ⟨v3, H3, a3, so3, _, _, fr3⟩ := so.litK [by8 p, by8 ((bl a.key).length - p)] hH2' (by simp; omega)
  obtain ⟨v4, H4, a4, so4, _, _⟩ := so3.appK ((bl a.key).drop p) (srcT_cells _) (by simp; omega)
  obtain ⟨H5, hH5⟩ : ∃ H5, H4.push (.cells [.int .u8 (((bl a.value).length : Int) % 256)] T.uint8 true) = H5 := ⟨_, rfl⟩
  have hH5' : H4.push (.cells (EB.cells [by8 (bl a.value).length]) T.uint8 true) = H5 := by rw [cells_one']; exact hH5
  obtain ⟨v6, H6, a6, so6, _, _, fr6⟩ := so4.litK [by8 (bl a.value).length] hH5' (by simp; omega)
  obtain ⟨v7, H7, a7, so7, _, _⟩ := so6.appK (bl a.value) (srcT_b _) (by simp; omega)
  rw [e1] at so7
  have a3 : Eng.app T.uint8 1 1 out (srcS 1 (.slice (some ⟨H.n, 0, none⟩) 2 4) H2) H2 = some (v3, H3) := a3
  have a6 : Eng.app T.uint8 1 1 v4 (srcS 1 (.slice (some ⟨H4.n, 0, none⟩) 1 2) H5) H5 = some (v6, H6) := a6
  have stay : ∀ {Hx : AHeap} {ov : Value} {ol : List UInt8}, Since H0 Hx ov ol → Hx.f b1 = H0.f b1 := fun r => r.still.f hb1 fun h => h
  have g : ∀ {Hx : AHeap} {ov : Value} {ol : List UInt8}, Since H0 Hx ov ol → cellB (Hx.f b1) o1 = some (.string a.key) ∧ cellB (Hx.f b1) (o1 + 1) = some (.string a.value) := fun r => by rw [stay r]; exact ⟨c0, c1⟩
  have ok : ∀ {A B : AHeap} {ov : Value}, Fr (OnlyOf ov) A B → (∀ b, blockOf ov = some b → H0.n ≤ b) → H0.n ≤ A.n → okV (some true) none A B B B = true ∧ okV (some true) (some b1) A B B B = true := fun {A B ov} f hb hA => ⟨okV_none (.inl f.n), okV_some (.inr (by
    rcases f.old b1 (by omega) with h | ⟨_, h⟩
    · exact h.1
    · unfold OnlyOf at h; have := hb _ h; omega)) (.inl f.n)⟩
  have p2 : H0.n ≤ H2.n := by rw [← hH2]; have := so.still.n; show H0.n ≤ H.n + 1; omega
  have p5 : H0.n ≤ H5.n := by rw [← hH5]; have := so4.still.n; show H0.n ≤ H4.n + 1; omega
  obtain ⟨k1, k2⟩ := ok fr3 so.new p2
  obtain ⟨k3, k4⟩ := ok fr6 so4.new p5
  obtain ⟨g0, g0'⟩ := g so
  obtain ⟨g3, g3'⟩ := g so3
  obtain ⟨g4, g4'⟩ := g so4
  obtain ⟨g6, g6'⟩ := g so6
  have sub1 : ∀ ox oy, xbin Try.prog .sub T.int ox oy (.int .i64 ((bl a.key).length : Int)) (.int .i64 (p : Int)) = some (.int .i64 (((bl a.key).length - p : Nat) : Int)) := fun ox oy => by
    rw [show (((bl a.key).length - p : Nat) : Int) = ((bl a.key).length : Int) - (p : Int) by omega]
    exact sub_i64 (by omega)
  have cA : ∀ (m : Int) H, xconv Try.prog T.int T.uint8 (.int .i64 m) H = some (.int .u8 (m % 256), H) := fun m H => by rw [x_int_uint8, wrapU8]
  have sl1 := slT_lo (s := a.key) (q := .i64) hpl
  refine ⟨v7, H7, fun K => ?_, so7⟩
  rw [r_law_bytesOf_0, Int.natCast_add]
  simp (disch := first | with_reducible rfl | assumption | omega | rfl | (simp only [go_sem]; first | done | omega)) only [go_sem, ↓reduceIte, reduceCtorEq, Nat.reduceEqDiff, Nat.reduceAdd, Nat.reduceSub, Nat.reduceMul, Nat.reduceDiv, Nat.reduceMod, Nat.reduceLeDiff, Nat.reduceLT, Nat.reduceBEq, Int.reduceEq, Int.reduceBEq, Int.reduceBNe, Int.reduceLT, Int.reduceLE, Int.reduceAdd, Int.reduceSub, Int.reduceNeg, Int.reduceToNat, Int.reducePow, Nat.reducePow, Int.reduceMul, Int.reduceDiv, ↓s_law_bytesOf_b0, hlen, hlt, hin, cA, ix, g0, sub1, hH2, a3, g3, sl1, a4, k1, k2, g4', hH5, a6, g6', a7, k3, k4]

theorem l_bytesOf (l : List Pr) (v : Value) (H0 : AHeap) (hr : Rd EPr H0 v l) (hsz : ∀ a ∈ l, (bl a.key).length ≤ 1000 ∧ (bl a.value).length ≤ 1000) (hl : l.length ≤ 20000) : ∀ (t : List Pr) (i : Nat) (H : AHeap) (out : Value) (o : List UInt8), l.drop i = t → Since H0 H out o → o.length ≤ 2003 * i + 1000 →
    ∃ out' H', (∀ K : K, l_law_bytesOf_0 v out (.int .i64 (i : Int)) H (blkK [3] 0 K) = K .normal [(3, out')] H') ∧ Since H0 H' out' (o ++ bodyB (lastK l i) t)
  | [], i, H, out, o, hx, so, ho => by
    have h : l.length ≤ i := List.drop_eq_nil_iff.1 hx
    have hlt : ¬ (i : Int) < (l.length : Int) := by omega
    have hlen := hr.lenS
    refine ⟨out, H, fun K => ?_, by rw [bodyB, List.append_nil]; exact so⟩
    rw [r_law_bytesOf_0]
    simp (disch := first | with_reducible rfl | assumption | omega | rfl | (simp only [go_sem]; first | done | omega)) only [go_sem, ↓reduceIte, reduceCtorEq, Nat.reduceEqDiff, Nat.reduceAdd, Nat.reduceSub, Nat.reduceMul, Nat.reduceDiv, Nat.reduceMod, Nat.reduceLeDiff, Nat.reduceLT, Nat.reduceBEq, Int.reduceEq, Int.reduceBEq, Int.reduceBNe, Int.reduceLT, Int.reduceLE, Int.reduceAdd, Int.reduceSub, Int.reduceNeg, Int.reduceToNat, Int.reducePow, Nat.reducePow, Int.reduceMul, Int.reduceDiv, ↓s_law_bytesOf_b0, hlen, hlt]
  | a :: t, i, H, out, o, hx, so, ho => by
    obtain ⟨hi, hxa, hx'⟩ := drop_cons hx
    obtain ⟨out1, H1, e1, so1⟩ := r_bytesOf l v H0 hr i hi hsz hl H out o so (by omega)
    rw [hxa] at so1
    have hsa := hsz a (by rw [← hxa]; exact List.getElem_mem hi)
    have hpl := pairB_len (lastK l i) a
    obtain ⟨out2, H2, e2, so2⟩ := l_bytesOf l v H0 hr hsz hl t (i + 1) H1 out1 _ hx' so1 (by simp; omega)
    refine ⟨out2, H2, fun K => (e1 K).trans (e2 K), ?_⟩
    have hk : lastK l (i + 1) = a.key := by show (l[i]?).elim (mk []) Pr.key = _; rw [List.getElem?_eq_getElem hi, hxa]; rfl
    rw [hk] at so2
    rw [bodyB, ← List.append_assoc]
    exact so2

theorem encB_len (l : List Pr) (hl : l.length ≤ 20000) (hsz : ∀ a ∈ l, (bl a.key).length ≤ 1000 ∧ (bl a.value).length ≤ 1000) : (encB l).length = (fullB l).length + 4 ∧ (fullB l).length ≤ 100000000 ∧ 7 ≤ (fullB l).length := by
  have hbl := bodyB_len l (mk []) hsz
  refine ⟨by simp [encB, be_length], ?_, ?_⟩
  · unfold fullB headB; simp [be_length]; omega
  · unfold fullB headB; simp [be_length]

theorem q_bytesOf (l : List Pr) (v : Value) (H : AHeap) (hr : Rd EPr H v l) (hl : l.length ≤ 20000) (hsz : ∀ a ∈ l, (bl a.key).length ≤ 1000 ∧ (bl a.value).length ≤ 1000) :
    ∃ v' H', CC F.law_bytesOf [v] H = some (v', H') ∧ Since H H' v' (encB l) := by
  have hlen := hr.lenS
  obtain ⟨H2, hH2⟩ : ∃ H2, H.push (.cells [.int .u8 84, .int .u8 76, .int .u8 1] T.uint8 true) = H2 := ⟨_, rfl⟩
  have s2 : Still H H2 := by rw [← hH2]; exact (Fr.refl H).push _
  have n2 : H2.n = H.n + 1 := by rw [← hH2]; rfl
  have f2 : H2.f H.n = .cells (EB.cells [84, 76, 1]) T.uint8 true := by rw [← hH2]; exact push_f_eq rfl
  have rd2 : BR H2 (.slice (some ⟨H.n, 0, none⟩) 3 (2 * 3)) [84, 76, 1] := newB (l := [84, 76, 1]) (by omega) f2
  obtain ⟨H3, m3, f3, s3, n3⟩ := q_many (l.length : Int) 4 H2 (by omega) (by omega) (by decide)
  have m3 : CC F.law_many [.int .i64 (l.length : Int), .int .i64 4] H2 = some (.slice (some ⟨H2.n, 0, none⟩) 4 8, H3) := m3
  have rd3 : BR H3 (.slice (some ⟨H2.n, 0, none⟩) 4 8) (be (l.length : Int) 4) := by
    have := newB (l := be (l.length : Int) 4) (b := H2.n) (H := H3) (by omega) f3
    rwa [be_length] at this
  obtain ⟨v4, H4, a4, o4, s4, b4, _⟩ := Full.app (e := T.uint8) Full.of (rd2.still s3).1 (m := be (l.length : Int) 4) (by simp [be]) (sz := 1) (bytes := 1) rfl (by simp [be]) (by simp [be]) (rd3.1.src (sz := 1) rfl)
  have so4 : Since H H4 v4 (headB l) := ⟨(s2.trans s3).trans s4, o4, fun c h => by rw [b4] at h; cases h; omega⟩
  obtain ⟨v5, H5, e5, so5⟩ := l_bytesOf l v H hr hsz hl l 0 H4 v4 (headB l) rfl so4 (by simp [headB, be_length])
  have e5 : ∀ K : K, l_law_bytesOf_0 v v4 (.int .i64 0) H4 (blkK [3] 0 K) = K .normal [(3, v5)] H5 := e5
  obtain ⟨_, hfl, _⟩ := encB_len l hl hsz
  have so5 : Since H H5 v5 (fullB l) := so5
  have hck := q_lcheck (fullB l) v5 H5 so5.own.rd (by omega)
  have hadl := adl_lt (fullB l)
  obtain ⟨H6, m6, f6, s6, n6⟩ := q_many (adl (fullB l)) 4 H5 hadl.1 (by omega) (by decide)
  have m6 : CC F.law_many [.int .i64 (adl (fullB l)), .int .i64 4] H5 = some (.slice (some ⟨H5.n, 0, none⟩) 4 8, H6) := m6
  have rd6 : BR H6 (.slice (some ⟨H5.n, 0, none⟩) 4 8) (be (adl (fullB l)) 4) := by
    have := newB (l := be (adl (fullB l)) 4) (b := H5.n) (H := H6) (by omega) f6
    rwa [be_length] at this
  obtain ⟨v7, H7, a7, so7, _, _⟩ := (so5.to s6).appK (be (adl (fullB l)) 4) (rd6.1.src (sz := 1) rfl) (by simp [be_length]; omega)
  have a4 : Eng.app T.uint8 1 1 (.slice (some ⟨H.n, 0, none⟩) 3 6) (srcS 1 (.slice (some ⟨H2.n, 0, none⟩) 4 8) H3) H3 = some (v4, H4) := a4
  have so7 : Since H H7 v7 (encB l) := so7
  have hg : gr 9 v7 = false := by
    rcases so7.own with ⟨h, _⟩ | ⟨h, _⟩ | ⟨b, o, c, xs, h, _⟩
    · have := (encB_len l hl hsz).1; rw [h] at this; simp at this
    · have := (encB_len l hl hsz).1; rw [h] at this; simp at this
    · rw [h]; rfl
  refine ⟨v7, H7, (d_law_bytesOf _ H ?_).trans (congrArg some (tidy_mem (v := v7) (H' := H7) hg)), so7⟩
  simp (disch := first | with_reducible rfl | assumption | omega | rfl | (simp only [go_sem]; first | done | omega)) only [go_sem, ↓reduceIte, reduceCtorEq, Nat.reduceEqDiff, Nat.reduceAdd, Nat.reduceSub, Nat.reduceMul, Nat.reduceDiv, Nat.reduceMod, Nat.reduceLeDiff, Nat.reduceLT, Nat.reduceBEq, Int.reduceEq, Int.reduceBEq, Int.reduceBNe, Int.reduceLT, Int.reduceLE, Int.reduceAdd, Int.reduceSub, Int.reduceNeg, Int.reduceToNat, Int.reducePow, Nat.reducePow, Int.reduceMul, Int.reduceDiv, ↓s_law_bytesOf, hH2, hlen, enterK_eq m3, a4, e5, enterK_eq hck, enterK_eq m6, a7]

end Go.Proofs.Ytehnchfnhbmkdaa

/-
  Rows: appending where nothing may be appended; parts that are only read; one cell of a pair.
  Conditions: none. By an AI agent.
-/
set_option maxRecDepth 10000
set_option linter.unusedSimpArgs false
set_option linter.unusedVariables false
namespace Go.Proofs.Ytehnchfnhbmkdaa
open Go Eng

variable {α : Type} {E : Enc α} {H : AHeap} {v : Value} {l m : List α} {e : TypeId}

theorem Eng.Own.nil : Own E H e (.slice none 0 0) [] := .inl ⟨rfl, rfl⟩

theorem Eng.Own.appE (r : Own E H e v l) {sz bytes : Nat} (hsz : sz = E.w) (hb : (l.length + m.length) * bytes ≤ 140737488355328) (hn : l.length + m.length ≤ 140737488355328)
    {src : Option (Nat × List Value)} (hsrc : src = some (m.length, E.cells m)) :
    ∃ v' H', Eng.app e sz bytes v src H = some (v', H') ∧ Own E H' e v' (l ++ m) ∧ Fr (OnlyOf v) H H' ∧ (blockOf v' = blockOf v ∨ blockOf v' = some H.n) := by
  by_cases hm : m = []
  · subst hm hsrc
    refine ⟨v, H, ?_, by simpa using r, Fr.refl H, .inl rfl⟩
    rcases r with ⟨rfl, rfl⟩ | ⟨rfl, a, rfl, _, _⟩ | ⟨b, o, c, xs, rfl, _⟩ <;> rfl
  · obtain ⟨v', H', h1, h2, h3, h4, _⟩ := r.app hm hsz hb hn hsrc
    exact ⟨v', H', h1, h2, h3, h4⟩

/-- Appending to a row whose capacity is its length. -/
theorem Eng.Rd.appX {a : Option Addr} {n : Nat} (r : Rd E H (.slice a n (2 * n)) l) {sz bytes : Nat} (hsz : sz = E.w) (hb : (l.length + m.length) * bytes ≤ 140737488355328) (hn : l.length + m.length ≤ 140737488355328)
    {src : Option (Nat × List Value)} (hsrc : src = some (m.length, E.cells m)) (h0 : l ≠ []) :
    ∃ v' H', Eng.app e sz bytes (.slice a n (2 * n)) src H = some (v', H') ∧ Rd E H' v' (l ++ m) ∧ Still H H' ∧ (blockOf v' = a.map (·.block) ∨ blockOf v' = some H.n) := by
  subst hsz
  by_cases hm : m = []
  · subst hm hsrc
    refine ⟨_, H, rfl, by simpa using r, Fr.refl H, ?_⟩
    rcases r with h | ⟨h, _⟩ | ⟨b, o, c, hv, _⟩
    · exact absurd h.1 h0
    · exact absurd h h0
    · cases hv; exact .inl rfl
  · have hm0 : m.length ≠ 0 := fun h => hm (List.length_eq_zero_iff.1 h)
    rcases r with h | ⟨h, _⟩ | ⟨b, o, c, hv, hl, hbn, hc⟩
    · exact absurd h.1 h0
    · exact absurd h h0
    · cases hv
      refine ⟨.slice (some ⟨H.n, 0, none⟩) (l.length + m.length) (2 * (l.length + m.length) + 1), H.push (.cells (E.cells l ++ E.cells m) e true), ?_, ?_, (Fr.refl H).push _, .inr rfl⟩
      · have hold : oldOf E.w l.length H (some ⟨b, o, none⟩) = some (E.cells l) := by
          unfold oldOf
          rw [if_neg fun h => hl (List.length_eq_zero_iff.1 h)]
          simp only [cut_b, hc]
        have hbig : ¬ ((l.length + m.length) * bytes > 140737488355328 ∨ l.length + m.length > 140737488355328) := by omega
        have hroom : ¬ (l.length + m.length ≤ 2 * l.length / 2) := by omega
        have hone := E.cells_one m
        subst hsrc
        simp only [Eng.app, Option.bind_some, hm0, if_false, hbig, hroom, hone, Bool.true_eq_false, hold, show 2 * l.length % 2 = 0 by omega, if_true, Option.map_some]
      · refine .inr (.inr ⟨H.n, 0, _, by rw [List.length_append], by simp [hm], by simp, ?_⟩)
        rw [push_f_eq rfl, cutB_c (by simp [Nat.add_mul]), E.cells_append]
        rw [List.drop_zero, List.take_of_length_le (by simp [Nat.add_mul])]

/-- The first elements. -/
theorem Eng.Own.hi (r : Own E H e v l) {sz : Nat} (hsz : sz = E.w) {i : Nat} (hi : i ≤ l.length) {q : IntKind} : ∃ v', slS e sz v none (some (.int q (i : Int))) none H = some v' ∧ Rd E H v' (l.take i) := by
  subst hsz
  rcases r with ⟨rfl, rfl⟩ | ⟨rfl, ⟨b, o, s⟩, rfl, hs, hbb⟩ | ⟨b, o, c, xs, rfl, hl, hbn, hf, ho, hx⟩
  · simp only [List.length_nil, Nat.le_zero_eq] at hi
    subst hi
    exact ⟨.slice none 0 0, rfl, .inl ⟨by simp, rfl⟩⟩
  · simp only at hs
    subst hs
    simp only [List.length_nil, Nat.le_zero_eq] at hi
    subst hi
    exact ⟨.slice (some ⟨b, o, none⟩) 0 0, by simp [slS, lowOf, highOf, bnd], .inr (.inl ⟨by simp, _, _, rfl, rfl⟩)⟩
  · have hmul := Nat.mul_le_mul_right E.w hl
    have hmi := Nat.mul_le_mul_right E.w hi
    refine ⟨_, sl_hi hf (Nat.le_trans hi hl), ?_⟩
    have hlen : (l.take i).length = i := by simp; omega
    by_cases h0 : i = 0
    · subst h0; exact .inr (.inl ⟨by simp, _, _, rfl, rfl⟩)
    · refine .inr (.inr ⟨b, o, _, by rw [hlen], fun h => h0 (by rw [← hlen, h]; rfl), hbn, ?_⟩)
      rw [hlen, hf, cutB_c (by omega), ← E.cells_take, ← hx, List.take_take, Nat.min_eq_left hmi]

/-- The second cell of a pair. -/
theorem wr1_two {k k' : Blk} {o : Nat} {x y : ByteArray} {w : Value} (hc : cutB k o 2 = some [.string x, w]) (h : wrL k o [.string x, .string y] = some k') : wr1 k (o + 1) (.string y) = some k' := by
  unfold cutB at hc
  unfold wrL at h
  unfold wr1
  cases k with
  | cells xs e rw =>
    cases rw with
    | false => cases h
    | true =>
      simp only at hc h ⊢
      split at hc
      · rename_i hle
        rw [if_pos (by simpa using hle)] at h
        have hx : xs[o]? = some (.string x) := by
          have := congrArg (fun z => z[0]?) (Option.some.inj hc)
          simp only [List.getElem?_take, List.getElem?_drop] at this
          simpa using this
        rw [if_pos (by omega)]
        have he : xs.set o (.string x) = xs := by
          apply List.ext_getElem?
          intro j
          by_cases hj : j = o
          · subst hj; rw [List.getElem?_set_self (by omega), hx]
          · rw [List.getElem?_set_ne (by omega)]
        simp only [List.all_cons, List.all_nil, one_s, Bool.and_self, if_true, spl, he] at h
        rw [if_pos (one_s)]
        simpa using h
      · cases hc
  | _ => cases h

theorem Eng.Own.writeV {l : List Pr} (r : Own EPr H T.api_Pair v l) {i : Nat} (hi : i < l.length) (x : ByteArray) :
    ∃ b o H', ixS 2 v (.int .i64 (i : Int)) = some (.pointer (some ⟨b, o, none⟩)) ∧ setB H b (wr1 (H.f b) (o + 1) (.string x)) = some H' ∧ Own EPr H' T.api_Pair v (l.set i ⟨l[i].key, x⟩) ∧ blockOf v = some b ∧ b < H.n ∧
      H'.n = H.n ∧ Fr (fun c => c = b) H H' := by
  obtain ⟨b, o, H', h1, h2, h3, h4, h5, h6, h7, _⟩ := Own.write r hi ⟨l[i].key, x⟩
  obtain ⟨b2, o2, g1, g2, g3, _⟩ := r.rd.ix (q := .i64) hi
  have g1 : ixS 2 v (.int .i64 (i : Int)) = some (.pointer (some ⟨b2, o2, none⟩)) := g1
  rw [h1] at g1
  cases g1
  refine ⟨b, o, H', h1, ?_, h3, h4, h5, h6, h7⟩
  unfold setB at h2 ⊢
  obtain ⟨k', hk, rfl⟩ := Option.map_eq_some_iff.1 h2
  rw [wr1_two g3 hk]
  rfl

end Go.Proofs.Ytehnchfnhbmkdaa

/-
  Sorted lists of pairs: ranges; a part in the middle.
  Conditions: none. By an AI agent.
-/
set_option maxRecDepth 10000
set_option linter.unusedSimpArgs false
set_option linter.unusedVariables false
namespace Go.Proofs.Ytehnchfnhbmkdaa
open Go Eng

/-- Is a key in a range? -/
def inR (sf st : ByteArray) (a : Pr) : Bool := !decide (cmpS a.key sf < 0) && (decide (bl st = []) || decide (cmpS a.key st < 0))
/-- Where a range ends. -/
def endP (l : List Pr) (st : ByteArray) : Nat := if bl st = [] then l.length else posP l st

theorem filter_ge : ∀ {l : List Pr} (_ : Srt l) (k : ByteArray), l.filter (fun a => !decide (cmpS a.key k < 0)) = l.drop (posP l k)
  | [], _, _ => rfl
  | a :: l, hs, k => by
    obtain ⟨ha, hl⟩ := List.pairwise_cons.1 hs
    rw [posP]
    by_cases h : cmpS a.key k < 0
    · rw [if_pos h, List.filter_cons_of_neg (by simp [h]), List.drop_succ_cons]
      exact filter_ge hl k
    · rw [if_neg h, List.drop_zero, List.filter_eq_self]
      intro b hb
      rcases List.mem_cons.1 hb with rfl | hb
      · simp [h]
      · have := ha b hb
        simp only [Bool.not_eq_true', decide_eq_false_iff_not]
        exact fun hc => h (cmpS_trans this hc)
theorem filter_lt : ∀ {l : List Pr} (_ : Srt l) (k : ByteArray), l.filter (fun a => decide (cmpS a.key k < 0)) = l.take (posP l k)
  | [], _, _ => rfl
  | a :: l, hs, k => by
    obtain ⟨ha, hl⟩ := List.pairwise_cons.1 hs
    rw [posP]
    by_cases h : cmpS a.key k < 0
    · rw [if_pos h, List.filter_cons_of_pos (by simp [h]), List.take_succ_cons, filter_lt hl k]
    · rw [if_neg h, List.take_zero, List.filter_eq_nil_iff]
      intro b hb
      rcases List.mem_cons.1 hb with rfl | hb
      · simp [h]
      · have := ha b hb
        simp only [decide_eq_true_eq]
        exact fun hc => h (cmpS_trans this hc)
theorem posP_take : ∀ (l : List Pr) (k : ByteArray) (q : Nat), posP (l.take q) k = min (posP l k) q
  | [], k, q => by simp [posP]
  | a :: l, k, 0 => by simp [posP]
  | a :: l, k, q + 1 => by
    rw [List.take_succ_cons, posP, posP, posP_take l k q]
    split <;> omega

theorem filter_inR {l : List Pr} (hs : Srt l) (sf st : ByteArray) : l.filter (inR sf st) = (l.drop (posP l sf)).take (endP l st - posP l sf) := by
  unfold inR endP
  by_cases h : bl st = []
  · simp only [h, decide_true, Bool.true_or, Bool.and_true, if_true]
    rw [filter_ge hs sf, List.take_of_length_le (by simp)]
  · simp only [h, decide_false, Bool.false_or, if_false]
    rw [← List.filter_filter, filter_lt hs st, filter_ge (hs.sublist (List.take_sublist _ _)) sf, posP_take, ← List.drop_take]
    by_cases hle : posP l sf ≤ posP l st
    · rw [Nat.min_eq_left hle]
    · rw [Nat.min_eq_right (by omega), List.drop_eq_nil_of_le (by simp; omega), List.drop_eq_nil_of_le (by simp; omega)]

theorem rdLit (a : Pr) (H : AHeap) : Rd EPr (H.push (.cells [.string a.key, .string a.value] T.api_Pair true)) (.slice (some ⟨H.n, 0, none⟩) 1 2) [a] := by
  refine .inr (.inr ⟨H.n, 0, 2, rfl, by simp, by simp, ?_⟩)
  rw [push_f_eq rfl]
  rfl


/-- A part in the middle that is the function's own. -/
theorem Eng.Own.midO {α : Type} {E : Enc α} {H : AHeap} {e : TypeId} {v : Value} {l : List α} (r : Own E H e v l) {sz : Nat} (hsz : sz = E.w) {i j : Nat} (hi : i ≤ j) (hj : j ≤ l.length) {q q' : IntKind} :
    ∃ v', slS e sz v (some (.int q (i : Int))) (some (.int q' (j : Int))) none H = some v' ∧ Own E H e v' ((l.drop i).take (j - i)) ∧ blockOf v' = blockOf v := by
  subst hsz
  rcases r with ⟨rfl, rfl⟩ | ⟨rfl, ⟨b, o, s⟩, rfl, hs, hbb⟩ | ⟨b, o, c, xs, rfl, hl, hbn, hf, ho, hx⟩
  · simp only [List.length_nil, Nat.le_zero_eq] at hj
    subst hj
    simp only [Nat.le_zero_eq] at hi
    subst hi
    exact ⟨.slice none 0 0, rfl, .inl ⟨by simp, rfl⟩, rfl⟩
  · simp only at hs
    subst hs
    simp only [List.length_nil, Nat.le_zero_eq] at hj
    subst hj
    simp only [Nat.le_zero_eq] at hi
    subst hi
    exact ⟨.slice (some ⟨b, o, none⟩) 0 0, by simp [slS, lowOf, highOf, bnd], .inr (.inl ⟨by simp, _, rfl, rfl, hbb⟩), rfl⟩
  · have hmul := Nat.mul_le_mul_right E.w hl
    have hmj := Nat.mul_le_mul_right E.w hj
    have hmi := Nat.mul_le_mul_right E.w hi
    have hmc := Nat.mul_le_mul_right E.w (Nat.le_trans hj hl)
    refine ⟨_, sl_lohi hf hi (Nat.le_trans hj hl), .inr (.inr ⟨b, o + i * E.w, c - i, xs, ?_, ?_, hbn, hf, ?_, ?_⟩), rfl⟩
    · rw [show ((l.drop i).take (j - i)).length = j - i by simp; omega]
    · simp; omega
    · rw [Nat.sub_mul]; omega
    · have hlen : ((l.drop i).take (j - i)).length = j - i := by simp; omega
      have hsub : (j - i) * E.w = j * E.w - i * E.w := Nat.sub_mul _ _ _
      rw [hlen, ← E.cells_take, ← E.cells_drop, ← hx, List.drop_take, List.take_take, List.drop_drop, Nat.min_eq_left (by omega)]

end Go.Proofs.Ytehnchfnhbmkdaa

/-
  The plain map's methods for any key, right or not; and two blocks of which only one is turned.
  Conditions: none. By an AI agent.
-/
set_option maxRecDepth 10000
set_option linter.unusedSimpArgs false
set_option linter.unusedVariables false
namespace Go.Proofs.Ytehnchfnhbmkdaa
open Go Eng

theorem MdlT.blk {t : TypeId} {H : AHeap} {b : Nat} {l : List Pr} (r : MdlT t H b l) {c : Nat} (h : MBT t H b c) : c < H.n := by
  obtain ⟨v, h1, h2, h3, h4⟩ := r
  rcases h with h | ⟨u, hu, hb⟩
  · omega
  · rw [h1] at hu; cases hu; exact h3.blk hb


/-- A call that works on one map leaves another one. -/
theorem sep {t1 t2 : TypeId} {H H' : AHeap} {b1 b2 : Nat} {l2 : List Pr} (r2 : MdlT t2 H b2 l2) (dis : ∀ c, MBT t1 H b1 c → ¬ MBT t2 H b2 c) (u : UpT t1 H b1 H') :
    MdlT t2 H' b2 l2 ∧ (∀ c, MBT t2 H' b2 c → MBT t2 H b2 c) ∧ ∀ c, MBT t1 H' b1 c → ¬ MBT t2 H' b2 c := by
  have hb2 : ¬ MBT t1 H b1 b2 := fun h => dis b2 h (.inl rfl)
  have hlt : b2 < H.n := r2.blk (.inl rfl)
  have hf : H'.f b2 = H.f b2 := u.fr.f hlt hb2
  have hm : ∀ c, MBT t2 H' b2 c → MBT t2 H b2 c := fun c h => h.imp id fun ⟨v, hv, hb⟩ => ⟨v, by rw [← hf]; exact hv, hb⟩
  refine ⟨r2.keep u.fr hb2 fun v hv c hc h => dis c h (.inr ⟨v, hv, hc⟩), hm, fun c h1 h2 => ?_⟩
  have h2 := hm c h2
  rcases u.mb c h1 with h | h
  · exact dis c h h2
  · have := r2.blk h2; omega


theorem MBT_still {t : TypeId} {H H' : AHeap} {b : Nat} {l : List Pr} (r : MdlT t H b l) (s : Still H H') {c : Nat} (h : MBT t H' b c) : MBT t H b c := by
  obtain ⟨v, h1, h2, _⟩ := r
  exact h.imp id fun ⟨u, hu, hb⟩ => ⟨u, by rw [← s.f h2 (fun h => h)]; exact hu, hb⟩


def putE (l : List Pr) (a : Pr) : Int × List Pr := if chk a.key [a.value] = 0 then putP l a (posP l a.key) else (chk a.key [a.value], l)
def insertE (l : List Pr) (a : Pr) : Int × List Pr := if chk a.key [a.value] = 0 then insertP l a (posP l a.key) else (chk a.key [a.value], l)
def swapE (l : List Pr) (key old new : ByteArray) : Int × List Pr := if chk key [old, new] = 0 then swapP l key old new (posP l key) else (chk key [old, new], l)
def getE (l : List Pr) (key : ByteArray) : Value := if chk key [] = 0 then getP l key (posP l key) else .tuple #[.string (mk []), .int .i64 (chk key [])]
def delE (l : List Pr) (key : ByteArray) : List Pr := if chk key [] = 0 then (if isP l key (posP l key) = true then l.take (posP l key) ++ l.drop (posP l key + 1) else l) else l

theorem getE_shape (l : List Pr) (key : ByteArray) : ∃ s e, getE l key = .tuple #[.string s, .int .i64 e] := by
  unfold getE getP
  split
  · split <;> exact ⟨_, _, rfl⟩
  · exact ⟨_, _, rfl⟩


theorem q_putM (b : Nat) (l : List Pr) (a : Pr) (H : AHeap) (ok : MOk H) (r : Mdl H b l) (hs : Srt l) (hl : l.length ≤ 20000) :
    ∃ H', CC F.model_Model_Put [.pointer (some ⟨b, 0, none⟩), .string a.key, .string a.value] H = some (.int .i64 (putE l a).1, H') ∧ Mdl H' b (putE l a).2 ∧ Up H b H' := by
  unfold putE
  split
  · rename_i h; exact q_Put b l a H ok r hl _ (posP_pos hs a.key) h
  · rename_i h; exact ⟨H, q_Put_bad b l a H r h, r, Up.refl H b⟩
theorem q_insM (b : Nat) (l : List Pr) (a : Pr) (H : AHeap) (ok : MOk H) (r : Mdl H b l) (hs : Srt l) (hl : l.length ≤ 20000) :
    ∃ H', CC F.model_Model_Insert [.pointer (some ⟨b, 0, none⟩), .string a.key, .string a.value] H = some (.int .i64 (insertE l a).1, H') ∧ Mdl H' b (insertE l a).2 ∧ Up H b H' := by
  unfold insertE
  split
  · rename_i h; exact q_Insert b l a H ok r hl _ (posP_pos hs a.key) h
  · rename_i h; exact ⟨H, q_Insert_bad b l a H r h, r, Up.refl H b⟩
theorem srt_putE {l : List Pr} (hs : Srt l) (a : Pr) : Srt (putE l a).2 := by
  unfold putE
  split
  · exact srt_put hs a
  · exact hs
theorem len_putE {l : List Pr} (hl : l.length ≤ 20000) (a : Pr) : (putE l a).2.length ≤ 20000 := by
  unfold putE
  split
  · exact len_put hl a
  · exact hl
theorem srt_insertE {l : List Pr} (hs : Srt l) (a : Pr) : Srt (insertE l a).2 := by
  unfold insertE
  split
  · exact srt_insert hs a
  · exact hs
theorem len_insertE {l : List Pr} (hl : l.length ≤ 20000) (a : Pr) : (insertE l a).2.length ≤ 20000 := by
  unfold insertE
  split
  · exact len_insert hl a
  · exact hl
theorem srt_swapE {l : List Pr} (hs : Srt l) (k o n : ByteArray) : Srt (swapE l k o n).2 := by
  unfold swapE
  split
  · exact srt_swap hs k o n
  · exact hs
theorem len_swapE {l : List Pr} (hl : l.length ≤ 20000) (k o n : ByteArray) : (swapE l k o n).2.length ≤ 20000 := by
  unfold swapE
  split
  · exact len_swap hl k o n
  · exact hl
theorem srt_delE {l : List Pr} (hs : Srt l) (k : ByteArray) : Srt (delE l k) := by
  unfold delE
  split
  · split
    · exact srt_del hs _
    · exact hs
  · exact hs
theorem len_delE {l : List Pr} (hl : l.length ≤ 20000) (k : ByteArray) : (delE l k).length ≤ 20000 := by
  unfold delE
  split
  · split
    · simp; omega
    · exact hl
  · exact hl

end Go.Proofs.Ytehnchfnhbmkdaa

/-
  Chapter 48: Decode.
  Conditions: none. By an AI agent.
-/
set_option maxRecDepth 10000
set_option linter.unusedSimpArgs false
set_option linter.unusedVariables false
namespace Go.Proofs.Ytehnchfnhbmkdaa
open Go Eng

def VOk (l : List Pr) : Prop := ∀ a ∈ l, chk a.key [a.value] = 0
theorem chk_len {k v : ByteArray} (h : chk k [v] = 0) : bl k ≠ [] ∧ (bl k).length ≤ 24 ∧ (bl v).length ≤ 40 := by
  unfold chk at h
  split at h
  · cases h
  · rename_i h1
    split at h
    · cases h
    · rename_i h2
      simp at h2
      exact ⟨h1, h2.1, h2.2⟩
theorem VOk.sz {l : List Pr} (h : VOk l) : ∀ a ∈ l, (bl a.key).length ≤ 1000 ∧ (bl a.value).length ≤ 1000 := fun a ha => by
  have := chk_len (h a ha); omega
theorem vok_ins {l : List Pr} (h : VOk l) {a : Pr} (ha : chk a.key [a.value] = 0) (p : Nat) : VOk (l.take p ++ a :: l.drop p) := fun x hx => by
  rcases List.mem_append.1 hx with hx | hx
  · exact h x (List.mem_of_mem_take hx)
  · rcases List.mem_cons.1 hx with rfl | hx
    · exact ha
    · exact h x (List.mem_of_mem_drop hx)
theorem vok_insertE {l : List Pr} (h : VOk l) (a : Pr) : VOk (insertE l a).2 := by
  unfold insertE
  split
  · rename_i hc
    unfold insertP
    split
    · exact h
    · split
      · exact h
      · exact vok_ins h hc _
  · exact h
theorem vok_putE {l : List Pr} (h : VOk l) (a : Pr) : VOk (putE l a).2 := by
  unfold putE
  split
  · rename_i hc
    unfold putP
    split
    · intro x hx
      rcases List.mem_or_eq_of_mem_set hx with hx | rfl
      · exact h x hx
      · exact hc
    · split
      · exact h
      · exact vok_ins h hc _
  · exact h

/-- A map made since H0. -/
structure Fresh (H0 H : AHeap) (bm : Nat) (l : List Pr) : Prop where
  still : Still H0 H
  ok : MOk H
  mdl : Mdl H bm l
  new : ∀ c, MB H bm c → H0.n ≤ c
  srt : Srt l
  len : l.length ≤ 20000
  vok : VOk l
theorem Fresh.start {H H1 : AHeap} (ok : MOk H) (h : H.push (.cells [.slice none 0 0] T.model_Model true) = H1) : Fresh H H1 H.n [] := by
  have s : Still H H1 := by rw [← h]; exact (Fr.refl H).push _
  have f : H1.f H.n = .cells [.slice none 0 0] T.model_Model true := by rw [← h]; exact push_f_eq rfl
  refine ⟨s, ok.fr s, ⟨_, f, by rw [← h]; exact Nat.lt_succ_self _, .inl ⟨rfl, rfl⟩, by simp [blockOf]⟩, fun c hc => ?_, List.Pairwise.nil, by simp, fun a ha => by simp at ha⟩
  have e : c = H.n := hc.elim id fun ⟨u, hu, hb⟩ => by rw [f] at hu; cases hu; cases hb
  omega
theorem Fresh.to {H0 H H' : AHeap} {bm : Nat} {l : List Pr} (r : Fresh H0 H bm l) (s : Still H H') : Fresh H0 H' bm l :=
  ⟨r.still.trans s, r.ok.fr s, r.mdl.still s, fun c h => r.new c (MBT_still r.mdl s h), r.srt, r.len, r.vok⟩
theorem Fresh.up {H0 H H' : AHeap} {bm : Nat} {l l' : List Pr} (r : Fresh H0 H bm l) (m : Mdl H' bm l') (u : Up H bm H') (h1 : Srt l') (h2 : l'.length ≤ 20000) (h3 : VOk l') : Fresh H0 H' bm l' :=
  ⟨r.still.then u.fr fun c hc h => by have := r.new c h; omega, r.ok.fr u.fr, m, fun c h => by
    rcases u.mb c h with h | h
    · exact r.new c h
    · have := r.still.n; omega, h1, h2, h3⟩
theorem Fresh.ins {H0 H : AHeap} {bm : Nat} {l : List Pr} (r : Fresh H0 H bm l) (a : Pr) :
    ∃ H', CC F.model_Model_Insert [.pointer (some ⟨bm, 0, none⟩), .string a.key, .string a.value] H = some (.int .i64 (insertE l a).1, H') ∧ Fresh H0 H' bm (insertE l a).2 ∧ Fr (MB H bm) H H' := by
  obtain ⟨H', e1, e2, e3⟩ := q_insM bm l a H r.ok r.mdl r.srt r.len
  exact ⟨H', e1, r.up e2 e3 (srt_insertE r.srt a) (len_insertE r.len a) (vok_insertE r.vok a), e3.fr⟩
theorem Fresh.put {H0 H : AHeap} {bm : Nat} {l : List Pr} (r : Fresh H0 H bm l) (a : Pr) :
    ∃ H', CC F.model_Model_Put [.pointer (some ⟨bm, 0, none⟩), .string a.key, .string a.value] H = some (.int .i64 (putE l a).1, H') ∧ Fresh H0 H' bm (putE l a).2 ∧ Fr (MB H bm) H H' := by
  obtain ⟨H', e1, e2, e3⟩ := q_putM bm l a H r.ok r.mdl r.srt r.len
  exact ⟨H', e1, r.up e2 e3 (srt_putE r.srt a) (len_putE r.len a) (vok_putE r.vok a), e3.fr⟩

/-! ### Decode -/
def decS (c : UInt8) (t last : List UInt8) (m : List Pr) : Option (List UInt8 × List UInt8 × List Pr) :=
  if last.length < c.toNat then none else
  (takeL t).bind fun x => (takeL x.2).bind fun y =>
    if (insertE m ⟨mk (last.take c.toNat ++ x.1), mk y.1⟩).1 = 0 then some (y.2, last.take c.toNat ++ x.1, (insertE m ⟨mk (last.take c.toNat ++ x.1), mk y.1⟩).2) else none
def decL : Nat → List UInt8 → List UInt8 → List Pr → Option (List Pr)
  | 0, _, _, m => some m
  | _ + 1, [], _, _ => none
  | n + 1, c :: t, last, m => (decS c t last m).bind fun x => decL n x.1 x.2.1 x.2.2
def decOf (l : List UInt8) : Option (List Pr) :=
  if l.length < 7 then none else (decL (numB ((l.drop 3).take 4)).toNat (l.drop 7) [] []).bind fun m => if encB m = l then some m else none

theorem takeL_len {l s t : List UInt8} (h : takeL l = some (s, t)) : t.length ≤ l.length ∧ s.length ≤ 255 := by
  cases l with
  | nil => cases h
  | cons c x =>
    rw [show takeL (c :: x) = if c.toNat ≤ x.length then some (x.take c.toNat, x.drop c.toNat) else none from rfl] at h
    split at h
    · injection h with h
      injection h with h1 h2
      subst h1 h2
      have := Eng.u8_lt c
      simp; omega
    · cases h

theorem blk_lt {H : AHeap} {v : Value} {l : List UInt8} (r : BR H v l) {b : Nat} (h : blockOf v = some b) : b < H.n := by
  rcases r.2 with h' | ⟨b', o, n', code, h', _, _, h3⟩
  · rw [h'] at h; cases h
  · rw [h'] at h; cases h; exact h3
theorem BR.off {H H' : AHeap} {S : Nat → Prop} {H0 : AHeap} {v : Value} {l : List UInt8} (r : BR H v l) (f : Fr S H H') (hv : ∀ x, blockOf v = some x → x < H0.n) (hS : ∀ x, S x → H0.n ≤ x) : BR H' v l :=
  r.keep f fun b hb h => by have := hv b hb; have := hS b h; omega

theorem l_Decode (H0 : AHeap) (bm : Nat) (v0 : Value) : ∀ (n c : Nat) (H : AHeap) (rest : Value) (rl last : List UInt8) (m : List Pr), c + n < 4294967296 → Fresh H0 H bm m → BR H rest rl → (∀ x, blockOf rest = some x → x < H0.n) → rl.length ≤ 1000000000000 → last.length ≤ 600 →
    (decL n rl last m = none → ∃ H', Still H0 H' ∧ ∀ K : K, l_backup_Decode_0 v0 (.pointer (some ⟨bm, 0, none⟩)) rest (.string (mk last)) (.int .u32 ((c + n : Nat) : Int)) (.int .u32 (c : Int)) H (blkK [0, 4] 0 K) = K .ret [(2, .pointer none), (3, .int .i64 12)] H') ∧
    (∀ m', decL n rl last m = some m' → ∃ H', Fresh H0 H' bm m' ∧ ∀ K : K, l_backup_Decode_0 v0 (.pointer (some ⟨bm, 0, none⟩)) rest (.string (mk last)) (.int .u32 ((c + n : Nat) : Int)) (.int .u32 (c : Int)) H (blkK [0, 4] 0 K) = K .normal [(0, v0), (4, .pointer (some ⟨bm, 0, none⟩))] H')
  | 0, c, H, rest, rl, last, m, hc, fr, hr, hv, hl, hla => by
    have hlt : ¬ (c : Int) < (c : Int) := by omega
    refine ⟨fun h => (nomatch h), fun m' h => ?_⟩
    cases h
    refine ⟨H, fr, fun K => ?_⟩
    rw [r_backup_Decode_0]
    simp (disch := first | with_reducible rfl | assumption | omega | rfl | (simp only [go_sem]; first | done | omega)) only [go_sem, ↓reduceIte, reduceCtorEq, Nat.reduceEqDiff, Nat.reduceAdd, Nat.reduceSub, Nat.reduceMul, Nat.reduceDiv, Nat.reduceMod, Nat.reduceLeDiff, Nat.reduceLT, Nat.reduceBEq, Int.reduceEq, Int.reduceBEq, Int.reduceBNe, Int.reduceLT, Int.reduceLE, Int.reduceAdd, Int.reduceSub, Int.reduceNeg, Int.reduceToNat, Int.reducePow, Nat.reducePow, Int.reduceMul, Int.reduceDiv, ↓s_backup_Decode_b0, hlt]
  | n + 1, c, H, rest, [], last, m, hc, fr, hr, hv, hl, hla => by
    obtain ⟨N, hN⟩ : ∃ N, c + (n + 1) = N := ⟨_, rfl⟩
    have hlt : (c : Int) < (N : Int) := by omega
    have hlen : lenS rest = some (.int .i64 0) := hr.1.lenS
    rw [hN]
    refine ⟨fun _ => ⟨H, fr.still, fun K => ?_⟩, fun m' h => (nomatch h)⟩
    rw [r_backup_Decode_0]
    simp (disch := first | with_reducible rfl | assumption | omega | rfl | (simp only [go_sem]; first | done | omega)) only [go_sem, ↓reduceIte, reduceCtorEq, Nat.reduceEqDiff, Nat.reduceAdd, Nat.reduceSub, Nat.reduceMul, Nat.reduceDiv, Nat.reduceMod, Nat.reduceLeDiff, Nat.reduceLT, Nat.reduceBEq, Int.reduceEq, Int.reduceBEq, Int.reduceBNe, Int.reduceLT, Int.reduceLE, Int.reduceAdd, Int.reduceSub, Int.reduceNeg, Int.reduceToNat, Int.reducePow, Nat.reducePow, Int.reduceMul, Int.reduceDiv, ↓s_backup_Decode_b0, hlt, hlen]
  | n + 1, c, H, rest, ch :: t, last, m, hc, fr, hr, hv, hl, hla => by
    have hN' : c + (n + 1) = (c + 1) + n := by omega
    obtain ⟨N, hN⟩ : ∃ N, c + (n + 1) = N := ⟨_, rfl⟩
    have hlt : (c : Int) < (N : Int) := by omega
    have hlen := hr.1.lenS
    have hlt1 : t.length ≤ 1000000000000 := by simp at hl; omega
    obtain ⟨L, hL⟩ : ∃ L, (ch :: t).length = L := ⟨_, rfl⟩
    rw [hL] at hlen
    have hL0 : ¬ (L : Int) = 0 := by rw [← hL]; simp; omega
    obtain ⟨b0, o0, i0, c0, _, _⟩ := hr.1.byte (i := 0) (by simp)
    have i0 : ixS 1 rest (.int .i64 0) = some (.pointer (some ⟨b0, o0, none⟩)) := i0
    have c0 : cellB (H.f b0) o0 = some (.int .u8 (ch.toNat : Int)) := c0
    have uc := Eng.u8_lt ch
    have hw : IntKind.wrap .i64 (ch.toNat : Int) = (ch.toNat : Int) := wrap_i64 ⟨by omega, by omega⟩
    have hll : (bl (mk last)).length = last.length := by rw [bl_mk]
    rw [hN, show decL (n + 1) (ch :: t) last m = (decS ch t last m).bind fun x => decL n x.1 x.2.1 x.2.2 from rfl]
    unfold decS
    by_cases h1 : last.length < ch.toNat
    · have h1' : (last.length : Int) < (ch.toNat : Int) := by omega
      rw [if_pos h1]
      refine ⟨fun _ => ⟨H, fr.still, fun K => ?_⟩, fun m' h => (nomatch h)⟩
      rw [r_backup_Decode_0]
      simp (disch := first | with_reducible rfl | assumption | omega | rfl | (simp only [go_sem]; first | done | omega)) only [go_sem, ↓reduceIte, reduceCtorEq, Nat.reduceEqDiff, Nat.reduceAdd, Nat.reduceSub, Nat.reduceMul, Nat.reduceDiv, Nat.reduceMod, Nat.reduceLeDiff, Nat.reduceLT, Nat.reduceBEq, Int.reduceEq, Int.reduceBEq, Int.reduceBNe, Int.reduceLT, Int.reduceLE, Int.reduceAdd, Int.reduceSub, Int.reduceNeg, Int.reduceToNat, Int.reducePow, Nat.reducePow, Int.reduceMul, Int.reduceDiv, ↓s_backup_Decode_b0, hlt, hlen, hL0, i0, c0, x_uint8_int, hw, hll, h1']
    rw [if_neg h1]
    have h1' : ¬ (last.length : Int) < (ch.toNat : Int) := by omega
    have sl1 := slT_hi (s := mk last) (q := .u8) (j := ch.toNat) (by rw [bl_mk]; omega)
    rw [bl_mk] at sl1
    obtain ⟨w1, a1, r1, k1⟩ := hr.from (sz := 1) rfl (i := 1) (q := .i64) (by simp)
    have a1 : slS T.uint8 1 rest (some (.int .i64 1)) none none H = some w1 := a1
    have r1 : BR H w1 t := r1
    obtain ⟨t1, t2⟩ := q_take t w1 H r1 (by omega)
    cases e1 : takeL t with
    | none =>
      have t1 := t1 e1
      refine ⟨fun _ => ⟨H, fr.still, fun K => ?_⟩, fun m' h => (nomatch h)⟩
      rw [r_backup_Decode_0]
      simp (disch := first | with_reducible rfl | assumption | omega | rfl | (simp only [go_sem]; first | done | omega)) only [go_sem, ↓reduceIte, reduceCtorEq, Nat.reduceEqDiff, Nat.reduceAdd, Nat.reduceSub, Nat.reduceMul, Nat.reduceDiv, Nat.reduceMod, Nat.reduceLeDiff, Nat.reduceLT, Nat.reduceBEq, Int.reduceEq, Int.reduceBEq, Int.reduceBNe, Int.reduceLT, Int.reduceLE, Int.reduceAdd, Int.reduceSub, Int.reduceNeg, Int.reduceToNat, Int.reducePow, Nat.reducePow, Int.reduceMul, Int.reduceDiv, ↓s_backup_Decode_b0, hlt, hlen, hL0, i0, c0, x_uint8_int, hw, hll, h1', sl1, a1, enterK_eq t1]
    | some x =>
    obtain ⟨more, tail⟩ := x
    obtain ⟨w2, m2, r2, k2⟩ := t2 more tail e1
    have len1 := takeL_len e1
    obtain ⟨t3, t4⟩ := q_take tail w2 H r2 (by omega)
    rw [Option.bind_some]
    dsimp only
    cases e2 : takeL tail with
    | none =>
      have t3 := t3 e2
      refine ⟨fun _ => ⟨H, fr.still, fun K => ?_⟩, fun m' h => (nomatch h)⟩
      rw [r_backup_Decode_0]
      simp (disch := first | with_reducible rfl | assumption | omega | rfl | (simp only [go_sem]; first | done | omega)) only [go_sem, ↓reduceIte, reduceCtorEq, Nat.reduceEqDiff, Nat.reduceAdd, Nat.reduceSub, Nat.reduceMul, Nat.reduceDiv, Nat.reduceMod, Nat.reduceLeDiff, Nat.reduceLT, Nat.reduceBEq, Int.reduceEq, Int.reduceBEq, Int.reduceBNe, Int.reduceLT, Int.reduceLE, Int.reduceAdd, Int.reduceSub, Int.reduceNeg, Int.reduceToNat, Int.reducePow, Nat.reducePow, Int.reduceMul, Int.reduceDiv, ↓s_backup_Decode_b0, hlt, hlen, hL0, i0, c0, x_uint8_int, hw, hll, h1', sl1, a1, enterK_eq m2, enterK_eq t3]
    | some y =>
    obtain ⟨val, tail2⟩ := y
    obtain ⟨w3, m3, r3, k3⟩ := t4 val tail2 e2
    have len2 := takeL_len e2
    rw [Option.bind_some]
    dsimp only
    obtain ⟨a, ha⟩ : ∃ a : Pr, ⟨mk (last.take ch.toNat ++ more), mk val⟩ = a := ⟨_, rfl⟩
    rw [ha]
    obtain ⟨H2, m4, fr2, f2⟩ := fr.ins a
    have hk : a.key = mk (last.take ch.toNat ++ more) := by rw [← ha]
    have hv2 : a.value = mk val := by rw [← ha]
    obtain ⟨e, he⟩ : ∃ e, (insertE m a).1 = e := ⟨_, rfl⟩
    rw [hk, hv2, he] at m4
    rw [he]
    have add1 : ∀ ox oy, xbin Try.prog .add T.string ox oy (.string (mk (last.take ch.toNat))) (.string (mk more)) = some (.string (mk (last.take ch.toNat ++ more))) := fun ox oy => by
      have := str_add (t := T.string) (ox := ox) (oy := oy) (a := mk (last.take ch.toNat)) (b := mk more) (by rw [bl_mk, bl_mk]; simp; omega)
      rwa [bl_mk, bl_mk] at this
    by_cases hez : e = 0
    · subst hez
      rw [if_pos rfl, Option.bind_some]
      dsimp only
      have hw3 : ∀ x, blockOf w3 = some x → x < H0.n := fun x hx => hv x (by rw [← k1, ← k2, ← k3]; exact hx)
      obtain ⟨ih1, ih2⟩ := l_Decode H0 bm v0 n (c + 1) H2 w3 tail2 (last.take ch.toNat ++ more) (insertE m a).2 (by omega) fr2 (r3.off f2 hw3 fr.new) hw3 (by omega) (by simp; omega)
      have hN2 : c + 1 + n = N := by omega
      rw [hN2] at ih1 ih2
      have hadd : ∀ ox oy, xbin Try.prog .add T.uint32 ox oy (.int .u32 (c : Int)) (.int .u32 1) = some (.int .u32 ((c : Int) + 1)) := fun ox oy => add_u32 ⟨by omega, by omega⟩
      have step : ∀ K : K, l_backup_Decode_0 v0 (.pointer (some ⟨bm, 0, none⟩)) rest (.string (mk last)) (.int .u32 (N : Int)) (.int .u32 (c : Int)) H (blkK [0, 4] 0 K) = l_backup_Decode_0 v0 (.pointer (some ⟨bm, 0, none⟩)) w3 (.string (mk (last.take ch.toNat ++ more))) (.int .u32 (N : Int)) (.int .u32 ((c + 1 : Nat) : Int)) H2 (blkK [0, 4] 0 K) := fun K => by
        rw [r_backup_Decode_0, Int.natCast_add]
        simp (disch := first | with_reducible rfl | assumption | omega | rfl | (simp only [go_sem]; first | done | omega)) only [go_sem, ↓reduceIte, reduceCtorEq, Nat.reduceEqDiff, Nat.reduceAdd, Nat.reduceSub, Nat.reduceMul, Nat.reduceDiv, Nat.reduceMod, Nat.reduceLeDiff, Nat.reduceLT, Nat.reduceBEq, Int.reduceEq, Int.reduceBEq, Int.reduceBNe, Int.reduceLT, Int.reduceLE, Int.reduceAdd, Int.reduceSub, Int.reduceNeg, Int.reduceToNat, Int.reducePow, Nat.reducePow, Int.reduceMul, Int.reduceDiv, ↓s_backup_Decode_b0, hlt, hlen, hL0, i0, c0, x_uint8_int, hw, hll, h1', sl1, a1, enterK_eq m2, enterK_eq m3, add1, enterK_eq m4, hadd]
      refine ⟨fun h => ?_, fun m' h => ?_⟩
      · obtain ⟨H', s', e'⟩ := ih1 h
        exact ⟨H', s', fun K => (step K).trans (e' K)⟩
      · obtain ⟨H', s', e'⟩ := ih2 m' h
        exact ⟨H', s', fun K => (step K).trans (e' K)⟩
    · rw [if_neg hez]
      refine ⟨fun _ => ⟨H2, fr2.still, fun K => ?_⟩, fun m' h => (nomatch h)⟩
      rw [r_backup_Decode_0]
      simp (disch := first | with_reducible rfl | assumption | omega | rfl | (simp only [go_sem]; first | done | omega)) only [go_sem, ↓reduceIte, reduceCtorEq, Nat.reduceEqDiff, Nat.reduceAdd, Nat.reduceSub, Nat.reduceMul, Nat.reduceDiv, Nat.reduceMod, Nat.reduceLeDiff, Nat.reduceLT, Nat.reduceBEq, Int.reduceEq, Int.reduceBEq, Int.reduceBNe, Int.reduceLT, Int.reduceLE, Int.reduceAdd, Int.reduceSub, Int.reduceNeg, Int.reduceToNat, Int.reducePow, Nat.reducePow, Int.reduceMul, Int.reduceDiv, ↓s_backup_Decode_b0, hlt, hlen, hL0, i0, c0, x_uint8_int, hw, hll, h1', sl1, a1, enterK_eq m2, enterK_eq m3, add1, enterK_eq m4, hez]

theorem q_Decode_long (l : List UInt8) (v : Value) (H : AHeap) (hr : BR H v l) (hl : 4194304 < l.length) : CC F.backup_Decode [v] H = some (.tuple #[.pointer none, .int .i64 5], H) := by
  have hlen := hr.1.lenS
  have h1 : 4194304 < (l.length : Int) := by omega
  apply pure_of _ (d_backup_Decode _ H) rfl
  rotate_left 2
  · simp (disch := first | with_reducible rfl | assumption | omega | rfl | (simp only [go_sem]; first | done | omega)) only [go_sem, ↓reduceIte, reduceCtorEq, Nat.reduceEqDiff, Nat.reduceAdd, Nat.reduceSub, Nat.reduceMul, Nat.reduceDiv, Nat.reduceMod, Nat.reduceLeDiff, Nat.reduceLT, Nat.reduceBEq, Int.reduceEq, Int.reduceBEq, Int.reduceBNe, Int.reduceLT, Int.reduceLE, Int.reduceAdd, Int.reduceSub, Int.reduceNeg, Int.reduceToNat, Int.reducePow, Nat.reducePow, Int.reduceMul, Int.reduceDiv, ↓s_backup_Decode, hlen, h1]
    rfl
  · (repeat (first | exact Fr.refl _ | refine Fr.push ?_ _ | refine Fr.set ?_ _ _ (by intro h; first | omega | (simp only [go_sem] at h; omega))))

theorem q_Decode (l : List UInt8) (v : Value) (H : AHeap) (ok : MOk H) (hr : BR H v l) (hl : l.length ≤ 4194304) :
    (decOf l = none → CC F.backup_Decode [v] H = some (.tuple #[.pointer none, .int .i64 12], H)) ∧
    (∀ m, decOf l = some m → ∃ bm H', CC F.backup_Decode [v] H = some (.tuple #[.pointer (some ⟨bm, 0, none⟩), .int .i64 0], H') ∧ Fresh H H' bm m) := by
  have hlen := hr.1.lenS
  have h1 : ¬ 4194304 < (l.length : Int) := by omega
  unfold decOf
  by_cases h7 : l.length < 7
  · have h7' : (l.length : Int) < 7 := by omega
    rw [if_pos h7]
    refine ⟨fun _ => ?_, fun m h => (nomatch h)⟩
    apply pure_of _ (d_backup_Decode _ H) rfl
    rotate_left 2
    · simp (disch := first | with_reducible rfl | assumption | omega | rfl | (simp only [go_sem]; first | done | omega)) only [go_sem, ↓reduceIte, reduceCtorEq, Nat.reduceEqDiff, Nat.reduceAdd, Nat.reduceSub, Nat.reduceMul, Nat.reduceDiv, Nat.reduceMod, Nat.reduceLeDiff, Nat.reduceLT, Nat.reduceBEq, Int.reduceEq, Int.reduceBEq, Int.reduceBNe, Int.reduceLT, Int.reduceLE, Int.reduceAdd, Int.reduceSub, Int.reduceNeg, Int.reduceToNat, Int.reducePow, Nat.reducePow, Int.reduceMul, Int.reduceDiv, ↓s_backup_Decode, hlen, h1, h7']
      rfl
    · (repeat (first | exact Fr.refl _ | refine Fr.push ?_ _ | refine Fr.set ?_ _ _ (by intro h; first | omega | (simp only [go_sem] at h; omega))))
  rw [if_neg h7]
  have h7' : ¬ (l.length : Int) < 7 := by omega
  obtain ⟨H1, hH1⟩ : ∃ H1, H.push (.cells [.slice none 0 0] T.model_Model true) = H1 := ⟨_, rfl⟩
  have fr1 := Fresh.start ok hH1
  obtain ⟨w1, a1, r1, k1⟩ := (hr.still fr1.still).from (sz := 1) rfl (i := 7) (q := .i64) (by omega)
  have a1 : slS T.uint8 1 v (some (.int .i64 7)) none none H1 = some w1 := a1
  obtain ⟨w2, a2, r2, _⟩ := (hr.still fr1.still).mid (sz := 1) rfl (i := 3) (j := 7) (q := .i64) (q' := .i64) (by decide) (by omega)
  have a2 : slS T.uint8 1 v (some (.int .i64 3)) (some (.int .i64 7)) none H1 = some w2 := a2
  have r2 : BR H1 w2 ((l.drop 3).take 4) := r2
  have m2 := q_number ((l.drop 3).take 4) w2 H1 r2.1 (by simp; omega)
  have hnb := numB_lt ((l.drop 3).take 4)
  have hlt4 : ((l.drop 3).take 4).length = 4 := by simp; omega
  rw [hlt4] at hnb
  obtain ⟨N, hN⟩ : ∃ N : Nat, (numB ((l.drop 3).take 4)).toNat = N := ⟨_, rfl⟩
  have hNi : numB ((l.drop 3).take 4) = (N : Int) := by omega
  have hN32 : N < 4294967296 := by
    have : numB ((l.drop 3).take 4) < 4294967296 := hnb.2
    omega
  rw [hNi] at m2
  rw [hN]
  have hvb : ∀ x, blockOf w1 = some x → x < H.n := fun x hx => by rw [k1] at hx; exact blk_lt hr hx
  obtain ⟨z1, z2⟩ := l_Decode H H.n v N 0 H1 w1 (l.drop 7) [] [] (by omega) fr1 r1 hvb (by simp; omega) (by simp)
  rw [Nat.zero_add] at z1 z2
  cases hd : decL N (l.drop 7) [] [] with
  | none =>
    obtain ⟨H2, s2, z1⟩ := z1 hd
    have z1 : ∀ K : K, l_backup_Decode_0 v (.pointer (some ⟨H.n, 0, none⟩)) w1 (.string (mk [])) (.int .u32 (N : Int)) (.int .u32 0) H1 (blkK [0, 4] 0 K) = K .ret [(2, .pointer none), (3, .int .i64 12)] H2 := z1
    refine ⟨fun _ => ?_, fun m h => (nomatch h)⟩
    apply pure_of _ (d_backup_Decode _ H) rfl
    rotate_left 2
    · simp (disch := first | with_reducible rfl | assumption | omega | rfl | (simp only [go_sem]; first | done | omega)) only [go_sem, ↓reduceIte, reduceCtorEq, Nat.reduceEqDiff, Nat.reduceAdd, Nat.reduceSub, Nat.reduceMul, Nat.reduceDiv, Nat.reduceMod, Nat.reduceLeDiff, Nat.reduceLT, Nat.reduceBEq, Int.reduceEq, Int.reduceBEq, Int.reduceBNe, Int.reduceLT, Int.reduceLE, Int.reduceAdd, Int.reduceSub, Int.reduceNeg, Int.reduceToNat, Int.reducePow, Nat.reducePow, Int.reduceMul, Int.reduceDiv, ↓s_backup_Decode, hlen, h1, h7', hH1, a1, a2, enterK_eq m2, z1]
      rfl
    · exact s2
  | some m =>
    obtain ⟨H2, fr2, z2⟩ := z2 m hd
    have z2 : ∀ K : K, l_backup_Decode_0 v (.pointer (some ⟨H.n, 0, none⟩)) w1 (.string (mk [])) (.int .u32 (N : Int)) (.int .u32 0) H1 (blkK [0, 4] 0 K) = K .normal [(0, v), (4, .pointer (some ⟨H.n, 0, none⟩))] H2 := z2
    obtain ⟨v3, H3, m3, r3, s3⟩ := q_Encode H.n m H2 fr2.mdl fr2.len fr2.vok.sz
    have fr3 := fr2.to s3
    have m4 := q_bEqual v3 v (encB m) l H3 r3 (hr.still fr3.still)
    rw [Option.bind_some]
    by_cases he : encB m = l
    · rw [if_pos he]
      rw [decide_eq_true he] at m4
      refine ⟨fun h => (nomatch h), fun m' h => ?_⟩
      injection h with h
      subst h
      refine ⟨H.n, H3, (d_backup_Decode _ H ?_).trans (congrArg some (tidy_mem rfl)), fr3⟩
      simp (disch := first | with_reducible rfl | assumption | omega | rfl | (simp only [go_sem]; first | done | omega)) only [go_sem, ↓reduceIte, reduceCtorEq, Nat.reduceEqDiff, Nat.reduceAdd, Nat.reduceSub, Nat.reduceMul, Nat.reduceDiv, Nat.reduceMod, Nat.reduceLeDiff, Nat.reduceLT, Nat.reduceBEq, Int.reduceEq, Int.reduceBEq, Int.reduceBNe, Int.reduceLT, Int.reduceLE, Int.reduceAdd, Int.reduceSub, Int.reduceNeg, Int.reduceToNat, Int.reducePow, Nat.reducePow, Int.reduceMul, Int.reduceDiv, ↓s_backup_Decode, hlen, h1, h7', hH1, a1, a2, enterK_eq m2, z2, enterK_eq m3, enterK_eq m4]
    · rw [if_neg he]
      rw [decide_eq_false he] at m4
      refine ⟨fun _ => ?_, fun m' h => (nomatch h)⟩
      apply pure_of _ (d_backup_Decode _ H) rfl
      rotate_left 2
      · simp (disch := first | with_reducible rfl | assumption | omega | rfl | (simp only [go_sem]; first | done | omega)) only [go_sem, ↓reduceIte, reduceCtorEq, Nat.reduceEqDiff, Nat.reduceAdd, Nat.reduceSub, Nat.reduceMul, Nat.reduceDiv, Nat.reduceMod, Nat.reduceLeDiff, Nat.reduceLT, Nat.reduceBEq, Int.reduceEq, Int.reduceBEq, Int.reduceBNe, Int.reduceLT, Int.reduceLE, Int.reduceAdd, Int.reduceSub, Int.reduceNeg, Int.reduceToNat, Int.reducePow, Nat.reducePow, Int.reduceMul, Int.reduceDiv, ↓s_backup_Decode, hlen, h1, h7', hH1, a1, a2, enterK_eq m2, z2, enterK_eq m3, enterK_eq m4]
        rfl
      · exact fr3.still

end Go.Proofs.Ytehnchfnhbmkdaa

/-
  Chapter 48: bytes are those of at most one map; one byte changed.
  Conditions: none. By an AI agent.
-/
set_option maxRecDepth 10000
set_option linter.unusedSimpArgs false
set_option linter.unusedVariables false
namespace Go.Proofs.Ytehnchfnhbmkdaa
open Go Eng

def Wf (l : List Pr) : Prop := Srt l ∧ VOk l ∧ l.length ≤ 20000

theorem posP_end : ∀ {m : List Pr} {key : ByteArray}, (∀ x ∈ m, cmpS x.key key < 0) → posP m key = m.length
  | [], _, _ => rfl
  | a :: m, key, h => by
    unfold posP
    rw [if_pos (h a (by simp)), posP_end fun x hx => h x (by simp [hx])]
    rfl
theorem insertE_end {m : List Pr} {a : Pr} (hs : Srt (m ++ [a])) (hc : chk a.key [a.value] = 0) (hl : m.length < 20000) : insertE m a = (0, m ++ [a]) := by
  have h1 : ∀ x ∈ m, cmpS x.key a.key < 0 := fun x hx => (List.pairwise_append.1 hs).2.2 x hx a (by simp)
  unfold insertE
  rw [if_pos hc, posP_end h1]
  unfold insertP
  have h2 : isP m a.key m.length = false := by unfold isP; rw [List.getElem?_eq_none (Nat.le_refl _)]
  rw [h2, if_neg (by simp), if_neg (by omega), List.take_length, List.drop_length]

theorem by8_nat {n : Nat} (h : n < 256) : (by8 n).toNat = n := by unfold by8; rw [UInt8.toNat_ofNat_of_lt' h]
theorem takeL_enc {s t : List UInt8} {n : Nat} (h : s.length = n) (hn : n < 256) : takeL (by8 n :: (s ++ t)) = some (s, t) := by
  rw [show takeL (by8 n :: (s ++ t)) = if (by8 n).toNat ≤ (s ++ t).length then some ((s ++ t).take (by8 n).toNat, (s ++ t).drop (by8 n).toNat) else none from rfl]
  rw [by8_nat hn, if_pos (by simp; omega), take_app h, drop_app h]

theorem pairB_app (last : ByteArray) (p : Pr) (t : List UInt8) : pairB last p ++ t = by8 (pre (bl last) (bl p.key)) :: by8 ((bl p.key).length - pre (bl last) (bl p.key)) :: ((bl p.key).drop (pre (bl last) (bl p.key)) ++ (by8 (bl p.value).length :: (bl p.value ++ t))) := by
  unfold pairB
  simp

/-- What stands in front of a key, and what is behind it. -/
theorem pre_key (last key : ByteArray) : (bl last).take (pre (bl last) (bl key)) ++ (bl key).drop (pre (bl last) (bl key)) = bl key := by
  rw [(pre_le (bl last) (bl key)).2.2, List.take_append_drop]

theorem decL_enc : ∀ (l m : List Pr) (last : ByteArray) (tail : List UInt8), Srt (m ++ l) → VOk l → (m ++ l).length ≤ 20000 → (bl last).length < 256 → decL l.length (bodyB last l ++ tail) (bl last) m = some (m ++ l)
  | [], m, last, tail, _, _, _, _ => by simp [decL]
  | p :: t, m, last, tail, hs, hv, hl, hla => by
    have hc := hv p (by simp)
    have hlen := chk_len hc
    have hp := pre_le (bl last) (bl p.key)
    rw [bodyB, List.append_assoc, pairB_app, List.length_cons]
    rw [show ∀ (n : Nat) (c : UInt8) (t last : List UInt8) (m : List Pr), decL (n + 1) (c :: t) last m = (decS c t last m).bind fun x => decL n x.1 x.2.1 x.2.2 from fun _ _ _ _ _ => rfl]
    unfold decS
    rw [by8_nat (by omega), if_neg (by omega), takeL_enc (by simp) (by omega), Option.bind_some]
    dsimp only
    rw [takeL_enc rfl (by omega), Option.bind_some]
    dsimp only
    rw [pre_key, mk_bl, mk_bl]
    have hs' : Srt ((m ++ [p]) ++ t) := by simpa using hs
    have hs1 : Srt (m ++ [p]) := (List.pairwise_append.1 hs').1
    rw [show (⟨p.key, p.value⟩ : Pr) = p from rfl, insertE_end hs1 hc (by simp at hl; omega), if_pos rfl, Option.bind_some]
    dsimp only
    rw [decL_enc t (m ++ [p]) p.key tail hs' (fun x hx => hv x (by simp [hx])) (by simpa using hl) (by omega)]
    simp

theorem encB_parts (l : List Pr) (hl : l.length ≤ 20000) : 7 ≤ (encB l).length ∧ numB (((encB l).drop 3).take 4) = l.length ∧ (encB l).drop 7 = bodyB (mk []) l ++ be (adl (fullB l)) 4 := by
  have e : encB l = [84, 76, 1] ++ (be l.length 4 ++ (bodyB (mk []) l ++ be (adl (fullB l)) 4)) := by simp [encB, fullB, headB]
  have d3 : (encB l).drop 3 = be l.length 4 ++ (bodyB (mk []) l ++ be (adl (fullB l)) 4) := by rw [e]; rfl
  refine ⟨by rw [e]; simp [be_length], ?_, ?_⟩
  · rw [d3, take_app (be_length _ _)]
    exact numB_be 4 _ (by omega) (by show _ < 4294967296; omega)
  · rw [show (7 : Nat) = 3 + 4 from rfl, ← List.drop_drop, d3, drop_app (be_length _ _)]

theorem decOf_enc {l : List Pr} (h : Wf l) : decOf (encB l) = some l := by
  obtain ⟨h1, h2, h3⟩ := encB_parts l h.2.2
  unfold decOf
  rw [if_neg (by omega), h2, h3, Int.toNat_natCast]
  have := decL_enc l [] (mk []) (be (adl (fullB l)) 4) (by simpa using h.1) h.2.1 (by simpa using h.2.2) (by rw [bl_mk]; simp)
  rw [bl_mk] at this
  rw [this, Option.bind_some, List.nil_append, if_pos rfl]

theorem decL_wf : ∀ (n : Nat) (r last : List UInt8) (m m' : List Pr), Wf m → decL n r last m = some m' → Wf m'
  | 0, _, _, m, m', h, e => by cases e; exact h
  | n + 1, [], _, _, _, _, e => nomatch e
  | n + 1, c :: t, last, m, m', h, e => by
    obtain ⟨x, hx, e2⟩ := Option.bind_eq_some_iff.1 (show (decS c t last m).bind (fun x => decL n x.1 x.2.1 x.2.2) = some m' from e)
    unfold decS at hx
    split at hx
    · cases hx
    · obtain ⟨y, _, hy⟩ := Option.bind_eq_some_iff.1 hx
      obtain ⟨z, _, hz⟩ := Option.bind_eq_some_iff.1 hy
      split at hz
      · injection hz with hz
        subst hz
        exact decL_wf n _ _ _ m' ⟨srt_insertE h.1 _, vok_insertE h.2.1 _, len_insertE h.2.2 _⟩ e2
      · cases hz
theorem wf_nil : Wf [] := ⟨List.Pairwise.nil, fun a h => by simp at h, by simp⟩
theorem decOf_iff {b : List UInt8} {l : List Pr} : decOf b = some l ↔ Wf l ∧ encB l = b := by
  constructor
  · intro h
    unfold decOf at h
    split at h
    · cases h
    · obtain ⟨m, hm, h2⟩ := Option.bind_eq_some_iff.1 h
      split at h2
      · injection h2 with h2
        subst h2
        exact ⟨decL_wf _ _ _ _ _ wf_nil hm, by assumption⟩
      · cases h2
  · rintro ⟨h1, rfl⟩
    exact decOf_enc h1
theorem encB_inj {l m : List Pr} (h1 : Wf l) (h2 : Wf m) (h : encB l = encB m) : l = m := by
  have e1 := decOf_enc h1
  rw [h, decOf_enc h2] at e1
  exact (Option.some.inj e1).symm

/-! ### The law's own reading -/
def rdPf (c : UInt8) (last : List UInt8) : List UInt8 := if c.toNat ≤ last.length then last.take c.toNat else []
def readL : Nat → List UInt8 → List UInt8 → List Pr → Option (List Pr)
  | 0, _, _, m => some m
  | _ + 1, [], _, _ => none
  | n + 1, c :: t, last, m => (takeL t).bind fun x => (takeL x.2).bind fun y => readL n y.2 (rdPf c last ++ x.1) (m ++ [⟨mk (rdPf c last ++ x.1), mk y.1⟩])
def readOf (b : List UInt8) : Option (List Pr) :=
  if b.length < 7 then none else if b.length < (numB ((b.drop 3).take 4)).toNat then none else
  (readL (numB ((b.drop 3).take 4)).toNat (b.drop 7) [] []).bind fun m => if ofErr none m = 0 ∧ encB m = b then some m else none

theorem readL_enc : ∀ (l m : List Pr) (last : ByteArray) (tail : List UInt8), VOk l → (bl last).length < 256 → readL l.length (bodyB last l ++ tail) (bl last) m = some (m ++ l)
  | [], m, last, tail, _, _ => by simp [readL]
  | p :: t, m, last, tail, hv, hla => by
    have hc := hv p (by simp)
    have hlen := chk_len hc
    have hp := pre_le (bl last) (bl p.key)
    rw [bodyB, List.append_assoc, pairB_app, List.length_cons]
    rw [show ∀ (n : Nat) (c : UInt8) (t last : List UInt8) (m : List Pr), readL (n + 1) (c :: t) last m = (takeL t).bind fun x => (takeL x.2).bind fun y => readL n y.2 (rdPf c last ++ x.1) (m ++ [⟨mk (rdPf c last ++ x.1), mk y.1⟩]) from fun _ _ _ _ _ => rfl]
    unfold rdPf
    rw [by8_nat (by omega), if_pos (by omega), takeL_enc (by simp) (by omega), Option.bind_some]
    dsimp only
    rw [takeL_enc rfl (by omega), Option.bind_some]
    dsimp only
    rw [pre_key, mk_bl, mk_bl, show (⟨p.key, p.value⟩ : Pr) = p from rfl]
    rw [readL_enc t (m ++ [p]) p.key tail (fun x hx => hv x (by simp [hx])) (by omega)]
    simp

theorem ofErr_ok : ∀ {l : List Pr} {o : Option Pr}, ofErr o l = 0 → VOk l ∧ Srt l ∧ ∀ b, o = some b → ∀ a ∈ l, cmpS b.key a.key < 0
  | [], _, _ => ⟨fun a h => by simp at h, List.Pairwise.nil, fun _ _ a h => by simp at h⟩
  | a :: l, o, h => by
    unfold ofErr at h
    split at h
    · rename_i h1; exact absurd h h1
    · rename_i h1
      have h1 : chk a.key [a.value] = 0 := Decidable.not_not.1 h1
      split at h
      · cases h
      · rename_i h2
        obtain ⟨k1, k2, k3⟩ := ofErr_ok h
        refine ⟨fun x hx => ?_, List.pairwise_cons.2 ⟨k3 a rfl, k2⟩, fun b hb x hx => ?_⟩
        · rcases List.mem_cons.1 hx with rfl | hx
          · exact h1
          · exact k1 x hx
        · subst hb
          have h3 : cmpS b.key a.key < 0 := by simpa using h2
          rcases List.mem_cons.1 hx with rfl | hx
          · exact h3
          · exact cmpS_trans h3 (k3 a rfl x hx)
theorem ofErr_wf : ∀ {l : List Pr} {o : Option Pr}, VOk l → Srt l → (∀ b, o = some b → ∀ a ∈ l, cmpS b.key a.key < 0) → ofErr o l = 0
  | [], _, _, _, _ => by simp [ofErr]
  | a :: l, o, hv, hs, ho => by
    unfold ofErr
    rw [if_neg (by simp [hv a (by simp)])]
    have h2 : (o.elim false fun b => decide (0 ≤ cmpS b.key a.key)) = false := by
      cases o with
      | none => rfl
      | some b =>
        have := ho b rfl a (by simp)
        simp; exact this
    rw [h2, if_neg (by simp)]
    have hs := List.pairwise_cons.1 hs
    exact ofErr_wf (fun x hx => hv x (by simp [hx])) hs.2 fun b hb x hx => by cases hb; exact hs.1 x hx

theorem readL_len : ∀ (n : Nat) (r last : List UInt8) (m m' : List Pr), readL n r last m = some m' → m'.length = m.length + n
  | 0, _, _, m, m', e => by cases e; rfl
  | n + 1, [], _, _, _, e => nomatch e
  | n + 1, c :: t, last, m, m', e => by
    obtain ⟨x, _, h1⟩ := Option.bind_eq_some_iff.1 (show (takeL t).bind (fun x => (takeL x.2).bind fun y => readL n y.2 (rdPf c last ++ x.1) (m ++ [⟨mk (rdPf c last ++ x.1), mk y.1⟩])) = some m' from e)
    obtain ⟨y, _, h2⟩ := Option.bind_eq_some_iff.1 h1
    have := readL_len n _ _ _ m' h2
    rw [this]; simp; omega
theorem pairB_ge (last : ByteArray) (p : Pr) : 3 ≤ (pairB last p).length := by unfold pairB; simp; omega
theorem bodyB_ge : ∀ (l : List Pr) (last : ByteArray), l.length ≤ (bodyB last l).length
  | [], _ => Nat.zero_le _
  | p :: t, last => by
    have h1 := bodyB_ge t p.key
    have h2 := pairB_ge last p
    simp [bodyB]; omega

theorem readOf_iff {b : List UInt8} {l : List Pr} (hb : b.length ≤ 20000) : readOf b = some l ↔ Wf l ∧ encB l = b := by
  constructor
  · intro h
    unfold readOf at h
    split at h
    · cases h
    · split at h
      · cases h
      · obtain ⟨m, hm, h2⟩ := Option.bind_eq_some_iff.1 h
        split at h2
        · injection h2 with h2
          subst h2
          rename_i h3
          have k := ofErr_ok h3.1
          have := readL_len _ _ _ _ _ hm
          exact ⟨⟨k.2.1, k.1, by simp at this; omega⟩, h3.2⟩
        · cases h2
  · rintro ⟨h, rfl⟩
    obtain ⟨h1, h2, h3⟩ := encB_parts l h.2.2
    have hge : l.length ≤ (encB l).length := by
      have := bodyB_ge l (mk [])
      simp [encB, fullB]; omega
    unfold readOf
    rw [if_neg (by omega), h2, h3, Int.toNat_natCast, if_neg (by omega)]
    have := readL_enc l [] (mk []) (be (adl (fullB l)) 4) h.2.1 (by rw [bl_mk]; simp)
    rw [bl_mk] at this
    rw [this, Option.bind_some, List.nil_append, if_pos ⟨ofErr_wf h.2.1 h.1 fun b hb => (nomatch hb), rfl⟩]
theorem read_dec {b : List UInt8} (hb : b.length ≤ 20000) : readOf b = decOf b := by
  cases h : decOf b with
  | some l => exact (readOf_iff hb).2 (decOf_iff.1 h)
  | none =>
    cases h2 : readOf b with
    | none => rfl
    | some l => rw [decOf_iff.2 ((readOf_iff hb).1 h2)] at h; cases h

/-! ### One byte changed -/
def sumB (l : List UInt8) : Int := l.foldl (fun s c => s + (c.toNat : Int)) 0
theorem ck_fst : ∀ (l : List UInt8) (p : Int × Int) (s : Int), p.1 = s % 65521 → (l.foldl ckS p).1 = (l.foldl (fun s c => s + (c.toNat : Int)) s) % 65521
  | [], _, _, h => h
  | c :: l, p, s, h => by
    rw [List.foldl_cons, List.foldl_cons]
    exact ck_fst l (ckS p c) (s + c.toNat) (by unfold ckS; simp only; rw [h]; omega)
theorem adl_mod (l : List UInt8) : adl l % 65536 = (l.foldl (fun s c => s + (c.toNat : Int)) 1) % 65521 := by
  have h1 := ck_lt l (1, 0) (by simp)
  have h2 := ck_fst l (1, 0) 1 rfl
  unfold adl ck
  rw [← h2]
  omega
theorem fold_add : ∀ (l : List UInt8) (s d : Int), l.foldl (fun s c => s + (c.toNat : Int)) (s + d) = l.foldl (fun s c => s + (c.toNat : Int)) s + d
  | [], _, _ => rfl
  | c :: l, s, d => by
    rw [List.foldl_cons, List.foldl_cons, ← fold_add l]
    congr 1
    omega
theorem fold_set : ∀ (l : List UInt8) (i : Nat) (h : i < l.length) (c : UInt8) (s : Int), (l.set i c).foldl (fun s c => s + (c.toNat : Int)) s = l.foldl (fun s c => s + (c.toNat : Int)) s + (c.toNat - (l[i].toNat : Int))
  | x :: l, 0, _, c, s => by
    rw [List.set_cons_zero, List.foldl_cons, List.foldl_cons, ← fold_add]
    congr 1
    simp
    omega
  | x :: l, i + 1, h, c, s => by
    rw [List.set_cons_succ, List.foldl_cons, List.foldl_cons]
    exact fold_set l i (by simpa using h) c _

theorem adl_set {l : List UInt8} {i : Nat} (h : i < l.length) {c : UInt8} (hc : c ≠ l[i]) : adl (l.set i c) ≠ adl l := fun e => by
  have h1 := adl_mod l
  have h2 := adl_mod (l.set i c)
  rw [e, h1, fold_set l i h] at h2
  have h3 := Eng.u8_lt c
  have h4 := Eng.u8_lt l[i]
  have h5 : (c.toNat : Int) ≠ (l[i].toNat : Int) := fun h => hc (UInt8.toNat_inj.1 (by omega))
  omega

theorem be_inj {k : Nat} {n m : Int} (h0 : 0 ≤ n) (h1 : n < 256 ^ k) (h2 : 0 ≤ m) (h3 : m < 256 ^ k) (h : be n k = be m k) : n = m := by
  rw [← numB_be k n h0 h1, h, numB_be k m h2 h3]

/-- One byte of a map's bytes is another one: they are not those of a map. -/
theorem enc_set {l : List Pr} {i : Nat} (h : i < (encB l).length) {c : UInt8} (hc : c ≠ (encB l)[i]) : decOf ((encB l).set i c) = none := by
  cases hd : decOf ((encB l).set i c) with
  | none => rfl
  | some m =>
    exfalso
    obtain ⟨_, e⟩ := decOf_iff.1 hd
    have hl1 : (encB l).length = (fullB l).length + 4 := by simp [encB, be_length]
    have hl2 : (encB m).length = (fullB m).length + 4 := by simp [encB, be_length]
    have hlen : (fullB m).length = (fullB l).length := by
      have : (encB m).length = (encB l).length := by rw [e]; simp
      omega
    have p4 : ∀ x : List UInt8, 0 ≤ adl x ∧ adl x < 256 ^ 4 := fun x => adl_lt x
    by_cases hi : i < (fullB l).length
    · have e2 : (encB l).set i c = (fullB l).set i c ++ be (adl (fullB l)) 4 := by
        unfold encB; rw [List.set_append_left _ _ hi]
      rw [e2] at e
      have e3 := List.append_inj (show fullB m ++ be (adl (fullB m)) 4 = _ from e) (by simpa using hlen)
      have e4 := be_inj (p4 _).1 (p4 _).2 (p4 _).1 (p4 _).2 e3.2
      rw [e3.1] at e4
      have hget : (encB l)[i] = (fullB l)[i] := by
        unfold encB
        exact List.getElem_append_left hi
      rw [hget] at hc
      exact adl_set hi hc e4
    · have hk : i - (fullB l).length < 4 := by omega
      have e2 : (encB l).set i c = fullB l ++ (be (adl (fullB l)) 4).set (i - (fullB l).length) c := by
        unfold encB; rw [List.set_append_right _ _ (by omega)]
      rw [e2] at e
      have e3 := List.append_inj (show fullB m ++ be (adl (fullB m)) 4 = _ from e) hlen
      rw [e3.1] at e3
      have e5 : (be (adl (fullB l)) 4)[i - (fullB l).length]'(by rw [be_length]; exact hk) = c := by
        have : (be (adl (fullB l)) 4)[i - (fullB l).length]? = ((be (adl (fullB l)) 4).set (i - (fullB l).length) c)[i - (fullB l).length]? := congrArg (·[i - (fullB l).length]?) e3.2
        rw [List.getElem?_eq_getElem (by rw [be_length]; exact hk), List.getElem?_eq_getElem (by simp [be_length]; exact hk), List.getElem_set_self] at this
        exact Option.some.inj this
      apply hc
      rw [← e5]
      have : (encB l)[i] = (fullB l ++ be (adl (fullB l)) 4)[i]'(by simpa [encB] using h) := rfl
      rw [this, List.getElem_append_right (by omega)]

end Go.Proofs.Ytehnchfnhbmkdaa

/-
  Chapter 48: encodes, decodes, small, filled.
  Conditions: none. By an AI agent.
-/
set_option maxRecDepth 10000
set_option linter.unusedSimpArgs false
set_option linter.unusedVariables false
namespace Go.Proofs.Ytehnchfnhbmkdaa
open Go Eng

@[go_sem] theorem mpn_nil {ox oy : Operand} : xbin Try.prog .neq T.p_model_Model ox oy (.pointer none) (.pointer none) = some (.bool false) := by kernel_rfl
@[go_sem] theorem mpn_some {ox oy : Operand} {a : Addr} : xbin Try.prog .neq T.p_model_Model ox oy (.pointer (some a)) (.pointer none) = some (.bool true) := by kernel_rfl

theorem q_encodes_nil (H : AHeap) : CC F.law_encodes [.pointer none, .slice none 0 0, .int .i64 1] H = some (.bool true, H) := by
  have h1 : CC F.backup_Encode [.pointer none] H = some (.tuple #[.slice none 0 0, .int .i64 1], H) := by
    apply pure_of _ (d_backup_Encode _ H) rfl
    rotate_left 2
    · simp (disch := first | with_reducible rfl | assumption | omega | rfl | (simp only [go_sem]; first | done | omega)) only [go_sem, ↓reduceIte, reduceCtorEq, Nat.reduceEqDiff, Nat.reduceAdd, Nat.reduceSub, Nat.reduceMul, Nat.reduceDiv, Nat.reduceMod, Nat.reduceLeDiff, Nat.reduceLT, Nat.reduceBEq, Int.reduceEq, Int.reduceBEq, Int.reduceBNe, Int.reduceLT, Int.reduceLE, Int.reduceAdd, Int.reduceSub, Int.reduceNeg, Int.reduceToNat, Int.reducePow, Nat.reducePow, Int.reduceMul, Int.reduceDiv, ↓s_backup_Encode, mp_nil]
      rfl
    · (repeat (first | exact Fr.refl _ | refine Fr.push ?_ _ | refine Fr.set ?_ _ _ (by intro h; first | omega | (simp only [go_sem] at h; omega))))
  have st := BR.str (H := H) (v := .slice none 0 0) (l := []) RdS.nil
  apply pure_of _ (d_law_encodes _ _ _ H) rfl
  rotate_left 2
  · simp (disch := first | with_reducible rfl | assumption | omega | rfl | (simp only [go_sem]; first | done | omega)) only [go_sem, ↓reduceIte, reduceCtorEq, Nat.reduceEqDiff, Nat.reduceAdd, Nat.reduceSub, Nat.reduceMul, Nat.reduceDiv, Nat.reduceMod, Nat.reduceLeDiff, Nat.reduceLT, Nat.reduceBEq, Int.reduceEq, Int.reduceBEq, Int.reduceBNe, Int.reduceLT, Int.reduceLE, Int.reduceAdd, Int.reduceSub, Int.reduceNeg, Int.reduceToNat, Int.reducePow, Nat.reducePow, Int.reduceMul, Int.reduceDiv, ↓s_law_encodes, enterK_eq h1, st]
    rfl
  · (repeat (first | exact Fr.refl _ | refine Fr.push ?_ _ | refine Fr.set ?_ _ _ (by intro h; first | omega | (simp only [go_sem] at h; omega))))
theorem q_encodes (b : Nat) (l : List Pr) (w : Value) (want : List UInt8) (H : AHeap) (r : Mdl H b l) (hl : l.length ≤ 20000) (hsz : ∀ a ∈ l, (bl a.key).length ≤ 1000 ∧ (bl a.value).length ≤ 1000) (hw : BR H w want) (he : encB l = want) :
    CC F.law_encodes [.pointer (some ⟨b, 0, none⟩), w, .int .i64 0] H = some (.bool true, H) := by
  obtain ⟨v', H', e1, e2, e3⟩ := q_Encode b l H r hl hsz
  have st1 := BR.str e2
  have st2 := BR.str (hw.still e3)
  rw [he] at st1
  apply pure_of _ (d_law_encodes _ _ _ H) rfl
  rotate_left 2
  · simp (disch := first | with_reducible rfl | assumption | omega | rfl | (simp only [go_sem]; first | done | omega)) only [go_sem, ↓reduceIte, reduceCtorEq, Nat.reduceEqDiff, Nat.reduceAdd, Nat.reduceSub, Nat.reduceMul, Nat.reduceDiv, Nat.reduceMod, Nat.reduceLeDiff, Nat.reduceLT, Nat.reduceBEq, Int.reduceEq, Int.reduceBEq, Int.reduceBNe, Int.reduceLT, Int.reduceLE, Int.reduceAdd, Int.reduceSub, Int.reduceNeg, Int.reduceToNat, Int.reducePow, Nat.reducePow, Int.reduceMul, Int.reduceDiv, ↓s_law_encodes, enterK_eq e1, st1, st2]
    rfl
  · exact e3

theorem q_decodes_none (l : List UInt8) (v : Value) (H : AHeap) (ok : MOk H) (hr : BR H v l) (hl : l.length ≤ 4194304) (hd : decOf l = none) : CC F.law_decodes [v, .pointer none, .int .i64 12] H = some (.bool true, H) := by
  have h1 := (q_Decode l v H ok hr hl).1 hd
  apply pure_of _ (d_law_decodes _ _ _ H) rfl
  rotate_left 2
  · simp (disch := first | with_reducible rfl | assumption | omega | rfl | (simp only [go_sem]; first | done | omega)) only [go_sem, ↓reduceIte, reduceCtorEq, Nat.reduceEqDiff, Nat.reduceAdd, Nat.reduceSub, Nat.reduceMul, Nat.reduceDiv, Nat.reduceMod, Nat.reduceLeDiff, Nat.reduceLT, Nat.reduceBEq, Int.reduceEq, Int.reduceBEq, Int.reduceBNe, Int.reduceLT, Int.reduceLE, Int.reduceAdd, Int.reduceSub, Int.reduceNeg, Int.reduceToNat, Int.reducePow, Nat.reducePow, Int.reduceMul, Int.reduceDiv, ↓s_law_decodes, enterK_eq h1, mp_nil]
    rfl
  · (repeat (first | exact Fr.refl _ | refine Fr.push ?_ _ | refine Fr.set ?_ _ _ (by intro h; first | omega | (simp only [go_sem] at h; omega))))
theorem q_decodes_long (l : List UInt8) (v : Value) (H : AHeap) (hr : BR H v l) (hl : 4194304 < l.length) : CC F.law_decodes [v, .pointer none, .int .i64 5] H = some (.bool true, H) := by
  have h1 := q_Decode_long l v H hr hl
  apply pure_of _ (d_law_decodes _ _ _ H) rfl
  rotate_left 2
  · simp (disch := first | with_reducible rfl | assumption | omega | rfl | (simp only [go_sem]; first | done | omega)) only [go_sem, ↓reduceIte, reduceCtorEq, Nat.reduceEqDiff, Nat.reduceAdd, Nat.reduceSub, Nat.reduceMul, Nat.reduceDiv, Nat.reduceMod, Nat.reduceLeDiff, Nat.reduceLT, Nat.reduceBEq, Int.reduceEq, Int.reduceBEq, Int.reduceBNe, Int.reduceLT, Int.reduceLE, Int.reduceAdd, Int.reduceSub, Int.reduceNeg, Int.reduceToNat, Int.reducePow, Nat.reducePow, Int.reduceMul, Int.reduceDiv, ↓s_law_decodes, enterK_eq h1, mp_nil]
    rfl
  · (repeat (first | exact Fr.refl _ | refine Fr.push ?_ _ | refine Fr.set ?_ _ _ (by intro h; first | omega | (simp only [go_sem] at h; omega))))
theorem q_decodes (l : List UInt8) (v : Value) (b : Nat) (m : List Pr) (H : AHeap) (ok : MOk H) (hr : BR H v l) (hl : l.length ≤ 4194304) (hd : decOf l = some m) (r : Mdl H b m) (hm : m.length ≤ 20000) :
    CC F.law_decodes [v, .pointer (some ⟨b, 0, none⟩), .int .i64 0] H = some (.bool true, H) := by
  obtain ⟨bm, H', h1, fr⟩ := (q_Decode l v H ok hr hl).2 m hd
  have h2 := q_Equal bm b m m H' fr.mdl (r.still fr.still) (by omega) (by omega)
  rw [decide_eq_true rfl] at h2
  apply pure_of _ (d_law_decodes _ _ _ H) rfl
  rotate_left 2
  · simp (disch := first | with_reducible rfl | assumption | omega | rfl | (simp only [go_sem]; first | done | omega)) only [go_sem, ↓reduceIte, reduceCtorEq, Nat.reduceEqDiff, Nat.reduceAdd, Nat.reduceSub, Nat.reduceMul, Nat.reduceDiv, Nat.reduceMod, Nat.reduceLeDiff, Nat.reduceLT, Nat.reduceBEq, Int.reduceEq, Int.reduceBEq, Int.reduceBNe, Int.reduceLT, Int.reduceLE, Int.reduceAdd, Int.reduceSub, Int.reduceNeg, Int.reduceToNat, Int.reducePow, Nat.reducePow, Int.reduceMul, Int.reduceDiv, ↓s_law_decodes, enterK_eq h1, mp_some, mpn_some, enterK_eq h2]
    rfl
  · exact fr.still

/-! ### small -/
def smallA (a : Pr) : Bool := decide ((bl a.key).length ≤ 30) && decide ((bl a.value).length ≤ 44)
def smallP (l : List Pr) : Bool := (l.take 31).all smallA && decide (l.length ≤ 30)
theorem l_small (l : List Pr) (v : Value) (H : AHeap) (hr : Rd EPr H v l) : ∀ (t : List Pr) (i : Nat), (l.take 31).drop i = t → i ≤ 31 →
    (t.all smallA = true → ∀ K : K, l_law_small_0 v (.int .i64 (i : Int)) H (blkK [0] 0 K) = K .normal [(0, v)] H) ∧
    (t.all smallA = false → ∀ K : K, l_law_small_0 v (.int .i64 (i : Int)) H (blkK [0] 0 K) = K .ret [(2, .bool false)] H)
  | [], i, hx, h31 => by
    have h : (l.take 31).length ≤ i := List.drop_eq_nil_iff.1 hx
    have hlen := hr.lenS
    refine ⟨fun _ K => ?_, fun h => by simp at h⟩
    by_cases h1 : i < l.length
    · have hlt : (i : Int) < (l.length : Int) := by omega
      have h2 : ¬ (i : Int) < 31 := by simp at h; omega
      rw [r_law_small_0]
      simp (disch := first | with_reducible rfl | assumption | omega | rfl | (simp only [go_sem]; first | done | omega)) only [go_sem, ↓reduceIte, reduceCtorEq, Nat.reduceEqDiff, Nat.reduceAdd, Nat.reduceSub, Nat.reduceMul, Nat.reduceDiv, Nat.reduceMod, Nat.reduceLeDiff, Nat.reduceLT, Nat.reduceBEq, Int.reduceEq, Int.reduceBEq, Int.reduceBNe, Int.reduceLT, Int.reduceLE, Int.reduceAdd, Int.reduceSub, Int.reduceNeg, Int.reduceToNat, Int.reducePow, Nat.reducePow, Int.reduceMul, Int.reduceDiv, ↓s_law_small_b0, hlen, hlt, h2]
    · have hlt : ¬ (i : Int) < (l.length : Int) := by omega
      rw [r_law_small_0]
      simp (disch := first | with_reducible rfl | assumption | omega | rfl | (simp only [go_sem]; first | done | omega)) only [go_sem, ↓reduceIte, reduceCtorEq, Nat.reduceEqDiff, Nat.reduceAdd, Nat.reduceSub, Nat.reduceMul, Nat.reduceDiv, Nat.reduceMod, Nat.reduceLeDiff, Nat.reduceLT, Nat.reduceBEq, Int.reduceEq, Int.reduceBEq, Int.reduceBNe, Int.reduceLT, Int.reduceLE, Int.reduceAdd, Int.reduceSub, Int.reduceNeg, Int.reduceToNat, Int.reducePow, Nat.reducePow, Int.reduceMul, Int.reduceDiv, ↓s_law_small_b0, hlen, hlt]
  | a :: t, i, hx, h31 => by
    obtain ⟨h, hxa, hx'⟩ := drop_cons hx
    have hi : i < l.length ∧ i < 31 := by simp at h; omega
    have hlen := hr.lenS
    have hlt : (i : Int) < (l.length : Int) := by omega
    have h2 : (i : Int) < 31 := by omega
    obtain ⟨b1, o1, ix, c0, c1, _⟩ := rd_pair hr hi.1 (iv := (i : Int)) rfl
    have hla : l[i] = a := by rw [← hxa]; simp
    rw [hla] at c0 c1
    obtain ⟨k1, k2⟩ := l_small l v H hr t (i + 1) hx' (by omega)
    rw [List.all_cons]
    by_cases s1 : 30 < (bl a.key).length
    · have s1' : 30 < ((bl a.key).length : Int) := by omega
      have e : smallA a = false := by unfold smallA; simp; omega
      rw [e]
      refine ⟨fun h => by simp at h, fun _ K => ?_⟩
      rw [r_law_small_0]
      simp (disch := first | with_reducible rfl | assumption | omega | rfl | (simp only [go_sem]; first | done | omega)) only [go_sem, ↓reduceIte, reduceCtorEq, Nat.reduceEqDiff, Nat.reduceAdd, Nat.reduceSub, Nat.reduceMul, Nat.reduceDiv, Nat.reduceMod, Nat.reduceLeDiff, Nat.reduceLT, Nat.reduceBEq, Int.reduceEq, Int.reduceBEq, Int.reduceBNe, Int.reduceLT, Int.reduceLE, Int.reduceAdd, Int.reduceSub, Int.reduceNeg, Int.reduceToNat, Int.reducePow, Nat.reducePow, Int.reduceMul, Int.reduceDiv, ↓s_law_small_b0, hlen, hlt, h2, ix, c0, s1']
    · have s1' : ¬ 30 < ((bl a.key).length : Int) := by omega
      by_cases s2 : 44 < (bl a.value).length
      · have s2' : 44 < ((bl a.value).length : Int) := by omega
        have e : smallA a = false := by unfold smallA; simp; omega
        rw [e]
        refine ⟨fun h => by simp at h, fun _ K => ?_⟩
        rw [r_law_small_0]
        simp (disch := first | with_reducible rfl | assumption | omega | rfl | (simp only [go_sem]; first | done | omega)) only [go_sem, ↓reduceIte, reduceCtorEq, Nat.reduceEqDiff, Nat.reduceAdd, Nat.reduceSub, Nat.reduceMul, Nat.reduceDiv, Nat.reduceMod, Nat.reduceLeDiff, Nat.reduceLT, Nat.reduceBEq, Int.reduceEq, Int.reduceBEq, Int.reduceBNe, Int.reduceLT, Int.reduceLE, Int.reduceAdd, Int.reduceSub, Int.reduceNeg, Int.reduceToNat, Int.reducePow, Nat.reducePow, Int.reduceMul, Int.reduceDiv, ↓s_law_small_b0, hlen, hlt, h2, ix, c0, s1', c1, s2']
      · have s2' : ¬ 44 < ((bl a.value).length : Int) := by omega
        have e : smallA a = true := by unfold smallA; simp; omega
        rw [e]
        refine ⟨fun h3 K => ?_, fun h3 K => ?_⟩
        · have := k1 (by simpa using h3) K
          rw [r_law_small_0]
          simp (disch := first | with_reducible rfl | assumption | omega | rfl | (simp only [go_sem]; first | done | omega)) only [go_sem, ↓reduceIte, reduceCtorEq, Nat.reduceEqDiff, Nat.reduceAdd, Nat.reduceSub, Nat.reduceMul, Nat.reduceDiv, Nat.reduceMod, Nat.reduceLeDiff, Nat.reduceLT, Nat.reduceBEq, Int.reduceEq, Int.reduceBEq, Int.reduceBNe, Int.reduceLT, Int.reduceLE, Int.reduceAdd, Int.reduceSub, Int.reduceNeg, Int.reduceToNat, Int.reducePow, Nat.reducePow, Int.reduceMul, Int.reduceDiv, ↓s_law_small_b0, hlen, hlt, h2, ix, c0, s1', c1, s2']
          exact this
        · have := k2 (by simpa using h3) K
          rw [r_law_small_0]
          simp (disch := first | with_reducible rfl | assumption | omega | rfl | (simp only [go_sem]; first | done | omega)) only [go_sem, ↓reduceIte, reduceCtorEq, Nat.reduceEqDiff, Nat.reduceAdd, Nat.reduceSub, Nat.reduceMul, Nat.reduceDiv, Nat.reduceMod, Nat.reduceLeDiff, Nat.reduceLT, Nat.reduceBEq, Int.reduceEq, Int.reduceBEq, Int.reduceBNe, Int.reduceLT, Int.reduceLE, Int.reduceAdd, Int.reduceSub, Int.reduceNeg, Int.reduceToNat, Int.reducePow, Nat.reducePow, Int.reduceMul, Int.reduceDiv, ↓s_law_small_b0, hlen, hlt, h2, ix, c0, s1', c1, s2']
          exact this
theorem q_small (l : List Pr) (v : Value) (H : AHeap) (hr : Rd EPr H v l) : CC F.law_small [v] H = some (.bool (smallP l), H) := by
  obtain ⟨z1, z2⟩ := l_small l v H hr (l.take 31) 0 (by simp) (by decide)
  have hlen := hr.lenS
  unfold smallP
  cases h : (l.take 31).all smallA with
  | true =>
    have z1 : ∀ K : K, l_law_small_0 v (.int .i64 0) H (blkK [0] 0 K) = K .normal [(0, v)] H := z1 h
    have e : (decide (l.length ≤ 30)) = decide ((l.length : Int) ≤ 30) := by congr 1; apply propext; omega
    rw [Bool.true_and, e]
    apply pure_of _ (d_law_small _ H) rfl
    rotate_left 2
    · simp (disch := first | with_reducible rfl | assumption | omega | rfl | (simp only [go_sem]; first | done | omega)) only [go_sem, ↓reduceIte, reduceCtorEq, Nat.reduceEqDiff, Nat.reduceAdd, Nat.reduceSub, Nat.reduceMul, Nat.reduceDiv, Nat.reduceMod, Nat.reduceLeDiff, Nat.reduceLT, Nat.reduceBEq, Int.reduceEq, Int.reduceBEq, Int.reduceBNe, Int.reduceLT, Int.reduceLE, Int.reduceAdd, Int.reduceSub, Int.reduceNeg, Int.reduceToNat, Int.reducePow, Nat.reducePow, Int.reduceMul, Int.reduceDiv, ↓s_law_small, z1, hlen]
      rfl
    · (repeat (first | exact Fr.refl _ | refine Fr.push ?_ _ | refine Fr.set ?_ _ _ (by intro h; first | omega | (simp only [go_sem] at h; omega))))
  | false =>
    have z2 : ∀ K : K, l_law_small_0 v (.int .i64 0) H (blkK [0] 0 K) = K .ret [(2, .bool false)] H := z2 h
    rw [Bool.false_and]
    apply pure_of _ (d_law_small _ H) rfl
    rotate_left 2
    · simp (disch := first | with_reducible rfl | assumption | omega | rfl | (simp only [go_sem]; first | done | omega)) only [go_sem, ↓reduceIte, reduceCtorEq, Nat.reduceEqDiff, Nat.reduceAdd, Nat.reduceSub, Nat.reduceMul, Nat.reduceDiv, Nat.reduceMod, Nat.reduceLeDiff, Nat.reduceLT, Nat.reduceBEq, Int.reduceEq, Int.reduceBEq, Int.reduceBNe, Int.reduceLT, Int.reduceLE, Int.reduceAdd, Int.reduceSub, Int.reduceNeg, Int.reduceToNat, Int.reducePow, Nat.reducePow, Int.reduceMul, Int.reduceDiv, ↓s_law_small, z2]
      rfl
    · (repeat (first | exact Fr.refl _ | refine Fr.push ?_ _ | refine Fr.set ?_ _ _ (by intro h; first | omega | (simp only [go_sem] at h; omega))))
theorem smallP_ok {l : List Pr} (h : smallP l = true) : l.length ≤ 30 := by
  unfold smallP at h
  simp only [Bool.and_eq_true, decide_eq_true_eq] at h
  exact h.2

/-! ### filled -/
def fillP (l : List Pr) : List Pr := l.foldl (fun m a => (putE m a).2) []
theorem l_filled (l : List Pr) (v : Value) (bm : Nat) (H0 : AHeap) (hr : Rd EPr H0 v l) (hl : l.length ≤ 20000) : ∀ (t : List Pr) (i : Nat) (H : AHeap) (m : List Pr), l.drop i = t → Fresh H0 H bm m →
    ∃ H', (∀ K : K, l_law_filled_0 v (.pointer (some ⟨bm, 0, none⟩)) (.int .i64 (i : Int)) H (blkK [3] 0 K) = K .normal [(3, .pointer (some ⟨bm, 0, none⟩))] H') ∧ Fresh H0 H' bm (t.foldl (fun m a => (putE m a).2) m)
  | [], i, H, m, hx, fr => by
    have h : l.length ≤ i := List.drop_eq_nil_iff.1 hx
    have hlt : ¬ (i : Int) < (l.length : Int) := by omega
    have hlen := hr.lenS
    refine ⟨H, fun K => ?_, fr⟩
    rw [r_law_filled_0]
    simp (disch := first | with_reducible rfl | assumption | omega | rfl | (simp only [go_sem]; first | done | omega)) only [go_sem, ↓reduceIte, reduceCtorEq, Nat.reduceEqDiff, Nat.reduceAdd, Nat.reduceSub, Nat.reduceMul, Nat.reduceDiv, Nat.reduceMod, Nat.reduceLeDiff, Nat.reduceLT, Nat.reduceBEq, Int.reduceEq, Int.reduceBEq, Int.reduceBNe, Int.reduceLT, Int.reduceLE, Int.reduceAdd, Int.reduceSub, Int.reduceNeg, Int.reduceToNat, Int.reducePow, Nat.reducePow, Int.reduceMul, Int.reduceDiv, ↓s_law_filled_b0, hlen, hlt]
  | a :: t, i, H, m, hx, fr => by
    obtain ⟨hi, hxa, hx'⟩ := drop_cons hx
    have hlt : (i : Int) < (l.length : Int) := by omega
    have hlen := hr.lenS
    obtain ⟨b1, o1, ix, c0, c1, _⟩ := rd_pair (hr.still fr.still) hi (iv := (i : Int)) rfl
    rw [hxa] at c0 c1
    obtain ⟨H1, m1, fr1, _⟩ := fr.put a
    obtain ⟨H2, e2, fr2⟩ := l_filled l v bm H0 hr hl t (i + 1) H1 _ hx' fr1
    refine ⟨H2, fun K => ?_, fr2⟩
    have := e2 K
    rw [r_law_filled_0]
    simp (disch := first | with_reducible rfl | assumption | omega | rfl | (simp only [go_sem]; first | done | omega)) only [go_sem, ↓reduceIte, reduceCtorEq, Nat.reduceEqDiff, Nat.reduceAdd, Nat.reduceSub, Nat.reduceMul, Nat.reduceDiv, Nat.reduceMod, Nat.reduceLeDiff, Nat.reduceLT, Nat.reduceBEq, Int.reduceEq, Int.reduceBEq, Int.reduceBNe, Int.reduceLT, Int.reduceLE, Int.reduceAdd, Int.reduceSub, Int.reduceNeg, Int.reduceToNat, Int.reducePow, Nat.reducePow, Int.reduceMul, Int.reduceDiv, ↓s_law_filled_b0, hlen, hlt, ix, c0, c1, enterK_eq m1]
    exact this
theorem q_filled (l : List Pr) (v : Value) (H : AHeap) (ok : MOk H) (hr : Rd EPr H v l) (hl : l.length ≤ 20000) : ∃ bm H', CC F.law_filled [v] H = some (.pointer (some ⟨bm, 0, none⟩), H') ∧ Fresh H H' bm (fillP l) := by
  obtain ⟨H1, hH1⟩ : ∃ H1, H.push (.cells [.slice none 0 0] T.model_Model true) = H1 := ⟨_, rfl⟩
  have fr1 := Fresh.start ok hH1
  obtain ⟨H2, e2, fr2⟩ := l_filled l v H.n H hr hl l 0 H1 [] rfl fr1
  have e2 : ∀ K : K, l_law_filled_0 v (.pointer (some ⟨H.n, 0, none⟩)) (.int .i64 0) H1 (blkK [3] 0 K) = K .normal [(3, .pointer (some ⟨H.n, 0, none⟩))] H2 := e2
  refine ⟨H.n, H2, (d_law_filled _ H ?_).trans (congrArg some (tidy_mem rfl)), fr2⟩
  simp (disch := first | with_reducible rfl | assumption | omega | rfl | (simp only [go_sem]; first | done | omega)) only [go_sem, ↓reduceIte, reduceCtorEq, Nat.reduceEqDiff, Nat.reduceAdd, Nat.reduceSub, Nat.reduceMul, Nat.reduceDiv, Nat.reduceMod, Nat.reduceLeDiff, Nat.reduceLT, Nat.reduceBEq, Int.reduceEq, Int.reduceBEq, Int.reduceBNe, Int.reduceLT, Int.reduceLE, Int.reduceAdd, Int.reduceSub, Int.reduceNeg, Int.reduceToNat, Int.reducePow, Nat.reducePow, Int.reduceMul, Int.reduceDiv, ↓s_law_filled, hH1, e2]

theorem putE_end {m : List Pr} {a : Pr} (hs : Srt (m ++ [a])) (hc : chk a.key [a.value] = 0) (hl : m.length < 20000) : (putE m a).2 = m ++ [a] := by
  have h1 : ∀ x ∈ m, cmpS x.key a.key < 0 := fun x hx => (List.pairwise_append.1 hs).2.2 x hx a (by simp)
  unfold putE
  rw [if_pos hc, posP_end h1]
  unfold putP
  have h2 : isP m a.key m.length = false := by unfold isP; rw [List.getElem?_eq_none (Nat.le_refl _)]
  rw [h2, if_neg (by simp), if_neg (by omega), List.take_length, List.drop_length]
theorem fill_app : ∀ (t m : List Pr), Srt (m ++ t) → VOk t → (m ++ t).length ≤ 20000 → t.foldl (fun m a => (putE m a).2) m = m ++ t
  | [], m, _, _, _ => by simp
  | a :: t, m, hs, hv, hl => by
    have hs' : Srt ((m ++ [a]) ++ t) := by simpa using hs
    rw [List.foldl_cons, putE_end (List.pairwise_append.1 hs').1 (hv a (by simp)) (by simp at hl; omega), fill_app t (m ++ [a]) hs' (fun x hx => hv x (by simp [hx])) (by simpa using hl)]
    simp
theorem fillP_wf {l : List Pr} (h : Wf l) : fillP l = l := by
  have := fill_app l [] (by simpa using h.1) h.2.1 (by simpa using h.2.2)
  simpa [fillP] using this
theorem fill_len : ∀ (t m : List Pr), (t.foldl (fun m a => (putE m a).2) m).length ≤ m.length + t.length
  | [], m => by simp
  | a :: t, m => by
    have h1 := fill_len t (putE m a).2
    have h2 : (putE m a).2.length ≤ m.length + 1 := by
      unfold putE putP
      split
      · split
        · simp
        · split
          · simp
          · simp; omega
      · simp
    simp at h1 ⊢; omega
theorem Fresh.wf {H0 H : AHeap} {b : Nat} {l : List Pr} (r : Fresh H0 H b l) : Wf l := ⟨r.srt, r.vok, r.len⟩
theorem encB_small {l : List Pr} (h : Wf l) (hl : l.length ≤ 200) : (encB l).length ≤ 20000 := by
  have : ∀ (l : List Pr) (last : ByteArray), VOk l → (bodyB last l).length ≤ 67 * l.length := fun l => by
    induction l with
    | nil => intro _ _; simp [bodyB]
    | cons a t ih =>
      intro last h
      have h1 := ih a.key fun x hx => h x (by simp [hx])
      have h2 := chk_len (h a (by simp))
      have h3 := pairB_len last a
      simp [bodyB]; omega
  have := this l (mk []) h.2.1
  simp [encB, fullB, headB, be_length]; omega

end Go.Proofs.Ytehnchfnhbmkdaa

/-
  Chapter 48: pairs as arguments; a byte of a copy is set.
  Conditions: none. By an AI agent.
-/
set_option maxRecDepth 10000
set_option linter.unusedSimpArgs false
set_option linter.unusedVariables false
namespace Go.Proofs.Ytehnchfnhbmkdaa
open Go Eng

theorem decPr2 {W : World} {H : Type} {enc : TypeId × Value → H} (_ : 0 < W.heap.size) {cs : List Value} {n : Nat} {y : DataW H × List MemPlace} (h : DataW.trod enc Try.prog W 0 (fun _ => true) true n T.api_Pair cs = some y) (hl : cs.length = EPr.w) :
    ∃ a : Pr, cs.map (conv2 W.heap.size) = EPr.enc a ∧ True := by
  have ht := Try.underlying60
  obtain ⟨c0, c1, rfl⟩ : ∃ c0 c1, cs = [c0, c1] := by
    match cs, hl with
    | [c0, c1], _ => exact ⟨_, _, rfl⟩
  obtain ⟨m0, z0, h0⟩ := dec_field ht h (i := 0) rfl rfl (by kernel_rfl) rfl
  obtain ⟨m1, z1, h1⟩ := dec_field ht h (i := 1) rfl rfl (by kernel_rfl) rfl
  obtain ⟨s0, rfl, _⟩ := dec_str Try.underlying9 h0
  obtain ⟨s1, rfl, _⟩ := dec_str Try.underlying9 h1
  exact ⟨⟨s0, s1⟩, rfl, trivial⟩
theorem decB2 {W : World} {H : Type} {enc : TypeId × Value → H} (_ : 0 < W.heap.size) {cs : List Value} {n : Nat} {y : DataW H × List MemPlace} (h : DataW.trod enc Try.prog W 0 (fun _ => true) true n T.uint8 cs = some y) (hl : cs.length = EB.w) : ∃ a, cs.map (conv2 W.heap.size) = EB.enc a ∧ True := dec_u8 Try.underlying5 h hl
theorem absHeap2_ok (W : World) : MOk (absHeap2 W) := fun _ => Nat.zero_lt_one
theorem wf_u8' {i : Int} (h : (Lit.int .u8 i).wf = true) : ∃ c : UInt8, i = (c.toNat : Int) := by
  simp [Lit.wf, IntKind.min, IntKind.max, IntKind.signed, IntKind.bits] at h
  exact ⟨u8 i, (u8_nat ⟨by omega, by omega⟩).symm⟩
theorem wf_u16 {i : Int} (h : (Lit.int .u16 i).wf = true) : 0 ≤ i ∧ i < 65536 := by
  simp [Lit.wf, IntKind.min, IntKind.max, IntKind.signed, IntKind.bits] at h
  omega

/-- A copy of bytes. -/
theorem copyN {H : AHeap} {y : Value} {l : List UInt8} (r : BR H y l) (hl : l.length ≤ 1000000000) : ∃ v' H', app T.uint8 1 1 (.slice none 0 0) (srcS 1 y H) H = some (v', H') ∧ Since H H' v' l := by
  obtain ⟨v', H', e1, e2⟩ := (Since.nil (H := H)).app l (r.1.src (sz := 1) rfl) (by simp; omega)
  exact ⟨v', H', e1, by simpa using e2⟩

/-- One byte of a row of its own is set. -/
theorem Since.set {H0 H : AHeap} {v : Value} {l : List UInt8} (r : Since H0 H v l) {i : Nat} (hi : i < l.length) (x : UInt8) :
    ∃ b o k, ixS 1 v (.int .i64 (i : Int)) = some (.pointer (some ⟨b, o, none⟩)) ∧ cellB (H.f b) o = some (.int .u8 (l[i].toNat : Int)) ∧ wr1 (H.f b) o (.int .u8 (x.toNat : Int)) = some k ∧ Since H0 (H.set b k) v (l.set i x) := by
  obtain ⟨b, o, k, e1, e2, e3, e4, e5, e6, e7⟩ := Own.set1 byteCell rfl EB_cells (fun _ => rfl) r.own hi x
  exact ⟨b, o, k, e1, e4, e5, r.still.then e7 fun c hc h => by unfold OnlyOf at h; have := r.new c h; omega, e6, r.new⟩

end Go.Proofs.Ytehnchfnhbmkdaa
