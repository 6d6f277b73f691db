/-
  21 texts in one (merge.py): M1 M2 M3 M4 Ord M5 M6 P A F ME V Fr Bb Ga Gp Gb Gc Gd Ge Ha.
  Conditions: none. By an AI agent.
-/
import Derived.Test.YtlfpjndbpclnnaaGreatDoorQc1

/-
  The plain map: strings compared; slices of pairs: Clone, Insert, Delete.
  Conditions: none. By an AI agent.
-/
set_option maxRecDepth 10000
set_option linter.unusedSimpArgs false
set_option linter.unusedVariables false
namespace Go.Proofs.YtlfpjndbpclnnaaGreatDoor
open Go Eng

theorem k_known (H : AHeap) : CC F.law_known [] H = some (.bool true, H) := D_prim (show prims1 F.law_known = some trueP by kernel_rfl) rfl
@[go_sem, go_sem ↓] theorem e_known {H : AHeap} {k : Value → AHeap → Res} : enterK CC F.law_known [] H k = k (.bool true) H := enterK_eq (k_known H)
@[go_sem] theorem bool_ne {ox oy : Operand} {a b : Bool} : xbin Tryz.prog .neq T.bool ox oy (.bool a) (.bool b) = some (.bool (a != b)) := by
  cases a <;> cases b <;> kernel_rfl
@[go_sem] theorem mp_nil {ox oy : Operand} : xbin Tryz.prog .eql T.p_model_Model ox oy (.pointer none) (.pointer none) = some (.bool true) := by kernel_rfl
@[go_sem] theorem mp_some {ox oy : Operand} {a : Addr} : xbin Tryz.prog .eql T.p_model_Model ox oy (.pointer (some a)) (.pointer none) = some (.bool false) := by kernel_rfl

/-- A pair. -/
structure Pr where
  key : ByteArray
  value : ByteArray

def EPr : Enc Pr := ⟨2, fun a => [.string a.key, .string a.value], fun _ => rfl, by decide, fun _ => rfl⟩
def EStr : Enc ByteArray := ⟨1, fun a => [.string a], fun _ => rfl, by decide, fun _ => rfl⟩

/-! Comparing -/
def cmpS (a b : ByteArray) : Int := Lib.compareBytes (bl a) (bl b)

theorem q_CompareString (a b : ByteArray) (H : AHeap) : CC F.internal_bytealg_CompareString [.string a, .string b] H = some (.int .i64 (cmpS a b), H) := by
  have h : ∀ H, xext Tryz.prog Tryz.f102 [.string a, .string b] H = some (.int .i64 (cmpS a b)) := fun H => by kernel_rfl
  apply pure_of _ (d_internal_bytealg_CompareString _ _ H) rfl
  rotate_left 2
  · simp (disch := first | with_reducible rfl | assumption | omega | rfl | (simp only [go_sem]; first | done | omega)) only [go_sem, ↓reduceIte, reduceCtorEq, Nat.reduceEqDiff, Nat.reduceAdd, Nat.reduceSub, Nat.reduceMul, Nat.reduceDiv, Nat.reduceMod, Nat.reduceLeDiff, Nat.reduceLT, Nat.reduceBEq, Int.reduceEq, Int.reduceBEq, Int.reduceBNe, Int.reduceLT, Int.reduceLE, Int.reduceAdd, Int.reduceSub, Int.reduceNeg, Int.reduceToNat, Int.reducePow, Nat.reducePow, Int.reduceMul, Int.reduceDiv, ↓s_internal_bytealg_CompareString, h]
    rfl
  · (repeat (first | exact Fr.refl _ | refine Fr.push ?_ _ | refine Fr.set ?_ _ _ (by intro h; first | omega | (simp only [go_sem] at h; omega))))
@[go_sem, go_sem ↓] theorem e_CompareString (a b : ByteArray) (H : AHeap) {k : Value → AHeap → Res} : enterK CC F.internal_bytealg_CompareString [.string a, .string b] H k = k (.int .i64 (cmpS a b)) H := enterK_eq (q_CompareString a b H)
theorem q_SCompare (a b : ByteArray) (H : AHeap) : CC F.strings_Compare [.string a, .string b] H = some (.int .i64 (cmpS a b), H) := by
  apply pure_of _ (d_strings_Compare _ _ H) rfl
  rotate_left 2
  · simp (disch := first | with_reducible rfl | assumption | omega | rfl | (simp only [go_sem]; first | done | omega)) only [go_sem, ↓reduceIte, reduceCtorEq, Nat.reduceEqDiff, Nat.reduceAdd, Nat.reduceSub, Nat.reduceMul, Nat.reduceDiv, Nat.reduceMod, Nat.reduceLeDiff, Nat.reduceLT, Nat.reduceBEq, Int.reduceEq, Int.reduceBEq, Int.reduceBNe, Int.reduceLT, Int.reduceLE, Int.reduceAdd, Int.reduceSub, Int.reduceNeg, Int.reduceToNat, Int.reducePow, Nat.reducePow, Int.reduceMul, Int.reduceDiv, ↓s_strings_Compare, e_CompareString]
    rfl
  · (repeat (first | exact Fr.refl _ | refine Fr.push ?_ _ | refine Fr.set ?_ _ _ (by intro h; first | omega | (simp only [go_sem] at h; omega))))
@[go_sem, go_sem ↓] theorem e_SCompare (a b : ByteArray) (H : AHeap) {k : Value → AHeap → Res} : enterK CC F.strings_Compare [.string a, .string b] H k = k (.int .i64 (cmpS a b)) H := enterK_eq (q_SCompare a b H)
theorem q_KCompare (a b : ByteArray) (H : AHeap) : CC F.keys_Compare [.string a, .string b] H = some (.int .i64 (cmpS a b), H) := by
  apply pure_of _ (d_keys_Compare _ _ H) rfl
  rotate_left 2
  · simp (disch := first | with_reducible rfl | assumption | omega | rfl | (simp only [go_sem]; first | done | omega)) only [go_sem, ↓reduceIte, reduceCtorEq, Nat.reduceEqDiff, Nat.reduceAdd, Nat.reduceSub, Nat.reduceMul, Nat.reduceDiv, Nat.reduceMod, Nat.reduceLeDiff, Nat.reduceLT, Nat.reduceBEq, Int.reduceEq, Int.reduceBEq, Int.reduceBNe, Int.reduceLT, Int.reduceLE, Int.reduceAdd, Int.reduceSub, Int.reduceNeg, Int.reduceToNat, Int.reducePow, Nat.reducePow, Int.reduceMul, Int.reduceDiv, ↓s_keys_Compare, e_SCompare]
    rfl
  · (repeat (first | exact Fr.refl _ | refine Fr.push ?_ _ | refine Fr.set ?_ _ _ (by intro h; first | omega | (simp only [go_sem] at h; omega))))
@[go_sem, go_sem ↓] theorem e_KCompare (a b : ByteArray) (H : AHeap) {k : Value → AHeap → Res} : enterK CC F.keys_Compare [.string a, .string b] H k = k (.int .i64 (cmpS a b)) H := enterK_eq (q_KCompare a b H)

@[go_sem] theorem sl_nil_Pair {ox oy : Operand} : xbin Tryz.prog .eql T.sl_api_Pair ox oy (.slice none 0 0) (.slice none 0 0) = some (.bool true) := by kernel_rfl
@[go_sem] theorem sl_some_Pair {ox oy : Operand} {a : Addr} {n c : Nat} : xbin Tryz.prog .eql T.sl_api_Pair ox oy (.slice (some a) n c) (.slice none 0 0) = some (.bool false) := by kernel_rfl

theorem q_clone_Pair (l : List Pr) (v : Value) (H : AHeap) (hr : Rd EPr H v l) (hl : l.length ≤ 1000000000000) :
    ∃ v' H', CC F.slices_Clone_Pair [v] H = some (v', H') ∧ Own EPr H' T.api_Pair v' l ∧ Still H H' ∧ ∀ b, blockOf v' = some b → H.n ≤ b := by
  have hsrc : ∀ H1, Still H H1 → srcS 2 v H1 = some (l.length, EPr.cells l) := fun H1 h => (hr.still h).src rfl
  have s1 : Still H (H.push (.cells [] T.api_Pair true)) := (Fr.refl H).push _
  have hs := hsrc _ s1
  by_cases hn : v = .slice none 0 0
  · have hl0 : l = [] := by
      rcases hr with h | h | ⟨b, o, c, h, _⟩
      · exact h.1
      · exact h.1
      · rw [hn] at h; cases h
    subst hn hl0
    refine ⟨.slice none 0 0, H, ?_, .inl ⟨rfl, rfl⟩, Fr.refl H, fun b h => by cases h⟩
    apply pure_of _ (d_slices_Clone_Pair _ H) rfl
    rotate_left 2
    · simp (disch := first | with_reducible rfl | assumption | omega | rfl | (simp only [go_sem]; first | done | omega)) only [go_sem, ↓reduceIte, reduceCtorEq, Nat.reduceEqDiff, Nat.reduceAdd, Nat.reduceSub, Nat.reduceMul, Nat.reduceDiv, Nat.reduceMod, Nat.reduceLeDiff, Nat.reduceLT, Nat.reduceBEq, Int.reduceEq, Int.reduceBEq, Int.reduceBNe, Int.reduceLT, Int.reduceLE, Int.reduceAdd, Int.reduceSub, Int.reduceNeg, Int.reduceToNat, Int.reducePow, Nat.reducePow, Int.reduceMul, Int.reduceDiv, ↓s_slices_Clone_Pair]
      rfl
    · (repeat (first | exact Fr.refl _ | refine Fr.push ?_ _ | refine Fr.set ?_ _ _ (by intro h; first | omega | (simp only [go_sem] at h; omega))))
  · obtain ⟨a, n, c, hv⟩ : ∃ a n c, v = .slice (some a) n c := by
      rcases hr with h | ⟨_, a, k, h, _⟩ | ⟨b, o, c, h, _⟩
      · exact absurd h.2 hn
      · exact ⟨_, _, _, h⟩
      · exact ⟨_, _, _, h⟩
    have hnil : ∀ ox oy, xbin Tryz.prog .eql T.sl_api_Pair ox oy v (.slice none 0 0) = some (.bool false) := fun ox oy => by rw [hv]; exact sl_some_Pair
    have ho : Own EPr (H.push (.cells [] T.api_Pair true)) T.api_Pair (.slice (some ⟨H.n, 0, none⟩) 0 0) [] := .inr (.inl ⟨rfl, _, rfl, rfl, by simp⟩)
    by_cases hl0 : l = []
    · subst hl0
      refine ⟨.slice (some ⟨H.n, 0, none⟩) 0 0, H.push (.cells [] T.api_Pair true), ?_, ho, s1, fun b h => by cases h; exact Nat.le_refl _⟩
      have happ : app T.api_Pair 2 32 (.slice (some ⟨H.n, 0, none⟩) 0 0) (srcS 2 v (H.push (.cells [] T.api_Pair true))) (H.push (.cells [] T.api_Pair true)) = some (.slice (some ⟨H.n, 0, none⟩) 0 0, H.push (.cells [] T.api_Pair true)) := by rw [hs]; rfl
      refine (d_slices_Clone_Pair _ H ?_).trans (congrArg some (tidy_mem (v := .slice (some ⟨H.n, 0, none⟩) 0 0) (H' := H.push (.cells [] T.api_Pair true)) rfl))
      simp (disch := first | with_reducible rfl | assumption | omega | rfl | (simp only [go_sem]; first | done | omega)) only [go_sem, ↓reduceIte, reduceCtorEq, Nat.reduceEqDiff, Nat.reduceAdd, Nat.reduceSub, Nat.reduceMul, Nat.reduceDiv, Nat.reduceMod, Nat.reduceLeDiff, Nat.reduceLT, Nat.reduceBEq, Int.reduceEq, Int.reduceBEq, Int.reduceBNe, Int.reduceLT, Int.reduceLE, Int.reduceAdd, Int.reduceSub, Int.reduceNeg, Int.reduceToNat, Int.reducePow, Nat.reducePow, Int.reduceMul, Int.reduceDiv, ↓s_slices_Clone_Pair, hnil, happ]
    · obtain ⟨v', H', happ, hown, hfr, hb, hg⟩ := ho.app (m := l) hl0 (sz := 2) (bytes := 32) rfl (by simp; omega) (by simp; omega) hs
      refine ⟨v', H', ?_, hown, ?_, ?_⟩
      · refine (d_slices_Clone_Pair _ H ?_).trans (congrArg some (tidy_mem (v := v') (H' := H') hg))
        simp (disch := first | with_reducible rfl | assumption | omega | rfl | (simp only [go_sem]; first | done | omega)) only [go_sem, ↓reduceIte, reduceCtorEq, Nat.reduceEqDiff, Nat.reduceAdd, Nat.reduceSub, Nat.reduceMul, Nat.reduceDiv, Nat.reduceMod, Nat.reduceLeDiff, Nat.reduceLT, Nat.reduceBEq, Int.reduceEq, Int.reduceBEq, Int.reduceBNe, Int.reduceLT, Int.reduceLE, Int.reduceAdd, Int.reduceSub, Int.reduceNeg, Int.reduceToNat, Int.reducePow, Nat.reducePow, Int.reduceMul, Int.reduceDiv, ↓s_slices_Clone_Pair, hnil, happ]
      · refine s1.then hfr fun b hb h => ?_
        unfold OnlyOf at h
        simp [blockOf] at h
        omega
      · intro b h
        rcases hb with hb | hb
        · rw [hb] at h
          simp [blockOf] at h
          omega
        · rw [hb] at h
          simp at h
          omega

/-! ### Insert -/
theorem ins_loop_Pair : noLoop (codeOf Tryz.prog hints F.slices_Insert_Pair) = true := by kernel_rfl

theorem q_insert_Pair (l : List Pr) (v : Value) (a : Pr) (bv i : Nat) (H : AHeap) (hr : Own EPr H T.api_Pair v l) (hl : l.length ≤ 1000000000000) (hi : i ≤ l.length) (hbn : bv < H.n) (hbv : H.f bv = .cells [.string a.key, .string a.value] T.api_Pair true) (hne : blockOf v ≠ some bv) :
    ∃ v' H', CC F.slices_Insert_Pair [v, .int .i64 (i : Int), .slice (some ⟨bv, 0, none⟩) 1 2] H = some (v', H') ∧ Own EPr H' T.api_Pair v' (l.take i ++ a :: l.drop i) ∧ Fr (OnlyOf v) H H' ∧
      (blockOf v' = blockOf v ∨ ∃ b, blockOf v' = some b ∧ H.n ≤ b) := by
  have hp : prims1 F.slices_Insert_Pair = some (insP Tryz.prog hints 42 75 zIns0) := by kernel_rfl
  have hsrc : srcS 2 (.slice (some ⟨bv, 0, none⟩) 1 2) H = some ([a].length, EPr.cells [a]) := by
    unfold srcS
    simp only [cut_b, hbv, Nat.one_ne_zero, if_false]
    rfl
  by_cases hin : i = l.length
  · subst hin
    obtain ⟨v', H', happ, hown, hfr, hb, hg⟩ := hr.app (m := [a]) (by simp) (sz := 2) (bytes := 32) rfl (by simp; omega) (by simp; omega) hsrc
    obtain ⟨w, hw, _, _⟩ := hr.drop (sz := 2) (q := .i64) rfl (Nat.le_refl l.length)
    have hlen := hr.rd.lenS
    refine ⟨v', H', ?_, by simpa using hown, hfr, hb.imp id fun h => ⟨_, h, Nat.le_refl _⟩⟩
    refine D_prim hp ?_
    have hbody : dBody Tryz.prog hints (fun _ _ _ => none) 1 F.slices_Insert_Pair [v, .int .i64 (l.length : Int), .slice (some ⟨bv, 0, none⟩) 1 2] H = some (v', H') := by
      rw [dBody_noLoop ins_loop_Pair, s_slices_Insert_Pair_eq]
      show s_slices_Insert_Pair guardK condL shareL Tryz.prog _ _ _ _ H _ = _
      simp (disch := first | with_reducible rfl | assumption | omega | rfl | (simp only [go_sem]; first | done | omega)) only [go_sem, ↓reduceIte, reduceCtorEq, Nat.reduceEqDiff, Nat.reduceAdd, Nat.reduceSub, Nat.reduceMul, Nat.reduceDiv, Nat.reduceMod, Nat.reduceLeDiff, Nat.reduceLT, Nat.reduceBEq, Int.reduceEq, Int.reduceBEq, Int.reduceBNe, Int.reduceLT, Int.reduceLE, Int.reduceAdd, Int.reduceSub, Int.reduceNeg, Int.reduceToNat, Int.reducePow, Nat.reducePow, Int.reduceMul, Int.reduceDiv, ↓s_slices_Insert_Pair, hw, hlen, happ]
    show (match dBody Tryz.prog hints (fun _ _ _ => none) 1 F.slices_Insert_Pair [v, .int .i64 (l.length : Int), .slice (some ⟨bv, 0, none⟩) 1 2] H with
      | some r => some r
      | none => _) = _
    rw [hbody]
  · have hilt : i < l.length := by omega
    rcases hr with ⟨h, _⟩ | ⟨h, _⟩ | ⟨b, o, c, xs, rfl, hlc, hb, hf, ho, hx⟩
    · subst h; simp at hilt
    · subst h; simp at hilt
    · have hneb : bv ≠ b := fun h => hne (by rw [h]; rfl)
      obtain ⟨v', H', hins, hown, hfr, hbl⟩ := insS_own (P := Tryz.prog) (E := EPr) (l := l) (el := T.api_Pair) (z := zIns0) (b := b) (o := o) (c := c) (i := i) (bv := bv) (ov := 0) (cv := 2) (m := [a]) rfl rfl hlc hb hf ho hx hilt (by simp) hbv hneb (by kernel_rfl) (show 0 + 1 * 2 ≤ 2 by decide) rfl
        (by rw [show Tryz.prog.bytesOf T.api_Pair = 32 by kernel_rfl]; simp; omega) (by simp; omega)
      refine ⟨v', H', ?_, hown, hfr.mono fun x _ h => by rw [h]; rfl, hbl.imp id fun h => ⟨_, h, Nat.le_refl _⟩⟩
      refine D_prim hp ?_
      have hlo : slS T.api_Pair 2 (.slice (some ⟨b, o, none⟩) l.length (2 * c + 1)) (some (.int .i64 (i : Int))) none none H = some (.slice (some ⟨b, o + i * 2, none⟩) (l.length - i) (2 * (c - i) + 1)) := sl_lo hf hi hlc
      have hne' : ¬ (i : Int) = (l.length : Int) := by omega
      have hbody : dBody Tryz.prog hints (fun _ _ _ => none) 1 F.slices_Insert_Pair [.slice (some ⟨b, o, none⟩) l.length (2 * c + 1), .int .i64 (i : Int), .slice (some ⟨bv, 0, none⟩) 1 2] H = none := by
        rw [dBody_noLoop ins_loop_Pair, s_slices_Insert_Pair_eq]
        show s_slices_Insert_Pair guardK condL shareL Tryz.prog _ _ _ _ H _ = _
        simp (disch := first | with_reducible rfl | assumption | omega | rfl | (simp only [go_sem]; first | done | omega)) only [go_sem, ↓reduceIte, reduceCtorEq, Nat.reduceEqDiff, Nat.reduceAdd, Nat.reduceSub, Nat.reduceMul, Nat.reduceDiv, Nat.reduceMod, Nat.reduceLeDiff, Nat.reduceLT, Nat.reduceBEq, Int.reduceEq, Int.reduceBEq, Int.reduceBNe, Int.reduceLT, Int.reduceLE, Int.reduceAdd, Int.reduceSub, Int.reduceNeg, Int.reduceToNat, Int.reducePow, Nat.reducePow, Int.reduceMul, Int.reduceDiv, ↓s_slices_Insert_Pair, hlo, hne', cap_odd]
      show (match dBody Tryz.prog hints (fun _ _ _ => none) 1 F.slices_Insert_Pair [.slice (some ⟨b, o, none⟩) l.length (2 * c + 1), .int .i64 (i : Int), .slice (some ⟨bv, 0, none⟩) 1 2] H with
        | some r => some r
        | none => _) = _
      rw [hbody]
      exact hins



end Go.Proofs.YtlfpjndbpclnnaaGreatDoor

/-
  The plain map: where a key is, the check of a key and values.
  Conditions: none. By an AI agent.
-/
set_option maxRecDepth 10000
set_option linter.unusedSimpArgs false
set_option linter.unusedVariables false
namespace Go.Proofs.YtlfpjndbpclnnaaGreatDoor
open Go Eng

theorem q_place_1 (a : Pr) (key : ByteArray) (H : AHeap) : CC F.model_Model_place_1 [.agg #[.string a.key, .string a.value], .string key] H = some (.int .i64 (cmpS a.key key), H) := by
  apply pure_of _ (d_model_Model_place_1 _ _ H) rfl
  rotate_left 2
  · simp (disch := first | with_reducible rfl | assumption | omega | rfl | (simp only [go_sem]; first | done | omega)) only [go_sem, ↓reduceIte, reduceCtorEq, Nat.reduceEqDiff, Nat.reduceAdd, Nat.reduceSub, Nat.reduceMul, Nat.reduceDiv, Nat.reduceMod, Nat.reduceLeDiff, Nat.reduceLT, Nat.reduceBEq, Int.reduceEq, Int.reduceBEq, Int.reduceBNe, Int.reduceLT, Int.reduceLE, Int.reduceAdd, Int.reduceSub, Int.reduceNeg, Int.reduceToNat, Int.reducePow, Nat.reducePow, Int.reduceMul, Int.reduceDiv, ↓s_model_Model_place_1, e_KCompare]
    rfl
  · (repeat (first | exact Fr.refl _ | refine Fr.push ?_ _ | refine Fr.set ?_ _ _ (by intro h; first | omega | (simp only [go_sem] at h; omega))))
@[go_sem, go_sem ↓] theorem e_place_1 (a : Pr) (key : ByteArray) (H : AHeap) {k : Value → AHeap → Res} : enterK CC F.model_Model_place_1 [.agg #[.string a.key, .string a.value], .string key] H k = k (.int .i64 (cmpS a.key key)) H := enterK_eq (q_place_1 a key H)

/-- p is where a key is, or would be. -/
def PosP (l : List Pr) (key : ByteArray) (p : Nat) : Prop :=
  p ≤ l.length ∧ (∀ (i : Nat) (h : i < l.length), i < p → cmpS l[i].key key < 0) ∧ (∀ (i : Nat) (h : i < l.length), p ≤ i → ¬ cmpS l[i].key key < 0)

/-- Is the key there? -/
def isP (l : List Pr) (key : ByteArray) (p : Nat) : Bool := match l[p]? with | some a => decide (cmpS a.key key = 0) | none => false

theorem l_bsP (l : List Pr) (v : Value) (key : ByteArray) (H : AHeap) (hr : Rd EPr H v l) (hl : l.length < 1152921504606846976)
    (p : Nat) (hp1 : ∀ (i : Nat) (h : i < l.length), i < p → cmpS l[i].key key < 0) (hp2 : ∀ (i : Nat) (h : i < l.length), p ≤ i → ¬ cmpS l[i].key key < 0) (K : K) : ∀ (d i j : Nat), j - i = d → i ≤ p → p ≤ j → j ≤ l.length →
    l_slices_BinarySearchFunc_string_0 v (.string key) (.func (.func F.model_Model_place_1) #[] #[]) (.int .i64 l.length) (.int .i64 i) (.int .i64 j) H K
      = K (.exit 0) [(17, .bool false), (16, .int .i64 p), (15, .int .i64 p), (0, v), (1, .string key), (2, .func (.func F.model_Model_place_1) #[] #[]), (8, .int .i64 l.length), (9, .int .i64 p), (10, .int .i64 p)] H := by
  intro d
  induction d using Nat.strongRecOn with
  | ind d ih =>
    intro i j hd hi hj hn
    by_cases hlt : i < j
    · have hlt' : (i : Int) < (j : Int) := by omega
      have hm : ((i : Int) + (j : Int)) / 2 = (((i + j) / 2 : Nat) : Int) := by omega
      generalize hh : (i + j) / 2 = m at hm
      have hm1 : i ≤ m := by omega
      have hm2 : m < j := by omega
      have hml : m < l.length := by omega
      obtain ⟨b, o, hix, hb, hc, _⟩ := hr.ix (q := .i64) hml
      have hix : ixS 2 v (.int .i64 m) = some (.pointer (some ⟨b, o, none⟩)) := hix
      have hc : cutB (H.f b) o 2 = some [.string l[m].key, .string l[m].value] := hc
      rw [r_slices_BinarySearchFunc_string_0]
      by_cases hp : m < p
      · have hcmp : decide (cmpS l[m].key key < 0) = true := decide_eq_true (hp1 m hml hp)
        have ih := ih (j - (m + 1)) (by omega) (m + 1) j rfl (by omega) hj hn
        rw [Int.natCast_add] at ih
        simp (disch := first | with_reducible rfl | assumption | omega | rfl | (simp only [go_sem]; first | done | omega)) only [go_sem, ↓reduceIte, reduceCtorEq, Nat.reduceEqDiff, Nat.reduceAdd, Nat.reduceSub, Nat.reduceMul, Nat.reduceDiv, Nat.reduceMod, Nat.reduceLeDiff, Nat.reduceLT, Nat.reduceBEq, Int.reduceEq, Int.reduceBEq, Int.reduceBNe, Int.reduceLT, Int.reduceLE, Int.reduceAdd, Int.reduceSub, Int.reduceNeg, Int.reduceToNat, Int.reducePow, Nat.reducePow, Int.reduceMul, Int.reduceDiv, ↓s_slices_BinarySearchFunc_string_b0, hlt', hm, hix, hc, c_model_Model_place_1, e_place_1, hcmp]
        exact ih
      · have hcmp : decide (cmpS l[m].key key < 0) = false := decide_eq_false (hp2 m hml (by omega))
        have ih := ih (m - i) (by omega) i m rfl hi (by omega) (by omega)
        simp (disch := first | with_reducible rfl | assumption | omega | rfl | (simp only [go_sem]; first | done | omega)) only [go_sem, ↓reduceIte, reduceCtorEq, Nat.reduceEqDiff, Nat.reduceAdd, Nat.reduceSub, Nat.reduceMul, Nat.reduceDiv, Nat.reduceMod, Nat.reduceLeDiff, Nat.reduceLT, Nat.reduceBEq, Int.reduceEq, Int.reduceBEq, Int.reduceBNe, Int.reduceLT, Int.reduceLE, Int.reduceAdd, Int.reduceSub, Int.reduceNeg, Int.reduceToNat, Int.reducePow, Nat.reducePow, Int.reduceMul, Int.reduceDiv, ↓s_slices_BinarySearchFunc_string_b0, hlt', hm, hix, hc, c_model_Model_place_1, e_place_1, hcmp]
        exact ih
    · have hip : i = p := by omega
      have hjp : j = p := by omega
      subst hip
      subst hjp
      have hlt' : ¬ (j : Int) < (j : Int) := by omega
      rw [r_slices_BinarySearchFunc_string_0]
      simp (disch := first | with_reducible rfl | assumption | omega | rfl | (simp only [go_sem]; first | done | omega)) only [go_sem, ↓reduceIte, reduceCtorEq, Nat.reduceEqDiff, Nat.reduceAdd, Nat.reduceSub, Nat.reduceMul, Nat.reduceDiv, Nat.reduceMod, Nat.reduceLeDiff, Nat.reduceLT, Nat.reduceBEq, Int.reduceEq, Int.reduceBEq, Int.reduceBNe, Int.reduceLT, Int.reduceLE, Int.reduceAdd, Int.reduceSub, Int.reduceNeg, Int.reduceToNat, Int.reducePow, Nat.reducePow, Int.reduceMul, Int.reduceDiv, ↓s_slices_BinarySearchFunc_string_b0, hlt']

theorem q_bsP (l : List Pr) (v : Value) (key : ByteArray) (H : AHeap) (hr : Rd EPr H v l) (hl : l.length < 1152921504606846976) (p : Nat) (hp : PosP l key p) :
    CC F.slices_BinarySearchFunc_string [v, .string key, .func (.func F.model_Model_place_1) #[] #[]] H = some (.tuple #[.int .i64 p, .bool (isP l key p)], H) := by
  obtain ⟨hpl, hp1, hp2⟩ := hp
  have hlen := hr.lenS
  have hloop := l_bsP l v key H hr hl p hp1 hp2
  have hz : Value.int IntKind.i64 0 = Value.int IntKind.i64 ((0 : Nat) : Int) := rfl
  by_cases hlt : p < l.length
  · obtain ⟨b, o, hix, hb, hc, _⟩ := hr.ix (q := .i64) hlt
    have hix : ixS 2 v (.int .i64 p) = some (.pointer (some ⟨b, o, none⟩)) := hix
    have hc : cutB (H.f b) o 2 = some [.string l[p].key, .string l[p].value] := hc
    have hlt' : (p : Int) < (l.length : Int) := by omega
    have his : isP l key p = decide (cmpS l[p].key key = 0) := by unfold isP; rw [List.getElem?_eq_getElem hlt]
    rw [his]
    apply pure_of _ (d_slices_BinarySearchFunc_string _ _ _ H) rfl
    rotate_left 2
    · simp (disch := first | with_reducible rfl | assumption | omega | rfl | (simp only [go_sem]; first | done | omega)) only [go_sem, ↓reduceIte, reduceCtorEq, Nat.reduceEqDiff, Nat.reduceAdd, Nat.reduceSub, Nat.reduceMul, Nat.reduceDiv, Nat.reduceMod, Nat.reduceLeDiff, Nat.reduceLT, Nat.reduceBEq, Int.reduceEq, Int.reduceBEq, Int.reduceBNe, Int.reduceLT, Int.reduceLE, Int.reduceAdd, Int.reduceSub, Int.reduceNeg, Int.reduceToNat, Int.reducePow, Nat.reducePow, Int.reduceMul, Int.reduceDiv, ↓s_slices_BinarySearchFunc_string, hlen]
      rw [hz, hloop _ (l.length - 0) 0 l.length rfl (by omega) hpl (by omega)]
      simp (disch := first | with_reducible rfl | assumption | omega | rfl | (simp only [go_sem]; first | done | omega)) only [go_sem, ↓reduceIte, reduceCtorEq, Nat.reduceEqDiff, Nat.reduceAdd, Nat.reduceSub, Nat.reduceMul, Nat.reduceDiv, Nat.reduceMod, Nat.reduceLeDiff, Nat.reduceLT, Nat.reduceBEq, Int.reduceEq, Int.reduceBEq, Int.reduceBNe, Int.reduceLT, Int.reduceLE, Int.reduceAdd, Int.reduceSub, Int.reduceNeg, Int.reduceToNat, Int.reducePow, Nat.reducePow, Int.reduceMul, Int.reduceDiv, hlt', hix, hc, c_model_Model_place_1, e_place_1]
      rfl
    · (repeat (first | exact Fr.refl _ | refine Fr.push ?_ _ | refine Fr.set ?_ _ _ (by intro h; first | omega | (simp only [go_sem] at h; omega))))
  · have hlt' : ¬ (p : Int) < (l.length : Int) := by omega
    have his : isP l key p = false := by unfold isP; rw [List.getElem?_eq_none (by omega)]
    rw [his]
    apply pure_of _ (d_slices_BinarySearchFunc_string _ _ _ H) rfl
    rotate_left 2
    · simp (disch := first | with_reducible rfl | assumption | omega | rfl | (simp only [go_sem]; first | done | omega)) only [go_sem, ↓reduceIte, reduceCtorEq, Nat.reduceEqDiff, Nat.reduceAdd, Nat.reduceSub, Nat.reduceMul, Nat.reduceDiv, Nat.reduceMod, Nat.reduceLeDiff, Nat.reduceLT, Nat.reduceBEq, Int.reduceEq, Int.reduceBEq, Int.reduceBNe, Int.reduceLT, Int.reduceLE, Int.reduceAdd, Int.reduceSub, Int.reduceNeg, Int.reduceToNat, Int.reducePow, Nat.reducePow, Int.reduceMul, Int.reduceDiv, ↓s_slices_BinarySearchFunc_string, hlen]
      rw [hz, hloop _ (l.length - 0) 0 l.length rfl (by omega) hpl (by omega)]
      simp (disch := first | with_reducible rfl | assumption | omega | rfl | (simp only [go_sem]; first | done | omega)) only [go_sem, ↓reduceIte, reduceCtorEq, Nat.reduceEqDiff, Nat.reduceAdd, Nat.reduceSub, Nat.reduceMul, Nat.reduceDiv, Nat.reduceMod, Nat.reduceLeDiff, Nat.reduceLT, Nat.reduceBEq, Int.reduceEq, Int.reduceBEq, Int.reduceBNe, Int.reduceLT, Int.reduceLE, Int.reduceAdd, Int.reduceSub, Int.reduceNeg, Int.reduceToNat, Int.reducePow, Nat.reducePow, Int.reduceMul, Int.reduceDiv, hlt']
      rfl
    · (repeat (first | exact Fr.refl _ | refine Fr.push ?_ _ | refine Fr.set ?_ _ _ (by intro h; first | omega | (simp only [go_sem] at h; omega))))

/-! ### The check -/
theorem q_check_1 (a : ByteArray) (H : AHeap) : CC F.model_check_1 [.string a] H = some (.bool (decide (40 < (bl a).length)), H) := by
  have e : decide ((40 : Int) < ((bl a).length : Int)) = decide (40 < (bl a).length) := decide_eq_decide.2 (by omega)
  apply pure_of _ (d_model_check_1 _ H) rfl
  rotate_left 2
  · simp (disch := first | with_reducible rfl | assumption | omega | rfl | (simp only [go_sem]; first | done | omega)) only [go_sem, ↓reduceIte, reduceCtorEq, Nat.reduceEqDiff, Nat.reduceAdd, Nat.reduceSub, Nat.reduceMul, Nat.reduceDiv, Nat.reduceMod, Nat.reduceLeDiff, Nat.reduceLT, Nat.reduceBEq, Int.reduceEq, Int.reduceBEq, Int.reduceBNe, Int.reduceLT, Int.reduceLE, Int.reduceAdd, Int.reduceSub, Int.reduceNeg, Int.reduceToNat, Int.reducePow, Nat.reducePow, Int.reduceMul, Int.reduceDiv, ↓s_model_check_1, e]
    rfl
  · (repeat (first | exact Fr.refl _ | refine Fr.push ?_ _ | refine Fr.set ?_ _ _ (by intro h; first | omega | (simp only [go_sem] at h; omega))))
@[go_sem, go_sem ↓] theorem e_check_1 (a : ByteArray) (H : AHeap) {k : Value → AHeap → Res} : enterK CC F.model_check_1 [.string a] H k = k (.bool (decide (40 < (bl a).length))) H := enterK_eq (q_check_1 a H)

def idxLong : List ByteArray → Nat → Int
  | [], _ => -1
  | a :: l, i => if 40 < (bl a).length then i else idxLong l (i + 1)

theorem l_indexS (l : List ByteArray) (v : Value) (H : AHeap) (hr : Rd EStr H v l) (hl : l.length < 4611686018427387904) (K : K) : ∀ (m : List ByteArray) (i : Nat), l.drop i = m → i ≤ l.length →
    l_slices_IndexFunc_string_0 v (.func (.func F.model_check_1) #[] #[]) (.int .i64 l.length) (.int .i64 i) H (blkK [] 0 (seqK (fun _ h2 => K .ret [(4, .int .i64 (-1))] h2) K)) = K .ret [(4, .int .i64 (idxLong m i))] H
  | [], i, hm, hi => by
    have h : l.length ≤ i := List.drop_eq_nil_iff.1 hm
    have hlt : ¬ (i : Int) < (l.length : Int) := by omega
    rw [r_slices_IndexFunc_string_0]
    simp (disch := first | with_reducible rfl | assumption | omega | rfl | (simp only [go_sem]; first | done | omega)) only [go_sem, ↓reduceIte, reduceCtorEq, Nat.reduceEqDiff, Nat.reduceAdd, Nat.reduceSub, Nat.reduceMul, Nat.reduceDiv, Nat.reduceMod, Nat.reduceLeDiff, Nat.reduceLT, Nat.reduceBEq, Int.reduceEq, Int.reduceBEq, Int.reduceBNe, Int.reduceLT, Int.reduceLE, Int.reduceAdd, Int.reduceSub, Int.reduceNeg, Int.reduceToNat, Int.reducePow, Nat.reducePow, Int.reduceMul, Int.reduceDiv, ↓s_slices_IndexFunc_string_b0, hlt, idxLong]
  | a :: m, i, hm, hi => by
    have h : i < l.length := by
      rcases Nat.lt_or_ge i l.length with h | h
      · exact h
      · rw [List.drop_eq_nil_of_le h] at hm; cases hm
    have hlt : (i : Int) < (l.length : Int) := by omega
    have ha : l[i] = a := by rw [List.drop_eq_getElem_cons h] at hm; exact (List.cons.inj hm).1
    have hm' : l.drop (i + 1) = m := by rw [List.drop_eq_getElem_cons h] at hm; exact (List.cons.inj hm).2
    have ih := l_indexS l v H hr hl K m (i + 1) hm' h
    obtain ⟨b, o, hix, hb, hc, _⟩ := hr.ix (q := .i64) h
    rw [ha] at hc
    have hix : ixS 1 v (.int .i64 i) = some (.pointer (some ⟨b, o, none⟩)) := hix
    have hc : cellB (H.f b) o = some (.string a) := cutB_cell hc (i := 0) (by decide)
    rw [Int.natCast_add] at ih
    rw [r_slices_IndexFunc_string_0]
    by_cases he : 40 < (bl a).length
    · have hd : decide (40 < (bl a).length) = true := decide_eq_true he
      rw [idxLong, if_pos he]
      simp (disch := first | with_reducible rfl | assumption | omega | rfl | (simp only [go_sem]; first | done | omega)) only [go_sem, ↓reduceIte, reduceCtorEq, Nat.reduceEqDiff, Nat.reduceAdd, Nat.reduceSub, Nat.reduceMul, Nat.reduceDiv, Nat.reduceMod, Nat.reduceLeDiff, Nat.reduceLT, Nat.reduceBEq, Int.reduceEq, Int.reduceBEq, Int.reduceBNe, Int.reduceLT, Int.reduceLE, Int.reduceAdd, Int.reduceSub, Int.reduceNeg, Int.reduceToNat, Int.reducePow, Nat.reducePow, Int.reduceMul, Int.reduceDiv, ↓s_slices_IndexFunc_string_b0, hlt, hix, hc, c_model_check_1, e_check_1, hd]
    · have hd : decide (40 < (bl a).length) = false := decide_eq_false he
      rw [idxLong, if_neg he]
      simp (disch := first | with_reducible rfl | assumption | omega | rfl | (simp only [go_sem]; first | done | omega)) only [go_sem, ↓reduceIte, reduceCtorEq, Nat.reduceEqDiff, Nat.reduceAdd, Nat.reduceSub, Nat.reduceMul, Nat.reduceDiv, Nat.reduceMod, Nat.reduceLeDiff, Nat.reduceLT, Nat.reduceBEq, Int.reduceEq, Int.reduceBEq, Int.reduceBNe, Int.reduceLT, Int.reduceLE, Int.reduceAdd, Int.reduceSub, Int.reduceNeg, Int.reduceToNat, Int.reducePow, Nat.reducePow, Int.reduceMul, Int.reduceDiv, ↓s_slices_IndexFunc_string_b0, hlt, hix, hc, c_model_check_1, e_check_1, hd]
      exact ih

theorem idxLong_iff : ∀ (l : List ByteArray) (i : Nat), (0 ≤ idxLong l i) = (∃ a, a ∈ l ∧ 40 < (bl a).length)
  | [], i => by simp [idxLong]
  | a :: l, i => by
    rw [idxLong]
    by_cases h : 40 < (bl a).length
    · rw [if_pos h]; simp [h]
    · rw [if_neg h, idxLong_iff l (i + 1)]; simp [h]

/-- The error of a key and values. -/
def chk (key : ByteArray) (vs : List ByteArray) : Int :=
  if bl key = [] then 2 else if 24 < (bl key).length ∨ (vs.any fun a => decide (40 < (bl a).length)) = true then 5 else 0

theorem q_contains (l : List ByteArray) (v : Value) (H : AHeap) (hr : Rd EStr H v l) (hl : l.length < 4611686018427387904) :
    CC F.slices_ContainsFunc_string [v, .func (.func F.model_check_1) #[] #[]] H = some (.bool (l.any fun a => decide (40 < (bl a).length)), H) := by
  have hlen := hr.lenS
  have hix : CC F.slices_IndexFunc_string [v, .func (.func F.model_check_1) #[] #[]] H = some (.int .i64 (idxLong l 0), H) := by
    apply pure_of _ (d_slices_IndexFunc_string _ _ H) rfl
    rotate_left 2
    · simp (disch := first | with_reducible rfl | assumption | omega | rfl | (simp only [go_sem]; first | done | omega)) only [go_sem, ↓reduceIte, reduceCtorEq, Nat.reduceEqDiff, Nat.reduceAdd, Nat.reduceSub, Nat.reduceMul, Nat.reduceDiv, Nat.reduceMod, Nat.reduceLeDiff, Nat.reduceLT, Nat.reduceBEq, Int.reduceEq, Int.reduceBEq, Int.reduceBNe, Int.reduceLT, Int.reduceLE, Int.reduceAdd, Int.reduceSub, Int.reduceNeg, Int.reduceToNat, Int.reducePow, Nat.reducePow, Int.reduceMul, Int.reduceDiv, ↓s_slices_IndexFunc_string, hlen]
      exact l_indexS l v H hr hl (endK Tryz.prog [.tmp 4]) l 0 (by simp) (by omega)
    · (repeat (first | exact Fr.refl _ | refine Fr.push ?_ _ | refine Fr.set ?_ _ _ (by intro h; first | omega | (simp only [go_sem] at h; omega))))
  have e : decide (0 ≤ idxLong l 0) = l.any fun a => decide (40 < (bl a).length) := by
    rw [Bool.eq_iff_iff, decide_eq_true_iff, idxLong_iff, List.any_eq_true]
    simp
  apply pure_of _ (d_slices_ContainsFunc_string _ _ H) rfl
  rotate_left 2
  · simp (disch := first | with_reducible rfl | assumption | omega | rfl | (simp only [go_sem]; first | done | omega)) only [go_sem, ↓reduceIte, reduceCtorEq, Nat.reduceEqDiff, Nat.reduceAdd, Nat.reduceSub, Nat.reduceMul, Nat.reduceDiv, Nat.reduceMod, Nat.reduceLeDiff, Nat.reduceLT, Nat.reduceBEq, Int.reduceEq, Int.reduceBEq, Int.reduceBNe, Int.reduceLT, Int.reduceLE, Int.reduceAdd, Int.reduceSub, Int.reduceNeg, Int.reduceToNat, Int.reducePow, Nat.reducePow, Int.reduceMul, Int.reduceDiv, ↓s_slices_ContainsFunc_string, ↓enterK_eq hix, enterK_eq hix, e]
    rfl
  · (repeat (first | exact Fr.refl _ | refine Fr.push ?_ _ | refine Fr.set ?_ _ _ (by intro h; first | omega | (simp only [go_sem] at h; omega))))

theorem q_check (key : ByteArray) (l : List ByteArray) (v : Value) (H : AHeap) (hr : Rd EStr H v l) (hl : l.length < 4611686018427387904) :
    CC F.model_check [.string key, v] H = some (.int .i64 (chk key l), H) := by
  have hcon := q_contains l v H hr hl
  unfold chk
  by_cases h1 : bl key = []
  · have hd : decide (bl key = []) = true := decide_eq_true h1
    rw [if_pos h1]
    apply pure_of _ (d_model_check _ _ H) rfl
    rotate_left 2
    · simp (disch := first | with_reducible rfl | assumption | omega | rfl | (simp only [go_sem]; first | done | omega)) only [go_sem, ↓reduceIte, reduceCtorEq, Nat.reduceEqDiff, Nat.reduceAdd, Nat.reduceSub, Nat.reduceMul, Nat.reduceDiv, Nat.reduceMod, Nat.reduceLeDiff, Nat.reduceLT, Nat.reduceBEq, Int.reduceEq, Int.reduceBEq, Int.reduceBNe, Int.reduceLT, Int.reduceLE, Int.reduceAdd, Int.reduceSub, Int.reduceNeg, Int.reduceToNat, Int.reducePow, Nat.reducePow, Int.reduceMul, Int.reduceDiv, ↓s_model_check, hd]
      rfl
    · (repeat (first | exact Fr.refl _ | refine Fr.push ?_ _ | refine Fr.set ?_ _ _ (by intro h; first | omega | (simp only [go_sem] at h; omega))))
  · have hd : decide (bl key = []) = false := decide_eq_false h1
    rw [if_neg h1]
    by_cases h2 : 24 < (bl key).length
    · have hd2 : decide ((24 : Int) < ((bl key).length : Int)) = true := decide_eq_true (by omega)
      rw [if_pos (.inl h2)]
      apply pure_of _ (d_model_check _ _ H) rfl
      rotate_left 2
      · simp (disch := first | with_reducible rfl | assumption | omega | rfl | (simp only [go_sem]; first | done | omega)) only [go_sem, ↓reduceIte, reduceCtorEq, Nat.reduceEqDiff, Nat.reduceAdd, Nat.reduceSub, Nat.reduceMul, Nat.reduceDiv, Nat.reduceMod, Nat.reduceLeDiff, Nat.reduceLT, Nat.reduceBEq, Int.reduceEq, Int.reduceBEq, Int.reduceBNe, Int.reduceLT, Int.reduceLE, Int.reduceAdd, Int.reduceSub, Int.reduceNeg, Int.reduceToNat, Int.reducePow, Nat.reducePow, Int.reduceMul, Int.reduceDiv, ↓s_model_check, hd, hd2]
        rfl
      · (repeat (first | exact Fr.refl _ | refine Fr.push ?_ _ | refine Fr.set ?_ _ _ (by intro h; first | omega | (simp only [go_sem] at h; omega))))
    · have hd2 : decide ((24 : Int) < ((bl key).length : Int)) = false := decide_eq_false (by omega)
      cases hany : l.any fun a => decide (40 < (bl a).length) with
      | true =>
        rw [hany] at hcon
        rw [if_pos (.inr rfl)]
        apply pure_of _ (d_model_check _ _ H) rfl
        rotate_left 2
        · simp (disch := first | with_reducible rfl | assumption | omega | rfl | (simp only [go_sem]; first | done | omega)) only [go_sem, ↓reduceIte, reduceCtorEq, Nat.reduceEqDiff, Nat.reduceAdd, Nat.reduceSub, Nat.reduceMul, Nat.reduceDiv, Nat.reduceMod, Nat.reduceLeDiff, Nat.reduceLT, Nat.reduceBEq, Int.reduceEq, Int.reduceBEq, Int.reduceBNe, Int.reduceLT, Int.reduceLE, Int.reduceAdd, Int.reduceSub, Int.reduceNeg, Int.reduceToNat, Int.reducePow, Nat.reducePow, Int.reduceMul, Int.reduceDiv, ↓s_model_check, hd, hd2, ↓enterK_eq hcon, enterK_eq hcon]
          rfl
        · (repeat (first | exact Fr.refl _ | refine Fr.push ?_ _ | refine Fr.set ?_ _ _ (by intro h; first | omega | (simp only [go_sem] at h; omega))))
      | false =>
        rw [hany] at hcon
        rw [if_neg (by simp; omega)]
        apply pure_of _ (d_model_check _ _ H) rfl
        rotate_left 2
        · simp (disch := first | with_reducible rfl | assumption | omega | rfl | (simp only [go_sem]; first | done | omega)) only [go_sem, ↓reduceIte, reduceCtorEq, Nat.reduceEqDiff, Nat.reduceAdd, Nat.reduceSub, Nat.reduceMul, Nat.reduceDiv, Nat.reduceMod, Nat.reduceLeDiff, Nat.reduceLT, Nat.reduceBEq, Int.reduceEq, Int.reduceBEq, Int.reduceBNe, Int.reduceLT, Int.reduceLE, Int.reduceAdd, Int.reduceSub, Int.reduceNeg, Int.reduceToNat, Int.reducePow, Nat.reducePow, Int.reduceMul, Int.reduceDiv, ↓s_model_check, hd, hd2, ↓enterK_eq hcon, enterK_eq hcon]
          rfl
        · (repeat (first | exact Fr.refl _ | refine Fr.push ?_ _ | refine Fr.set ?_ _ _ (by intro h; first | omega | (simp only [go_sem] at h; omega))))

/-! ### The map -/
def MdlT (t : TypeId) (H : AHeap) (b : Nat) (l : List Pr) : Prop := ∃ v, H.f b = .cells [v] t true ∧ b < H.n ∧ Own EPr H T.api_Pair v l ∧ blockOf v ≠ some b
abbrev Mdl := MdlT T.model_Model

theorem MdlT.keep {t : TypeId} {H H' : AHeap} {S : Nat → Prop} {b : Nat} {l : List Pr} (r : MdlT t H b l) (h : Fr S H H') (hb : ¬ S b) (hv : ∀ v, H.f b = .cells [v] t true → Off S v) : MdlT t H' b l := by
  obtain ⟨v, h1, h2, h3, h4⟩ := r
  exact ⟨v, by rw [h.f h2 hb]; exact h1, Nat.lt_of_lt_of_le h2 h.n, h3.keep h (hv v h1), h4⟩
theorem MdlT.still {t : TypeId} {H H' : AHeap} {b : Nat} {l : List Pr} (r : MdlT t H b l) (h : Still H H') : MdlT t H' b l := r.keep h (fun h => h) fun _ _ _ _ h => h

def Ok (H : AHeap) : Prop := ∀ b, H.ver b < H.clk
theorem Ok.fr {S : Nat → Prop} {H H' : AHeap} (h : Ok H) (f : Fr S H H') : Ok H' := f.ok h
theorem H0_ok : Ok H0 := fun _ => Nat.zero_lt_one

/-- The blocks of a map. -/
def MBT (t : TypeId) (H : AHeap) (b : Nat) : Nat → Prop := fun c => c = b ∨ ∃ v, H.f b = .cells [v] t true ∧ blockOf v = some c
abbrev MB := MBT T.model_Model

theorem q_place (b : Nat) (l : List Pr) (key : ByteArray) (H : AHeap) (r : Mdl H b l) (hl : l.length < 1152921504606846976) (p : Nat) (hp : PosP l key p) :
    CC F.model_Model_place [.pointer (some ⟨b, 0, none⟩), .string key] H = some (.tuple #[.int .i64 p, .bool (isP l key p)], H) := by
  obtain ⟨v, h1, h2, h3, h4⟩ := r
  have hbs := q_bsP l v key H h3.rd hl p hp
  apply pure_of _ (d_model_Model_place _ _ H) rfl
  rotate_left 2
  · simp (disch := first | with_reducible rfl | assumption | omega | rfl | (simp only [go_sem]; first | done | omega)) only [go_sem, ↓reduceIte, reduceCtorEq, Nat.reduceEqDiff, Nat.reduceAdd, Nat.reduceSub, Nat.reduceMul, Nat.reduceDiv, Nat.reduceMod, Nat.reduceLeDiff, Nat.reduceLT, Nat.reduceBEq, Int.reduceEq, Int.reduceBEq, Int.reduceBNe, Int.reduceLT, Int.reduceLE, Int.reduceAdd, Int.reduceSub, Int.reduceNeg, Int.reduceToNat, Int.reducePow, Nat.reducePow, Int.reduceMul, Int.reduceDiv, ↓s_model_Model_place, h1, ↓enterK_eq hbs, enterK_eq hbs]
    rfl
  · (repeat (first | exact Fr.refl _ | refine Fr.push ?_ _ | refine Fr.set ?_ _ _ (by intro h; first | omega | (simp only [go_sem] at h; omega))))

theorem q_at_bad (b : Nat) (key : ByteArray) (vs : List ByteArray) (v : Value) (H : AHeap) (hv : Rd EStr H v vs) (hvl : vs.length < 4611686018427387904) (hc : chk key vs ≠ 0) :
    CC F.model_Model_at [.pointer (some ⟨b, 0, none⟩), .string key, v] H = some (.tuple #[.int .i64 0, .bool false, .int .i64 (chk key vs)], H) := by
  have hck := q_check key vs v H hv hvl
  generalize chk key vs = e at hck hc
  apply pure_of _ (d_model_Model_at _ _ _ H) rfl
  rotate_left 2
  · simp (disch := first | with_reducible rfl | assumption | omega | rfl | (simp only [go_sem]; first | done | omega)) only [go_sem, ↓reduceIte, reduceCtorEq, Nat.reduceEqDiff, Nat.reduceAdd, Nat.reduceSub, Nat.reduceMul, Nat.reduceDiv, Nat.reduceMod, Nat.reduceLeDiff, Nat.reduceLT, Nat.reduceBEq, Int.reduceEq, Int.reduceBEq, Int.reduceBNe, Int.reduceLT, Int.reduceLE, Int.reduceAdd, Int.reduceSub, Int.reduceNeg, Int.reduceToNat, Int.reducePow, Nat.reducePow, Int.reduceMul, Int.reduceDiv, ↓s_model_Model_at, mp_some, ↓enterK_eq hck, enterK_eq hck, hc]
    rfl
  · (repeat (first | exact Fr.refl _ | refine Fr.push ?_ _ | refine Fr.set ?_ _ _ (by intro h; first | omega | (simp only [go_sem] at h; omega))))

theorem q_at (b : Nat) (l : List Pr) (key : ByteArray) (vs : List ByteArray) (v : Value) (H : AHeap) (r : Mdl H b l) (hl : l.length < 1152921504606846976) (p : Nat) (hp : PosP l key p) (hv : Rd EStr H v vs) (hvl : vs.length < 4611686018427387904) (hc : chk key vs = 0) :
    CC F.model_Model_at [.pointer (some ⟨b, 0, none⟩), .string key, v] H = some (.tuple #[.int .i64 p, .bool (isP l key p), .int .i64 0], H) := by
  have hck := q_check key vs v H hv hvl
  rw [hc] at hck
  have hpl := q_place b l key H r hl p hp
  apply pure_of _ (d_model_Model_at _ _ _ H) rfl
  rotate_left 2
  · simp (disch := first | with_reducible rfl | assumption | omega | rfl | (simp only [go_sem]; first | done | omega)) only [go_sem, ↓reduceIte, reduceCtorEq, Nat.reduceEqDiff, Nat.reduceAdd, Nat.reduceSub, Nat.reduceMul, Nat.reduceDiv, Nat.reduceMod, Nat.reduceLeDiff, Nat.reduceLT, Nat.reduceBEq, Int.reduceEq, Int.reduceBEq, Int.reduceBNe, Int.reduceLT, Int.reduceLE, Int.reduceAdd, Int.reduceSub, Int.reduceNeg, Int.reduceToNat, Int.reducePow, Nat.reducePow, Int.reduceMul, Int.reduceDiv, ↓s_model_Model_at, mp_some, ↓enterK_eq hck, enterK_eq hck, c_model_Model_place, ↓enterK_eq hpl, enterK_eq hpl]
    rfl
  · (repeat (first | exact Fr.refl _ | refine Fr.push ?_ _ | refine Fr.set ?_ _ _ (by intro h; first | omega | (simp only [go_sem] at h; omega))))

def getP (l : List Pr) (key : ByteArray) (p : Nat) : Value := if isP l key p = true then .tuple #[.string ((l[p]?).elim (mk []) Pr.value), .int .i64 0] else .tuple #[.string (mk []), .int .i64 9]
theorem q_Get_bad (b : Nat) (key : ByteArray) (H : AHeap) (hc : chk key [] ≠ 0) : CC F.model_Model_Get [.pointer (some ⟨b, 0, none⟩), .string key] H = some (.tuple #[.string (mk []), .int .i64 (chk key [])], H) := by
  have hat := q_at_bad b key [] (.slice none 0 0) H (.inl ⟨rfl, rfl⟩) (by simp) hc
  generalize chk key [] = e at hat hc
  apply pure_of _ (d_model_Model_Get _ _ H) rfl
  rotate_left 2
  · simp (disch := first | with_reducible rfl | assumption | omega | rfl | (simp only [go_sem]; first | done | omega)) only [go_sem, ↓reduceIte, reduceCtorEq, Nat.reduceEqDiff, Nat.reduceAdd, Nat.reduceSub, Nat.reduceMul, Nat.reduceDiv, Nat.reduceMod, Nat.reduceLeDiff, Nat.reduceLT, Nat.reduceBEq, Int.reduceEq, Int.reduceBEq, Int.reduceBNe, Int.reduceLT, Int.reduceLE, Int.reduceAdd, Int.reduceSub, Int.reduceNeg, Int.reduceToNat, Int.reducePow, Nat.reducePow, Int.reduceMul, Int.reduceDiv, ↓s_model_Model_Get, ↓enterK_eq hat, enterK_eq hat, hc]
    rfl
  · (repeat (first | exact Fr.refl _ | refine Fr.push ?_ _ | refine Fr.set ?_ _ _ (by intro h; first | omega | (simp only [go_sem] at h; omega))))

/-- What is gotten: the value and the error. -/

theorem q_Get (b : Nat) (l : List Pr) (key : ByteArray) (H : AHeap) (r : Mdl H b l) (hl : l.length < 1152921504606846976) (p : Nat) (hp : PosP l key p) (hc : chk key [] = 0) :
    CC F.model_Model_Get [.pointer (some ⟨b, 0, none⟩), .string key] H = some (getP l key p, H) := by
  have hat := q_at b l key [] (.slice none 0 0) H r hl p hp (.inl ⟨rfl, rfl⟩) (by simp) hc
  obtain ⟨v, h1, h2, h3, h4⟩ := r
  unfold getP
  cases his : isP l key p with
  | false =>
    rw [his] at hat
    simp only [Bool.false_eq_true, if_false]
    apply pure_of _ (d_model_Model_Get _ _ H) rfl
    rotate_left 2
    · simp (disch := first | with_reducible rfl | assumption | omega | rfl | (simp only [go_sem]; first | done | omega)) only [go_sem, ↓reduceIte, reduceCtorEq, Nat.reduceEqDiff, Nat.reduceAdd, Nat.reduceSub, Nat.reduceMul, Nat.reduceDiv, Nat.reduceMod, Nat.reduceLeDiff, Nat.reduceLT, Nat.reduceBEq, Int.reduceEq, Int.reduceBEq, Int.reduceBNe, Int.reduceLT, Int.reduceLE, Int.reduceAdd, Int.reduceSub, Int.reduceNeg, Int.reduceToNat, Int.reducePow, Nat.reducePow, Int.reduceMul, Int.reduceDiv, ↓s_model_Model_Get, ↓enterK_eq hat, enterK_eq hat]
      rfl
    · (repeat (first | exact Fr.refl _ | refine Fr.push ?_ _ | refine Fr.set ?_ _ _ (by intro h; first | omega | (simp only [go_sem] at h; omega))))
  | true =>
    rw [his] at hat
    have hlt : p < l.length := by
      rcases Nat.lt_or_ge p l.length with h | h
      · exact h
      · unfold isP at his; rw [List.getElem?_eq_none h] at his; cases his
    obtain ⟨bb, o, hix, hb, hcc, _⟩ := h3.rd.ix (q := .i64) hlt
    have hix : ixS 2 v (.int .i64 p) = some (.pointer (some ⟨bb, o, none⟩)) := hix
    have hcc : cellB (H.f bb) (o + 1) = some (.string l[p].value) := cutB_cell hcc (i := 1) (by decide)
    simp only [if_true, List.getElem?_eq_getElem hlt, Option.elim]
    apply pure_of _ (d_model_Model_Get _ _ H) rfl
    rotate_left 2
    · simp (disch := first | with_reducible rfl | assumption | omega | rfl | (simp only [go_sem]; first | done | omega)) only [go_sem, ↓reduceIte, reduceCtorEq, Nat.reduceEqDiff, Nat.reduceAdd, Nat.reduceSub, Nat.reduceMul, Nat.reduceDiv, Nat.reduceMod, Nat.reduceLeDiff, Nat.reduceLT, Nat.reduceBEq, Int.reduceEq, Int.reduceBEq, Int.reduceBNe, Int.reduceLT, Int.reduceLE, Int.reduceAdd, Int.reduceSub, Int.reduceNeg, Int.reduceToNat, Int.reducePow, Nat.reducePow, Int.reduceMul, Int.reduceDiv, ↓s_model_Model_Get, ↓enterK_eq hat, enterK_eq hat, h1, hix, hcc]
      rfl
    · (repeat (first | exact Fr.refl _ | refine Fr.push ?_ _ | refine Fr.set ?_ _ _ (by intro h; first | omega | (simp only [go_sem] at h; omega))))

end Go.Proofs.YtlfpjndbpclnnaaGreatDoor

/-
  The plain map: set, Put, Insert, Delete, Swap.
  Conditions: none. By an AI agent.
-/
set_option maxRecDepth 10000
set_option linter.unusedSimpArgs false
set_option linter.unusedVariables false
namespace Go.Proofs.YtlfpjndbpclnnaaGreatDoor
open Go Eng

theorem srcOne {a : Pr} {b : Nat} {H : AHeap} (h : H.f b = .cells [.string a.key, .string a.value] T.api_Pair true) : srcS 2 (.slice (some ⟨b, 0, none⟩) 1 2) H = some ([a].length, EPr.cells [a]) := by
  unfold srcS
  simp only [cut_b, h, Nat.one_ne_zero, if_false]
  rfl

/-- Writing an element of a list of its own. -/
theorem Own.write {l : List Pr} {v : Value} {H : AHeap} (r : Own EPr H T.api_Pair v l) {i : Nat} (hi : i < l.length) (a : Pr) :
    ∃ b o H', ixS 2 v (.int .i64 (i : Int)) = some (.pointer (some ⟨b, o, none⟩)) ∧ setB H b (wrL (H.f b) o [.string a.key, .string a.value]) = some H' ∧ Own EPr H' T.api_Pair v (l.set i a) ∧ blockOf v = some b ∧ b < H.n ∧
      H'.n = H.n ∧ Fr (fun c => c = b) H H' ∧ H'.ver b = H.clk := by
  rcases r with ⟨h, _⟩ | ⟨h, _⟩ | ⟨b, o, c, xs, rfl, hlc, hb, hf, ho, hx⟩
  · subst h; simp at hi
  · subst h; simp at hi
  · have hw : EPr.w = 2 := rfl
    rw [hw] at ho hx
    have hmul : l.length * 2 ≤ c * 2 := Nat.mul_le_mul_right _ hlc
    refine ⟨b, o + i * 2, H.set b (.cells (spl xs (o + i * 2) [.string a.key, .string a.value]) T.api_Pair true), ixS_nat hi, ?_, ?_, rfl, hb, rfl, Fr.set (Fr.refl H) _ _ fun _ => rfl, set_v_eq⟩
    · rw [hf, wrL_c (by simp; omega) rfl, setB_s]
    · refine .inr (.inr ⟨b, o, c, _, by simp, by simpa using hlc, by simpa using hb, set_f_eq, by rw [spl_length, hw, ho], ?_⟩)
      rw [List.length_set, hw]
      apply List.ext_getElem?
      intro j
      have hcell : ∀ (l : List Pr) (k m : Nat), m < 2 → (EPr.cells l)[k * 2 + m]? = (l[k]?).bind fun a => (EPr.enc a)[m]? := by
        intro l k m hm
        by_cases hk : k < l.length
        · have := EPr.cells_elem l k hk
          rw [hw] at this
          rw [List.getElem?_eq_getElem hk, Option.bind_some, ← this, List.getElem?_take_of_lt hm, List.getElem?_drop]
        · rw [List.getElem?_eq_none (by rw [EPr.cells_len, hw]; omega), List.getElem?_eq_none (by omega)]
          rfl
      by_cases hj : j < l.length * 2
      · rw [List.getElem?_take_of_lt hj, List.getElem?_drop, spl_get _ _ _ _ (by simp; omega)]
        have hdm : j = (j / 2) * 2 + j % 2 := by omega
        rw [hdm, hcell _ _ _ (by omega)]
        have hold : xs[o + j]? = (l[j / 2]?).bind fun a => (EPr.enc a)[j % 2]? := by
          rw [← hcell _ _ _ (by omega), ← hdm, ← hx, List.getElem?_take_of_lt hj, List.getElem?_drop]
        by_cases h1 : j / 2 = i
        · rw [if_pos (by simp; omega), ← h1, List.getElem?_set_self (by omega), Option.bind_some]
          rw [show o + (j / 2 * 2 + j % 2) - (o + j / 2 * 2) = j % 2 by omega]
          rfl
        · rw [if_neg (by simp; omega), List.getElem?_set_ne (by omega), ← hdm, hold]
      · rw [List.getElem?_eq_none (by simp only [List.length_take]; omega), List.getElem?_eq_none (by rw [EPr.cells_len, List.length_set, hw]; omega)]

/-- What a call may turn that works on a map: the map's blocks; and it has new ones at most. -/
structure UpT (t : TypeId) (H : AHeap) (b : Nat) (H' : AHeap) : Prop where
  fr : Fr (MBT t H b) H H'
  mb : ∀ c, MBT t H' b c → MBT t H b c ∨ H.n ≤ c
abbrev Up := UpT T.model_Model
theorem UpT.refl {t : TypeId} (H : AHeap) (b : Nat) : UpT t H b H := ⟨Fr.refl H, fun _ h => .inl h⟩
theorem Up.refl (H : AHeap) (b : Nat) : Up H b H := UpT.refl H b
/-- From the map's cell before and behind. -/
theorem UpT.of {t : TypeId} {H H' : AHeap} {b : Nat} {v v' : Value} (h1 : H.f b = .cells [v] t true) (f : Fr (MBT t H b) H H') (h2 : H'.f b = .cells [v'] t true) (h : ∀ c, blockOf v' = some c → blockOf v = some c ∨ H.n ≤ c) : UpT t H b H' := by
  refine ⟨f, fun c hc => ?_⟩
  rcases hc with hc | ⟨u, hu, hb⟩
  · exact .inl (.inl hc)
  · rw [h2] at hu
    cases hu
    exact (h c hb).imp (fun h => .inr ⟨v, h1, h⟩) id

/-- set, where the key is there. -/
theorem q_set_is (b : Nat) (l : List Pr) (i : Nat) (a : Pr) (H : AHeap) (ok : Ok H) (r : Mdl H b l) (hi : i < l.length) :
    ∃ H', CC F.model_Model_set [.pointer (some ⟨b, 0, none⟩), .int .i64 (i : Int), .bool true, .agg #[.string a.key, .string a.value]] H = some (.int .i64 0, H') ∧ Mdl H' b (l.set i a) ∧ Up H b H' := by
  obtain ⟨v, h1, h2, h3, h4⟩ := r
  let H1 : AHeap := H.push (.cells [.string a.key, .string a.value] T.api_Pair true)
  have s1 : Still H H1 := (Fr.refl H).push _
  have o1 : Own EPr H1 T.api_Pair v l := h3.still s1
  obtain ⟨bb, o, H2, hix, hw, o2, hbv, hb, hn2, hf2, hv2⟩ := Own.write o1 hi a
  have hbn : bb < H.n := h3.blk hbv
  have fbb : H1.f bb = H.f bb := s1.f hbn (fun h => h)
  have hw : setB (H.push (.cells [.string a.key, .string a.value] T.api_Pair true)) bb (wrL (H.f bb) o [.string a.key, .string a.value]) = some H2 := by rw [← fbb]; exact hw
  have hne : b ≠ bb := fun h => h4 (by rw [h]; exact hbv)
  have hfr : Fr (MB H b) H H2 := Fr.then (S := MB H b) s1.still hf2 fun c _ h => by subst h; exact .inr ⟨v, h1, hbv⟩
  have hfb : H2.f b = .cells [v] T.model_Model true := by rw [hf2.f (Nat.lt_of_lt_of_le h2 s1.n) hne, s1.f h2 (fun h => h), h1]
  refine ⟨H2, (d_model_Model_set _ _ _ _ H (r := (.int .i64 0, H2)) ?_).trans (congrArg some (tidy_turned hbn (ok bb) ?_)), ⟨v, hfb, by rw [hn2]; exact Nat.lt_of_lt_of_le h2 s1.n, o2, h4⟩, UpT.of h1 hfr hfb fun c h => .inl h⟩
  · simp (disch := first | with_reducible rfl | assumption | omega | rfl | (simp only [go_sem]; first | done | omega)) only [go_sem, ↓reduceIte, reduceCtorEq, Nat.reduceEqDiff, Nat.reduceAdd, Nat.reduceSub, Nat.reduceMul, Nat.reduceDiv, Nat.reduceMod, Nat.reduceLeDiff, Nat.reduceLT, Nat.reduceBEq, Int.reduceEq, Int.reduceBEq, Int.reduceBNe, Int.reduceLT, Int.reduceLE, Int.reduceAdd, Int.reduceSub, Int.reduceNeg, Int.reduceToNat, Int.reducePow, Nat.reducePow, Int.reduceMul, Int.reduceDiv, ↓s_model_Model_set, h1, hix, hw]
  · rw [hv2]; exact s1.clk

/-- set, where there is no room. -/
theorem q_set_full (b : Nat) (l : List Pr) (i : Nat) (a : Pr) (H : AHeap) (r : Mdl H b l) (hl : l.length = 20000) :
    CC F.model_Model_set [.pointer (some ⟨b, 0, none⟩), .int .i64 (i : Int), .bool false, .agg #[.string a.key, .string a.value]] H = some (.int .i64 7, H) := by
  obtain ⟨v, h1, h2, h3, h4⟩ := r
  have hlen := h3.rd.lenS
  have he : (l.length : Int) = 20000 := by omega
  rw [he] at hlen
  apply pure_of _ (d_model_Model_set _ _ _ _ H) rfl
  rotate_left 2
  · simp (disch := first | with_reducible rfl | assumption | omega | rfl | (simp only [go_sem]; first | done | omega)) only [go_sem, ↓reduceIte, reduceCtorEq, Nat.reduceEqDiff, Nat.reduceAdd, Nat.reduceSub, Nat.reduceMul, Nat.reduceDiv, Nat.reduceMod, Nat.reduceLeDiff, Nat.reduceLT, Nat.reduceBEq, Int.reduceEq, Int.reduceBEq, Int.reduceBNe, Int.reduceLT, Int.reduceLE, Int.reduceAdd, Int.reduceSub, Int.reduceNeg, Int.reduceToNat, Int.reducePow, Nat.reducePow, Int.reduceMul, Int.reduceDiv, ↓s_model_Model_set, h1, hlen]
    rfl
  · (repeat (first | exact Fr.refl _ | refine Fr.push ?_ _ | refine Fr.set ?_ _ _ (by intro h; first | omega | (simp only [go_sem] at h; omega))))

/-- set, where the key is not there. -/
theorem q_set_new (b : Nat) (l : List Pr) (i : Nat) (a : Pr) (H : AHeap) (ok : Ok H) (r : Mdl H b l) (hi : i ≤ l.length) (hl : l.length < 20000) :
    ∃ H', CC F.model_Model_set [.pointer (some ⟨b, 0, none⟩), .int .i64 (i : Int), .bool false, .agg #[.string a.key, .string a.value]] H = some (.int .i64 0, H') ∧ Mdl H' b (l.take i ++ a :: l.drop i) ∧ Up H b H' := by
  obtain ⟨v, h1, h2, h3, h4⟩ := r
  have hlen := h3.rd.lenS
  have hne : ¬ (l.length : Int) = 20000 := by omega
  generalize hH1 : H.push (.cells [.string a.key, .string a.value] T.api_Pair true) = H1
  have s1 : Still H H1 := by rw [← hH1]; exact (Fr.refl H).push _
  have n1 : H1.n = H.n + 1 := by rw [← hH1]; rfl
  have f1 : H1.f H.n = .cells [.string a.key, .string a.value] T.api_Pair true := by rw [← hH1]; exact push_f_eq rfl
  have fb1 : H1.f b = .cells [v] T.model_Model true := by rw [s1.f h2 (fun h => h), h1]
  generalize hH2 : H1.push (.cells [.string a.key, .string a.value] T.api_Pair true) = H2
  have s2 : Still H1 H2 := by rw [← hH2]; exact (Fr.refl H1).push _
  have n2 : H2.n = H1.n + 1 := by rw [← hH2]; rfl
  have f2 : H2.f H1.n = .cells [.string a.key, .string a.value] T.api_Pair true := by rw [← hH2]; exact push_f_eq rfl
  have fb2 : H2.f b = .cells [v] T.model_Model true := by rw [s2.f (by omega) (fun h => h), fb1]
  have hnb : ∀ c, blockOf v = some c → c < H.n := fun c h => h3.blk h
  obtain ⟨v6, H4, hins, ho6, fr4, hb6⟩ := q_insert_Pair l v a H1.n i H2 ((h3.still s1).still s2) (by omega) hi (by omega) f2 (fun h => by have := hnb _ h; omega)
  have hone6 : Eng.one v6 = true := ho6.cell
  have fb4 : H4.f b = .cells [v] T.model_Model true := by rw [fr4.f (by omega) h4, fb2]
  have n4 : H2.n ≤ H4.n := fr4.n
  generalize hH5 : H4.set b (.cells [v6] T.model_Model true) = H5
  have f5 : Fr (MB H b) H H5 := by
    rw [← hH5]
    refine Fr.set ?_ b _ (fun _ => .inl rfl)
    refine (s1.then s2 fun _ _ h => h).still.then (S := MB H b) fr4 fun c hc h => .inr ⟨v, h1, h⟩
  have hup : Up H b H5 := UpT.of h1 f5 (v' := v6) (by rw [← hH5]; exact set_f_eq) fun c hc => by
    rcases hb6 with h | ⟨x, h, hx⟩
    · exact .inl (by rw [← h]; exact hc)
    · rw [h] at hc; cases hc; exact .inr (by omega)
  refine ⟨H5, (d_model_Model_set _ _ _ _ H (r := (.int .i64 0, H5)) ?_).trans (congrArg some (tidy_turned h2 (ok b) ?_)), ?_, hup⟩
  · simp (disch := first | with_reducible rfl | assumption | omega | rfl | (simp only [go_sem]; first | done | omega)) only [go_sem, ↓reduceIte, reduceCtorEq, Nat.reduceEqDiff, Nat.reduceAdd, Nat.reduceSub, Nat.reduceMul, Nat.reduceDiv, Nat.reduceMod, Nat.reduceLeDiff, Nat.reduceLT, Nat.reduceBEq, Int.reduceEq, Int.reduceBEq, Int.reduceBNe, Int.reduceLT, Int.reduceLE, Int.reduceAdd, Int.reduceSub, Int.reduceNeg, Int.reduceToNat, Int.reducePow, Nat.reducePow, Int.reduceMul, Int.reduceDiv, ↓s_model_Model_set, hH1, fb1, f1, hlen, hne, hH2, ↓enterK_eq hins, enterK_eq hins, fb4, hH5]
  · rw [← hH5, set_v_eq]
    exact Nat.le_trans s1.clk (Nat.le_trans s2.clk fr4.clk)
  · have hb6' : blockOf v6 ≠ some b := by
      rcases hb6 with h | ⟨x, h, hx⟩
      · rw [h]; exact h4
      · rw [h]; intro h; cases h; omega
    refine ⟨v6, by rw [← hH5]; exact set_f_eq, by rw [← hH5]; simp; omega, ?_, hb6'⟩
    rw [← hH5]
    exact ho6.keep (S := fun x => x = b) (Fr.set (Fr.refl H4) b _ fun _ => rfl) fun c hc h => hb6' (h ▸ hc)

/-- The block of a new value: nothing of the map. -/
theorem rdOne (a : ByteArray) (H : AHeap) : Rd EStr (H.push (.cells [.string a] T.string true)) (.slice (some ⟨H.n, 0, none⟩) 1 2) [a] := by
  refine .inr (.inr ⟨H.n, 0, 2, rfl, by simp, by simp, ?_⟩)
  rw [push_f_eq rfl]
  rfl

theorem MB_still {t : TypeId} {H H1 : AHeap} {b : Nat} {v : Value} (h1 : H.f b = .cells [v] t true) (h2 : b < H.n) (s : Still H H1) : ∀ c, c < H.n → MBT t H1 b c → MBT t H b c := by
  intro c hc h
  rcases h with h | ⟨u, hu, hb⟩
  · exact .inl h
  · rw [s.f h2 (fun h => h)] at hu
    exact .inr ⟨u, hu, hb⟩

/-- What Put makes of a map: the error and the map. -/
def putP (l : List Pr) (a : Pr) (p : Nat) : Int × List Pr :=
  if isP l a.key p = true then (0, l.set p a) else if l.length = 20000 then (7, l) else (0, l.take p ++ a :: l.drop p)

theorem isP_lt {l : List Pr} {key : ByteArray} {p : Nat} (h : isP l key p = true) : p < l.length := by
  rcases Nat.lt_or_ge p l.length with h' | h'
  · exact h'
  · unfold isP at h; rw [List.getElem?_eq_none h'] at h; cases h

theorem q_set (b : Nat) (l : List Pr) (a : Pr) (p : Nat) (H : AHeap) (ok : Ok H) (r : Mdl H b l) (hp : p ≤ l.length) (hl : l.length ≤ 20000) :
    ∃ H', CC F.model_Model_set [.pointer (some ⟨b, 0, none⟩), .int .i64 (p : Int), .bool (isP l a.key p), .agg #[.string a.key, .string a.value]] H = some (.int .i64 (putP l a p).1, H') ∧ Mdl H' b (putP l a p).2 ∧ Up H b H' := by
  unfold putP
  cases his : isP l a.key p with
  | true => exact q_set_is b l p a H ok r (isP_lt his)
  | false =>
    simp only [Bool.false_eq_true, if_false]
    by_cases hf : l.length = 20000
    · rw [if_pos hf]; exact ⟨H, q_set_full b l p a H r hf, r, Up.refl H b⟩
    · rw [if_neg hf]; exact q_set_new b l p a H ok r hp (by omega)

theorem q_Put_bad (b : Nat) (l : List Pr) (a : Pr) (H : AHeap) (r : Mdl H b l) (hc : chk a.key [a.value] ≠ 0) :
    CC F.model_Model_Put [.pointer (some ⟨b, 0, none⟩), .string a.key, .string a.value] H = some (.int .i64 (chk a.key [a.value]), H) := by
  have hat := q_at_bad b a.key [a.value] _ _ (rdOne a.value H) (by simp) hc
  generalize chk a.key [a.value] = e at hat hc
  apply pure_of _ (d_model_Model_Put _ _ _ H) rfl
  rotate_left 2
  · simp (disch := first | with_reducible rfl | assumption | omega | rfl | (simp only [go_sem]; first | done | omega)) only [go_sem, ↓reduceIte, reduceCtorEq, Nat.reduceEqDiff, Nat.reduceAdd, Nat.reduceSub, Nat.reduceMul, Nat.reduceDiv, Nat.reduceMod, Nat.reduceLeDiff, Nat.reduceLT, Nat.reduceBEq, Int.reduceEq, Int.reduceBEq, Int.reduceBNe, Int.reduceLT, Int.reduceLE, Int.reduceAdd, Int.reduceSub, Int.reduceNeg, Int.reduceToNat, Int.reducePow, Nat.reducePow, Int.reduceMul, Int.reduceDiv, ↓s_model_Model_Put, ↓enterK_eq hat, enterK_eq hat, hc]
    rfl
  · (repeat (first | exact Fr.refl _ | refine Fr.push ?_ _ | refine Fr.set ?_ _ _ (by intro h; first | omega | (simp only [go_sem] at h; omega))))

/-- A call that turns the map, behind a new block. -/
theorem after_push {t : TypeId} {H H1 H' : AHeap} {b : Nat} {l : List Pr} (r : MdlT t H b l) (s : Still H H1) (f : UpT t H1 b H') : UpT t H b H' := by
  obtain ⟨v, h1, h2, h3, h4⟩ := r
  refine ⟨s.still.then (S := MBT t H b) f.fr fun c hc h => MB_still h1 h2 s c hc h, fun c hc => ?_⟩
  rcases f.mb c hc with h | h
  · rcases Nat.lt_or_ge c H.n with h' | h'
    · exact .inl (MB_still h1 h2 s c h' h)
    · exact .inr h'
  · exact .inr (Nat.le_trans s.n h)

/-- What is told of a map behind a call that may have turned it: where the call is forgotten, nothing was. -/
theorem Mdl.tidied {t : TypeId} {H H' : AHeap} {b : Nat} {l l' : List Pr} {v : Value} (ok : Ok H) (r : MdlT t H b l) (hm : MdlT t H' b l') (hfr : UpT t H b H') : ∃ H'', tidy H (v, H') = (v, H'') ∧ MdlT t H'' b l' ∧ UpT t H b H'' := by
  unfold tidy
  split
  · rename_i hg
    simp only [Bool.and_eq_true] at hg
    refine ⟨H, rfl, ?_, UpT.refl H b⟩
    obtain ⟨v, h1, h2, h3, h4⟩ := r
    obtain ⟨v', h1', h2', h3', h4'⟩ := hm
    have hsame : ∀ c, c < H.n → H'.f c = H.f c := by
      intro c hc
      rcases hfr.fr.old c hc with h | ⟨h, _⟩
      · exact h.2
      · have := List.all_eq_true.1 hg.2 c (by simpa using hc)
        have := ok c
        simp at *
        omega
    rw [hsame b h2, h1] at h1'
    cases h1'
    refine ⟨v, h1, h2, ?_, h4⟩
    rcases h3' with h | ⟨hl, x, hv, hs, hb⟩ | ⟨bb, o, c, xs, hv, hlc, hb, hff, ho, hx⟩
    · exact .inl h
    · exact .inr (.inl ⟨hl, x, hv, hs, h3.blk (by rw [hv]; rfl)⟩)
    · have hbb : bb < H.n := h3.blk (by rw [hv]; rfl)
      exact .inr (.inr ⟨bb, o, c, xs, hv, hlc, hbb, by rw [← hsame bb hbb]; exact hff, ho, hx⟩)
  · exact ⟨H', rfl, hm, hfr⟩

theorem q_Put (b : Nat) (l : List Pr) (a : Pr) (H : AHeap) (ok : Ok H) (r : Mdl H b l) (hl : l.length ≤ 20000) (p : Nat) (hp : PosP l a.key p) (hc : chk a.key [a.value] = 0) :
    ∃ H', CC F.model_Model_Put [.pointer (some ⟨b, 0, none⟩), .string a.key, .string a.value] H = some (.int .i64 (putP l a p).1, H') ∧ Mdl H' b (putP l a p).2 ∧ Up H b H' := by
  have s1 : Still H (H.push (.cells [.string a.value] T.string true)) := (Fr.refl H).push _
  have r1 := r.still s1
  have hat := q_at b l a.key [a.value] _ _ r1 (by omega) p hp (rdOne a.value H) (by simp) hc
  obtain ⟨H', hset, hm, hf⟩ := q_set b l a p _ (ok.fr s1) r1 hp.1 hl
  have hfr := after_push r s1 hf
  obtain ⟨H'', ht, hm', hf'⟩ := Mdl.tidied (v := .int .i64 (putP l a p).1) ok r hm hfr
  refine ⟨H'', (d_model_Model_Put _ _ _ H (r := (.int .i64 (putP l a p).1, H')) ?_).trans (congrArg some ht), hm', hf'⟩
  simp (disch := first | with_reducible rfl | assumption | omega | rfl | (simp only [go_sem]; first | done | omega)) only [go_sem, ↓reduceIte, reduceCtorEq, Nat.reduceEqDiff, Nat.reduceAdd, Nat.reduceSub, Nat.reduceMul, Nat.reduceDiv, Nat.reduceMod, Nat.reduceLeDiff, Nat.reduceLT, Nat.reduceBEq, Int.reduceEq, Int.reduceBEq, Int.reduceBNe, Int.reduceLT, Int.reduceLE, Int.reduceAdd, Int.reduceSub, Int.reduceNeg, Int.reduceToNat, Int.reducePow, Nat.reducePow, Int.reduceMul, Int.reduceDiv, ↓s_model_Model_Put, ↓enterK_eq hat, enterK_eq hat, ↓enterK_eq hset, enterK_eq hset]

/-- What Insert makes of a map. -/
def insertP (l : List Pr) (a : Pr) (p : Nat) : Int × List Pr :=
  if isP l a.key p = true then (11, l) else if l.length = 20000 then (7, l) else (0, l.take p ++ a :: l.drop p)

end Go.Proofs.YtlfpjndbpclnnaaGreatDoor

/-
  The plain map: Swap, Range, Min, Max, Len, Pairs, Copy, Equal, Of.
  Conditions: none. By an AI agent.
-/
set_option maxRecDepth 10000
set_option linter.unusedSimpArgs false
set_option linter.unusedVariables false
namespace Go.Proofs.YtlfpjndbpclnnaaGreatDoor
open Go Eng

@[go_sem] theorem xload_Pair {a : Value} {H : AHeap} : xload Tryz.prog T.api_Pair a H = ldN 2 H a := by kernel_rfl
theorem pair_ne {ox oy : Operand} {a b : Pr} : xbin Tryz.prog .neq T.api_Pair ox oy (.agg #[.string a.key, .string a.value]) (.agg #[.string b.key, .string b.value]) = some (.bool (!(decide (bl a.key = bl b.key) && decide (bl a.value = bl b.value)))) := by
  have h := agg_ne (P := Tryz.prog) (t := T.api_Pair) (xs := [.string a.key, .string a.value]) (ys := [.string b.key, .string b.value]) (ox := ox) (oy := oy) Tryz.underlying75 (by kernel_rfl) (by kernel_rfl) (by kernel_rfl) rfl rfl
  rw [h]
  simp [ceqs, ceq]
theorem pair_eq {ox oy : Operand} {a b : Pr} : xbin Tryz.prog .eql T.api_Pair ox oy (.agg #[.string a.key, .string a.value]) (.agg #[.string b.key, .string b.value]) = some (.bool (decide (bl a.key = bl b.key) && decide (bl a.value = bl b.value))) := by
  have h := agg_eq (P := Tryz.prog) (t := T.api_Pair) (xs := [.string a.key, .string a.value]) (ys := [.string b.key, .string b.value]) (ox := ox) (oy := oy) Tryz.underlying75 (by kernel_rfl) (by kernel_rfl) (by kernel_rfl) rfl rfl
  rw [h]
  simp [ceqs, ceq]
theorem pr_ext {a b : Pr} : a = b ↔ bl a.key = bl b.key ∧ bl a.value = bl b.value := by
  constructor
  · rintro rfl; exact ⟨rfl, rfl⟩
  · rintro ⟨h1, h2⟩
    cases a; cases b
    simp only at h1 h2
    rw [bl_inj h1, bl_inj h2]

/-! ### Swap -/
theorem rdTwo (a c : ByteArray) (H : AHeap) : Rd EStr (H.push (.cells [.string a, .string c] T.string true)) (.slice (some ⟨H.n, 0, none⟩) 2 4) [a, c] := by
  refine .inr (.inr ⟨H.n, 0, 4, rfl, by simp, by simp, ?_⟩)
  rw [push_f_eq rfl]
  rfl

/-- What Swap makes of a map. -/
def swapP (l : List Pr) (key old new : ByteArray) (p : Nat) : Int × List Pr :=
  if isP l key p = true then (if bl ((l[p]?).elim (mk []) Pr.value) = bl old then (0, l.set p ⟨key, new⟩) else (11, l)) else (9, l)

/-! ### Len, Pairs, Copy, Min, Max -/
theorem q_Len (b : Nat) (l : List Pr) (H : AHeap) (r : Mdl H b l) : CC F.model_Model_Len [.pointer (some ⟨b, 0, none⟩)] H = some (.int .i64 l.length, H) := by
  obtain ⟨v, h1, h2, h3, h4⟩ := r
  have hlen := h3.rd.lenS
  apply pure_of _ (d_model_Model_Len _ H) rfl
  rotate_left 2
  · simp (disch := first | with_reducible rfl | assumption | omega | rfl | (simp only [go_sem]; first | done | omega)) only [go_sem, ↓reduceIte, reduceCtorEq, Nat.reduceEqDiff, Nat.reduceAdd, Nat.reduceSub, Nat.reduceMul, Nat.reduceDiv, Nat.reduceMod, Nat.reduceLeDiff, Nat.reduceLT, Nat.reduceBEq, Int.reduceEq, Int.reduceBEq, Int.reduceBNe, Int.reduceLT, Int.reduceLE, Int.reduceAdd, Int.reduceSub, Int.reduceNeg, Int.reduceToNat, Int.reducePow, Nat.reducePow, Int.reduceMul, Int.reduceDiv, ↓s_model_Model_Len, mp_some, h1, hlen]
    rfl
  · (repeat (first | exact Fr.refl _ | refine Fr.push ?_ _ | refine Fr.set ?_ _ _ (by intro h; first | omega | (simp only [go_sem] at h; omega))))

/-- A slice whose block, if it has one, is new. -/
def New (H : AHeap) (v : Value) : Prop := ∀ b, blockOf v = some b → H.n ≤ b

theorem own_tidied {H H' : AHeap} {v : Value} {l : List Pr} (ho : Own EPr H' T.api_Pair v l) (hs : Still H H') (hn : New H v) {x : Res} (hx : x = some (tidy H (v, H'))) :
    ∃ H'', x = some (v, H'') ∧ Own EPr H'' T.api_Pair v l ∧ Still H H'' ∧ New H v := by
  unfold tidy at hx
  split at hx
  · rename_i hg
    simp only [Bool.and_eq_true] at hg
    refine ⟨H, hx, ?_, Fr.refl _, hn⟩
    rcases ho with h | ⟨_, a, h, _⟩ | ⟨b, o, c, xs, h, _⟩
    · exact .inl h
    · rw [h] at hg; exact absurd hg.1 (by simp [gr])
    · rw [h] at hg; exact absurd hg.1 (by simp [gr])
  · exact ⟨H', hx, ho, hs, hn⟩

theorem q_Pairs (b : Nat) (l : List Pr) (H : AHeap) (r : Mdl H b l) (hl : l.length ≤ 1000000000000) :
    ∃ v' H', CC F.model_Model_Pairs [.pointer (some ⟨b, 0, none⟩)] H = some (v', H') ∧ Own EPr H' T.api_Pair v' l ∧ Still H H' ∧ New H v' := by
  obtain ⟨v, h1, h2, h3, h4⟩ := r
  obtain ⟨v', H', hcl, ho, hs, hn⟩ := q_clone_Pair l v H h3.rd hl
  obtain ⟨H'', h⟩ := own_tidied ho hs hn (d_model_Model_Pairs (.pointer (some ⟨b, 0, none⟩)) H (r := (v', H')) (by simp (disch := first | with_reducible rfl | assumption | omega | rfl | (simp only [go_sem]; first | done | omega)) only [go_sem, ↓reduceIte, reduceCtorEq, Nat.reduceEqDiff, Nat.reduceAdd, Nat.reduceSub, Nat.reduceMul, Nat.reduceDiv, Nat.reduceMod, Nat.reduceLeDiff, Nat.reduceLT, Nat.reduceBEq, Int.reduceEq, Int.reduceBEq, Int.reduceBNe, Int.reduceLT, Int.reduceLE, Int.reduceAdd, Int.reduceSub, Int.reduceNeg, Int.reduceToNat, Int.reducePow, Nat.reducePow, Int.reduceMul, Int.reduceDiv, ↓s_model_Model_Pairs, mp_some, h1, ↓enterK_eq hcl, enterK_eq hcl]))
  exact ⟨v', H'', h⟩

/-- The first pair, the last pair. -/
def endV (a : Option Pr) : Value := match a with | some a => .tuple #[.agg #[.string a.key, .string a.value], .int .i64 0] | none => .tuple #[.agg #[.string (mk []), .string (mk [])], .int .i64 9]

end Go.Proofs.YtlfpjndbpclnnaaGreatDoor

/-
  The order of strings.
  Conditions: none. By an AI agent.
-/
set_option maxRecDepth 10000
set_option linter.unusedSimpArgs false
set_option linter.unusedVariables false
namespace Go.Proofs.YtlfpjndbpclnnaaGreatDoor
open Go Eng

theorem u8_lt {a b : UInt8} : a < b ↔ a.toNat < b.toNat := UInt8.lt_iff_toNat_lt
theorem u8_eq {a b : UInt8} : a = b ↔ a.toNat = b.toNat := UInt8.toNat_inj.symm

theorem cb_eq : ∀ {a b : List UInt8}, Lib.compareBytes a b = 0 ↔ a = b
  | [], [] => by simp [Lib.compareBytes]
  | [], _ :: _ => by simp [Lib.compareBytes]
  | _ :: _, [] => by simp [Lib.compareBytes]
  | a :: x, b :: y => by
    unfold Lib.compareBytes
    by_cases h1 : a < b
    · have := u8_lt.1 h1
      simp only [if_pos h1]
      constructor
      · intro h; cases h
      · intro h; cases h; omega
    · by_cases h2 : b < a
      · have := u8_lt.1 h2
        simp only [if_neg h1, if_pos h2]
        constructor
        · intro h; cases h
        · intro h; cases h; omega
      · have h3 : a = b := u8_eq.2 (by rw [u8_lt] at h1 h2; omega)
        subst h3
        simp only [if_neg h1]
        rw [cb_eq]
        simp
theorem cb_lt : ∀ {a b : List UInt8}, Op.bytesLess a b = true ↔ Lib.compareBytes a b < 0
  | [], [] => by simp [Lib.compareBytes, Op.bytesLess]
  | [], _ :: _ => by simp [Lib.compareBytes, Op.bytesLess]
  | _ :: _, [] => by simp [Lib.compareBytes, Op.bytesLess]
  | a :: x, b :: y => by
    unfold Lib.compareBytes
    rw [Op.bytesLess, Bool.or_eq_true, Bool.and_eq_true, cb_lt]
    by_cases h1 : a < b
    · simp [h1]
    · by_cases h2 : b < a
      · have h3 : ¬ a = b := fun h => by subst h; exact h1 h2
        simp [h1, h2, h3]
      · have h3 : a = b := u8_eq.2 (by rw [u8_lt] at h1 h2; omega)
        subst h3
        simp [h1]
theorem cb_swap : ∀ {a b : List UInt8}, Lib.compareBytes b a = - Lib.compareBytes a b
  | [], [] => by simp [Lib.compareBytes]
  | [], _ :: _ => by simp [Lib.compareBytes]
  | _ :: _, [] => by simp [Lib.compareBytes]
  | a :: x, b :: y => by
    unfold Lib.compareBytes
    by_cases h1 : a < b
    · have h2 : ¬ b < a := by rw [u8_lt] at h1 ⊢; omega
      simp [h1, h2]
    · by_cases h2 : b < a
      · simp [h1, h2]
      · simp only [if_neg h1, if_neg h2]
        exact cb_swap
theorem cb_trans : ∀ {a b c : List UInt8}, Lib.compareBytes a b < 0 → Lib.compareBytes b c < 0 → Lib.compareBytes a c < 0
  | _, b, [], _, h => by cases b <;> simp [Lib.compareBytes] at h
  | a, [], _ :: _, h, _ => by cases a <;> simp [Lib.compareBytes] at h
  | [], _ :: _, _ :: _, _, _ => by simp [Lib.compareBytes]
  | a :: x, b :: y, c :: z, h1, h2 => by
    rw [Lib.compareBytes] at h1 h2 ⊢
    by_cases p : a < b
    · by_cases q : b < c
      · have : a < c := by rw [u8_lt] at p q ⊢; omega
        rw [if_pos this]; decide
      · rw [if_neg q] at h2
        by_cases q' : c < b
        · rw [if_pos q'] at h2; cases h2
        · have : a < c := by rw [u8_lt] at p q q' ⊢; omega
          rw [if_pos this]; decide
    · rw [if_neg p] at h1
      by_cases p' : b < a
      · rw [if_pos p'] at h1; cases h1
      · rw [if_neg p'] at h1
        have e : a = b := u8_eq.2 (by rw [u8_lt] at p p'; omega)
        subst e
        by_cases q : a < c
        · rw [if_pos q]; decide
        · rw [if_neg q] at h2 ⊢
          by_cases q' : c < a
          · rw [if_pos q'] at h2; cases h2
          · rw [if_neg q'] at h2 ⊢
            exact cb_trans h1 h2

theorem cmpS_self (a : ByteArray) : cmpS a a = 0 := cb_eq.2 rfl
theorem bl_inj {a b : ByteArray} (h : bl a = bl b) : a = b := by
  cases a; cases b; unfold bl at h
  congr 1
  exact Array.toList_inj.1 h
theorem cmpS_eq {a b : ByteArray} : cmpS a b = 0 ↔ a = b := ⟨fun h => bl_inj (cb_eq.1 h), fun h => by subst h; exact cmpS_self a⟩
theorem cmpS_swap (a b : ByteArray) : cmpS b a = - cmpS a b := cb_swap
theorem cmpS_trans {a b c : ByteArray} : cmpS a b < 0 → cmpS b c < 0 → cmpS a c < 0 := cb_trans
theorem less_cmpS (a b : ByteArray) : Op.bytesLess (bl a) (bl b) = decide (cmpS a b < 0) := by
  rw [Bool.eq_iff_iff, cb_lt, decide_eq_true_iff]; rfl
theorem leq_cmpS (a b : ByteArray) : (Op.bytesLess (bl a) (bl b) || bl a == bl b) = decide (cmpS a b ≤ 0) := by
  rw [Bool.eq_iff_iff, Bool.or_eq_true, cb_lt, decide_eq_true_iff, beq_iff_eq, ← cb_eq]
  show (cmpS a b < 0 ∨ cmpS a b = 0) ↔ _
  omega

end Go.Proofs.YtlfpjndbpclnnaaGreatDoor

/-
  The plain map: Range, Equal, Of.
  Conditions: none. By an AI agent.
-/
set_option maxRecDepth 10000
set_option linter.unusedSimpArgs false
set_option linter.unusedVariables false
namespace Go.Proofs.YtlfpjndbpclnnaaGreatDoor
open Go Eng

/-- A part in the middle that is only read. -/
theorem Own.mid {α : Type} {E : Enc α} {H : AHeap} {e : TypeId} {v : Value} {l : List α} (r : Own E H e v l) {sz : Nat} (hsz : sz = E.w) {i j : Nat} (hi : i ≤ j) (hj : j ≤ l.length) {q q' : IntKind} :
    ∃ v', slS e sz v (some (.int q (i : Int))) (some (.int q' (j : Int))) none H = some v' ∧ Rd E H v' ((l.drop i).take (j - i)) := by
  subst hsz
  rcases r with ⟨rfl, rfl⟩ | ⟨rfl, ⟨b, o, s⟩, rfl, hs, hbb⟩ | ⟨b, o, c, xs, rfl, hl, hbn, hf, ho, hx⟩
  · simp only [List.length_nil, Nat.le_zero_eq] at hj
    subst hj
    simp only [Nat.le_zero_eq] at hi
    subst hi
    exact ⟨.slice none 0 0, rfl, .inl ⟨by simp, rfl⟩⟩
  · simp only at hs
    subst hs
    simp only [List.length_nil, Nat.le_zero_eq] at hj
    subst hj
    simp only [Nat.le_zero_eq] at hi
    subst hi
    exact ⟨.slice (some ⟨b, o, none⟩) 0 0, by simp [slS, lowOf, highOf, bnd], .inr (.inl ⟨by simp, _, _, rfl, rfl⟩)⟩
  · have hmul := Nat.mul_le_mul_right E.w hl
    have hmj := Nat.mul_le_mul_right E.w hj
    have hmi := Nat.mul_le_mul_right E.w hi
    refine ⟨_, sl_lohi hf hi (Nat.le_trans hj hl), ?_⟩
    have hlen : ((l.drop i).take (j - i)).length = j - i := by simp; omega
    by_cases h0 : j - i = 0
    · rw [h0]; exact .inr (.inl ⟨by simp, _, _, rfl, rfl⟩)
    · refine .inr (.inr ⟨b, _, _, by rw [hlen], fun h => h0 (by rw [← hlen, h]; rfl), hbn, ?_⟩)
      have hsub : (j - i) * E.w = j * E.w - i * E.w := Nat.sub_mul _ _ _
      rw [hlen, hf, cutB_c (by omega), ← E.cells_take, ← E.cells_drop, ← hx, List.drop_take, List.take_take, List.drop_drop, Nat.min_eq_left (by omega)]

/-- The same where the value stands in a tuple behind a number. -/
theorem own_tidied2 {H H' : AHeap} {v : Value} {l : List Pr} {n : Int} (ho : Own EPr H' T.api_Pair v l) (hs : Still H H') (hn : New H v) {x : Res} (hx : x = some (tidy H (.tuple #[v, .int .i64 n], H'))) :
    ∃ H'', x = some (.tuple #[v, .int .i64 n], H'') ∧ Own EPr H'' T.api_Pair v l ∧ Still H H'' := by
  unfold tidy at hx
  split at hx
  · rename_i hg
    simp only [Bool.and_eq_true] at hg
    refine ⟨H, hx, ?_, Fr.refl _⟩
    rcases ho with h | ⟨_, a, h, _⟩ | ⟨b, o, c, xs, h, _⟩
    · exact .inl h
    · rw [h] at hg; exact absurd hg.1 (by simp [gr])
    · rw [h] at hg; exact absurd hg.1 (by simp [gr])
  · exact ⟨H', hx, ho, hs⟩

/-- What Range answers. -/
def rangeP (l : List Pr) (p q n : Nat) : List Pr := (l.drop p).take (min q (p + n) - p)

end Go.Proofs.YtlfpjndbpclnnaaGreatDoor

/-
  The plain map: Equal, Of.
  Conditions: none. By an AI agent.
-/
set_option maxRecDepth 10000
set_option linter.unusedSimpArgs false
set_option linter.unusedVariables false
namespace Go.Proofs.YtlfpjndbpclnnaaGreatDoor
open Go Eng

instance : DecidableEq Pr := fun a b => decidable_of_iff (bl a.key = bl b.key ∧ bl a.value = bl b.value) pr_ext.symm
theorem pair_ne' {ox oy : Operand} {a b : Pr} : xbin Tryz.prog .neq T.api_Pair ox oy (.agg #[.string a.key, .string a.value]) (.agg #[.string b.key, .string b.value]) = some (.bool (!decide (a = b))) := by
  rw [pair_ne, ← Bool.decide_and, decide_eq_decide.2 pr_ext]
theorem pair_eq' {ox oy : Operand} {a b : Pr} : xbin Tryz.prog .eql T.api_Pair ox oy (.agg #[.string a.key, .string a.value]) (.agg #[.string b.key, .string b.value]) = some (.bool (decide (a = b))) := by
  rw [pair_eq, ← Bool.decide_and, decide_eq_decide.2 pr_ext]

theorem drop_cons {α : Type} {l x : List α} {a : α} {i : Nat} (h : l.drop i = a :: x) : ∃ hi : i < l.length, l[i] = a ∧ l.drop (i + 1) = x := by
  have hi : i < l.length := by
    rcases Nat.lt_or_ge i l.length with h' | h'
    · exact h'
    · rw [List.drop_eq_nil_of_le h'] at h; cases h
  rw [List.drop_eq_getElem_cons hi] at h
  exact ⟨hi, (List.cons.inj h).1, (List.cons.inj h).2⟩

theorem l_eqP (l m : List Pr) (v w : Value) (H : AHeap) (hv : Rd EPr H v l) (hw : Rd EPr H w m) (hlm : l.length = m.length) (hl : l.length < 1152921504606846976) (K : K) : ∀ (x y : List Pr) (i : Nat), l.drop i = x → m.drop i = y →
    l_slices_Equal_Pair_0 v w (.int .i64 l.length) (.int .i64 i) H (blkK [] 0 (seqK (fun _ h2 => K .ret [(4, .bool true)] h2) K)) = K .ret [(4, .bool (decide (x = y)))] H
  | [], y, i, hx, hy => by
    have h : l.length ≤ i := List.drop_eq_nil_iff.1 hx
    have hlt : ¬ (i : Int) < (l.length : Int) := by omega
    have hy0 : y = [] := by rw [← hy]; exact List.drop_eq_nil_of_le (by omega)
    subst hy0
    rw [r_slices_Equal_Pair_0]
    simp (disch := first | with_reducible rfl | assumption | omega | rfl | (simp only [go_sem]; first | done | omega)) only [go_sem, ↓reduceIte, reduceCtorEq, Nat.reduceEqDiff, Nat.reduceAdd, Nat.reduceSub, Nat.reduceMul, Nat.reduceDiv, Nat.reduceMod, Nat.reduceLeDiff, Nat.reduceLT, Nat.reduceBEq, Int.reduceEq, Int.reduceBEq, Int.reduceBNe, Int.reduceLT, Int.reduceLE, Int.reduceAdd, Int.reduceSub, Int.reduceNeg, Int.reduceToNat, Int.reducePow, Nat.reducePow, Int.reduceMul, Int.reduceDiv, ↓s_slices_Equal_Pair_b0, hlt]
  | a :: x, [], i, hx, hy => by
    obtain ⟨h, _⟩ := drop_cons hx
    have h2 : m.length ≤ i := List.drop_eq_nil_iff.1 hy
    omega
  | a :: x, b :: y, i, hx, hy => by
    obtain ⟨h, hxa, hx'⟩ := drop_cons hx
    obtain ⟨h2, hyb, hy'⟩ := drop_cons hy
    have hlt : (i : Int) < (l.length : Int) := by omega
    have ih := l_eqP l m v w H hv hw hlm hl K x y (i + 1) hx' hy'
    obtain ⟨b1, o1, hix1, _, hc1, _⟩ := hv.ix (q := .i64) h
    obtain ⟨b2, o2, hix2, _, hc2, _⟩ := hw.ix (q := .i64) h2
    rw [hxa] at hc1
    rw [hyb] at hc2
    have hix1 : ixS 2 v (.int .i64 i) = some (.pointer (some ⟨b1, o1, none⟩)) := hix1
    have hix2 : ixS 2 w (.int .i64 i) = some (.pointer (some ⟨b2, o2, none⟩)) := hix2
    have hc1 : cutB (H.f b1) o1 2 = some [.string a.key, .string a.value] := hc1
    have hc2 : cutB (H.f b2) o2 2 = some [.string b.key, .string b.value] := hc2
    rw [Int.natCast_add] at ih
    rw [r_slices_Equal_Pair_0]
    by_cases he : a = b
    · have hd : decide (a = b) = true := decide_eq_true he
      have hd2 : decide (a :: x = b :: y) = decide (x = y) := decide_eq_decide.2 (by simp [he])
      rw [hd2]
      simp (disch := first | with_reducible rfl | assumption | omega | rfl | (simp only [go_sem]; first | done | omega)) only [go_sem, ↓reduceIte, reduceCtorEq, Nat.reduceEqDiff, Nat.reduceAdd, Nat.reduceSub, Nat.reduceMul, Nat.reduceDiv, Nat.reduceMod, Nat.reduceLeDiff, Nat.reduceLT, Nat.reduceBEq, Int.reduceEq, Int.reduceBEq, Int.reduceBNe, Int.reduceLT, Int.reduceLE, Int.reduceAdd, Int.reduceSub, Int.reduceNeg, Int.reduceToNat, Int.reducePow, Nat.reducePow, Int.reduceMul, Int.reduceDiv, ↓s_slices_Equal_Pair_b0, hlt, hix1, hc1, hix2, hc2, pair_ne', hd]
      exact ih
    · have hd : decide (a = b) = false := decide_eq_false he
      have hd2 : decide (a :: x = b :: y) = false := decide_eq_false (by simp [he])
      rw [hd2]
      simp (disch := first | with_reducible rfl | assumption | omega | rfl | (simp only [go_sem]; first | done | omega)) only [go_sem, ↓reduceIte, reduceCtorEq, Nat.reduceEqDiff, Nat.reduceAdd, Nat.reduceSub, Nat.reduceMul, Nat.reduceDiv, Nat.reduceMod, Nat.reduceLeDiff, Nat.reduceLT, Nat.reduceBEq, Int.reduceEq, Int.reduceBEq, Int.reduceBNe, Int.reduceLT, Int.reduceLE, Int.reduceAdd, Int.reduceSub, Int.reduceNeg, Int.reduceToNat, Int.reducePow, Nat.reducePow, Int.reduceMul, Int.reduceDiv, ↓s_slices_Equal_Pair_b0, hlt, hix1, hc1, hix2, hc2, pair_ne', hd]

theorem q_eqP (l m : List Pr) (v w : Value) (H : AHeap) (hv : Rd EPr H v l) (hw : Rd EPr H w m) (hl : l.length < 1152921504606846976) :
    CC F.slices_Equal_Pair [v, w] H = some (.bool (decide (l = m)), H) := by
  have l1 := hv.lenS
  have l2 := hw.lenS
  by_cases hlm : l.length = m.length
  · have hne : ¬ ¬ (l.length : Int) = (m.length : Int) := by omega
    have hloop := l_eqP l m v w H hv hw hlm hl (endK Tryz.prog [.tmp 4]) l m 0 rfl rfl
    have hz : Value.int IntKind.i64 0 = Value.int IntKind.i64 ((0 : Nat) : Int) := rfl
    have he : decide ((l.length : Int) = (m.length : Int)) = true := decide_eq_true (by omega)
    apply pure_of _ (d_slices_Equal_Pair _ _ H) rfl
    rotate_left 2
    · simp (disch := first | with_reducible rfl | assumption | omega | rfl | (simp only [go_sem]; first | done | omega)) only [go_sem, ↓reduceIte, reduceCtorEq, Nat.reduceEqDiff, Nat.reduceAdd, Nat.reduceSub, Nat.reduceMul, Nat.reduceDiv, Nat.reduceMod, Nat.reduceLeDiff, Nat.reduceLT, Nat.reduceBEq, Int.reduceEq, Int.reduceBEq, Int.reduceBNe, Int.reduceLT, Int.reduceLE, Int.reduceAdd, Int.reduceSub, Int.reduceNeg, Int.reduceToNat, Int.reducePow, Nat.reducePow, Int.reduceMul, Int.reduceDiv, ↓s_slices_Equal_Pair, l1, l2, he]
      exact hloop
    · (repeat (first | exact Fr.refl _ | refine Fr.push ?_ _ | refine Fr.set ?_ _ _ (by intro h; first | omega | (simp only [go_sem] at h; omega))))
  · have he : decide ((l.length : Int) = (m.length : Int)) = false := decide_eq_false (by omega)
    have hd : decide (l = m) = false := decide_eq_false fun h => hlm (by rw [h])
    rw [hd]
    apply pure_of _ (d_slices_Equal_Pair _ _ H) rfl
    rotate_left 2
    · simp (disch := first | with_reducible rfl | assumption | omega | rfl | (simp only [go_sem]; first | done | omega)) only [go_sem, ↓reduceIte, reduceCtorEq, Nat.reduceEqDiff, Nat.reduceAdd, Nat.reduceSub, Nat.reduceMul, Nat.reduceDiv, Nat.reduceMod, Nat.reduceLeDiff, Nat.reduceLT, Nat.reduceBEq, Int.reduceEq, Int.reduceBEq, Int.reduceBNe, Int.reduceLT, Int.reduceLE, Int.reduceAdd, Int.reduceSub, Int.reduceNeg, Int.reduceToNat, Int.reducePow, Nat.reducePow, Int.reduceMul, Int.reduceDiv, ↓s_slices_Equal_Pair, l1, l2, he]
      rfl
    · (repeat (first | exact Fr.refl _ | refine Fr.push ?_ _ | refine Fr.set ?_ _ _ (by intro h; first | omega | (simp only [go_sem] at h; omega))))

theorem q_Equal (b c : Nat) (l m : List Pr) (H : AHeap) (r : Mdl H b l) (s : Mdl H c m) (hl : l.length ≤ 1000000000000) (hm : m.length ≤ 1000000000000) :
    CC F.model_Equal [.pointer (some ⟨b, 0, none⟩), .pointer (some ⟨c, 0, none⟩)] H = some (.bool (decide (l = m)), H) := by
  have hl1 := q_Len b l H r
  have hl2 := q_Len c m H s
  by_cases hlm : l.length = m.length
  · obtain ⟨v1, H1, hp1, ho1, s1, _⟩ := q_Pairs b l H r hl
    obtain ⟨v2, H2, hp2, ho2, s2, _⟩ := q_Pairs c m H1 (s.still s1) hm
    have he := q_eqP l m v1 v2 H2 (ho1.still s2).rd ho2.rd (by omega)
    have hd : decide ((l.length : Int) = (m.length : Int)) = true := decide_eq_true (by omega)
    apply pure_of _ (d_model_Equal _ _ H) rfl
    rotate_left 2
    · simp (disch := first | with_reducible rfl | assumption | omega | rfl | (simp only [go_sem]; first | done | omega)) only [go_sem, ↓reduceIte, reduceCtorEq, Nat.reduceEqDiff, Nat.reduceAdd, Nat.reduceSub, Nat.reduceMul, Nat.reduceDiv, Nat.reduceMod, Nat.reduceLeDiff, Nat.reduceLT, Nat.reduceBEq, Int.reduceEq, Int.reduceBEq, Int.reduceBNe, Int.reduceLT, Int.reduceLE, Int.reduceAdd, Int.reduceSub, Int.reduceNeg, Int.reduceToNat, Int.reducePow, Nat.reducePow, Int.reduceMul, Int.reduceDiv, ↓s_model_Equal, mp_some, bne_self_eq_false, c_model_Model_Len, ↓enterK_eq hl1, enterK_eq hl1, ↓enterK_eq hl2, enterK_eq hl2, hd, ↓enterK_eq hp1, enterK_eq hp1, ↓enterK_eq hp2, enterK_eq hp2, ↓enterK_eq he, enterK_eq he]
      rfl
    · exact s1.then s2 fun _ _ h => h
  · have hd : decide ((l.length : Int) = (m.length : Int)) = false := decide_eq_false (by omega)
    have hf : decide (l = m) = false := decide_eq_false fun h => hlm (by rw [h])
    rw [hf]
    apply pure_of _ (d_model_Equal _ _ H) rfl
    rotate_left 2
    · simp (disch := first | with_reducible rfl | assumption | omega | rfl | (simp only [go_sem]; first | done | omega)) only [go_sem, ↓reduceIte, reduceCtorEq, Nat.reduceEqDiff, Nat.reduceAdd, Nat.reduceSub, Nat.reduceMul, Nat.reduceDiv, Nat.reduceMod, Nat.reduceLeDiff, Nat.reduceLT, Nat.reduceBEq, Int.reduceEq, Int.reduceBEq, Int.reduceBNe, Int.reduceLT, Int.reduceLE, Int.reduceAdd, Int.reduceSub, Int.reduceNeg, Int.reduceToNat, Int.reducePow, Nat.reducePow, Int.reduceMul, Int.reduceDiv, ↓s_model_Equal, mp_some, bne_self_eq_false, c_model_Model_Len, ↓enterK_eq hl1, enterK_eq hl1, ↓enterK_eq hl2, enterK_eq hl2, hd]
      rfl
    · (repeat (first | exact Fr.refl _ | refine Fr.push ?_ _ | refine Fr.set ?_ _ _ (by intro h; first | omega | (simp only [go_sem] at h; omega))))

/-! ### Of -/
/-- The error of a list of pairs: of the pairs behind the one before. -/
def ofErr : Option Pr → List Pr → Int
  | _, [] => 0
  | o, a :: l => if chk a.key [a.value] ≠ 0 then chk a.key [a.value] else if (o.elim false fun b => decide (0 ≤ cmpS b.key a.key)) = true then 13 else ofErr (some a) l


end Go.Proofs.YtlfpjndbpclnnaaGreatDoor

/-
  Sorted lists of pairs: where a key is.
  Conditions: none. By an AI agent.
-/
set_option maxRecDepth 10000
set_option linter.unusedSimpArgs false
set_option linter.unusedVariables false
namespace Go.Proofs.YtlfpjndbpclnnaaGreatDoor
open Go Eng

/-- Sorted, each key once. -/
def Srt (l : List Pr) : Prop := l.Pairwise fun a b => cmpS a.key b.key < 0

/-- Where a key is, or would be. -/
def posP : List Pr → ByteArray → Nat
  | [], _ => 0
  | a :: l, key => if cmpS a.key key < 0 then posP l key + 1 else 0

theorem posP_le : ∀ (l : List Pr) (key : ByteArray), posP l key ≤ l.length
  | [], _ => Nat.le_refl _
  | a :: l, key => by
    rw [posP]
    have := posP_le l key
    split <;> simp <;> omega

theorem cmpS_le_lt {a b c : ByteArray} (h1 : ¬ cmpS a b < 0) (h2 : cmpS a c < 0) : cmpS b c < 0 := by
  by_cases h : cmpS a b = 0
  · rw [← cmpS_eq.1 h]; exact h2
  · have h3 : cmpS b a < 0 := by rw [cmpS_swap]; omega
    exact cmpS_trans h3 h2

theorem posP_pos : ∀ {l : List Pr} (_ : Srt l) (key : ByteArray), PosP l key (posP l key)
  | [], _, key => ⟨Nat.le_refl _, fun i h => absurd h (by simp), fun i h => absurd h (by simp)⟩
  | a :: l, hs, key => by
    obtain ⟨ha, hl⟩ := List.pairwise_cons.1 hs
    obtain ⟨h1, h2, h3⟩ := posP_pos hl key
    rw [posP]
    by_cases h : cmpS a.key key < 0
    · rw [if_pos h]
      refine ⟨by simp; omega, fun i hi hp => ?_, fun i hi hp => ?_⟩
      · cases i with
        | zero => exact h
        | succ i => exact h2 i (by simpa using hi) (by omega)
      · cases i with
        | zero => omega
        | succ i => exact h3 i (by simpa using hi) (by omega)
    · rw [if_neg h]
      refine ⟨by simp, fun i hi hp => by omega, fun i hi hp => ?_⟩
      cases i with
      | zero => exact h
      | succ i =>
        intro hc
        have hb := ha _ (List.getElem_mem (by simpa using hi : i < l.length))
        exact h (cmpS_trans hb hc)

/-- Is a key there? -/
def hasP (l : List Pr) (key : ByteArray) : Bool := isP l key (posP l key)

theorem isP_eq {l : List Pr} {key : ByteArray} {p : Nat} (h : isP l key p = true) : ∃ hp : p < l.length, l[p].key = key := by
  unfold isP at h
  cases hg : l[p]? with
  | none => rw [hg] at h; cases h
  | some a =>
    rw [hg] at h
    obtain ⟨hp, rfl⟩ := List.getElem?_eq_some_iff.1 hg
    exact ⟨hp, cmpS_eq.1 (by simpa using h)⟩

theorem mem_pos {l : List Pr} (hs : Srt l) {i : Nat} (hi : i < l.length) : posP l l[i].key = i := by
  obtain ⟨h1, h2, h3⟩ := posP_pos hs l[i].key
  rcases Nat.lt_trichotomy (posP l l[i].key) i with h | h | h
  · have hlt : posP l l[i].key < l.length := by omega
    have := List.pairwise_iff_getElem.1 hs _ _ hlt hi h
    exact absurd this (h3 _ hlt (Nat.le_refl _))
  · exact h
  · have := h2 i hi h
    rw [cmpS_self] at this
    omega

theorem isP_self {l : List Pr} (hs : Srt l) {i : Nat} (hi : i < l.length) : isP l l[i].key (posP l l[i].key) = true := by
  rw [mem_pos hs hi]
  unfold isP
  rw [List.getElem?_eq_getElem hi]
  simp [cmpS_self]

/-- What a search for an equal key finds: on a sorted list, the place. -/
def findP : List Pr → ByteArray → Nat → Int
  | [], _, _ => -1
  | a :: l, key, i => if bl a.key = bl key then i else findP l key (i + 1)

theorem findP_none : ∀ (l : List Pr) (key : ByteArray) (i : Nat), (∀ a ∈ l, ¬ a.key = key) → findP l key i = -1
  | [], _, _, _ => rfl
  | a :: l, key, i, h => by
    rw [findP, if_neg fun he => h a (by simp) (bl_inj he), findP_none l key (i + 1) fun b hb => h b (by simp [hb])]

theorem findP_some : ∀ (l : List Pr) (key : ByteArray) (i k : Nat) (hk : k < l.length), l[k].key = key → (∀ (j : Nat) (hj : j < l.length), j < k → ¬ l[j].key = key) → findP l key i = ((i + k : Nat) : Int)
  | [], _, _, k, hk, _, _ => absurd hk (by simp)
  | a :: l, key, i, 0, _, h, _ => by
    rw [findP, if_pos (by rw [← h]; rfl)]
    simp
  | a :: l, key, i, k + 1, hk, h, hn => by
    rw [findP, if_neg fun he => hn 0 (by simp) (by omega) (bl_inj he), findP_some l key (i + 1) k (by simpa using hk) h fun j hj hjk => hn (j + 1) (by simpa using hj) (by omega)]
    omega

theorem findP_eq {l : List Pr} (hs : Srt l) (key : ByteArray) : findP l key 0 = if isP l key (posP l key) = true then (posP l key : Int) else -1 := by
  by_cases h : isP l key (posP l key) = true
  · rw [if_pos h]
    obtain ⟨hp, he⟩ := isP_eq h
    have := findP_some l key 0 (posP l key) hp he fun j hj hjk hej => by
      have := mem_pos hs hj
      rw [hej] at this
      omega
    rw [this]; simp
  · rw [if_neg h]
    refine findP_none l key 0 fun a ha hak => h ?_
    obtain ⟨i, hi, rfl⟩ := List.getElem_of_mem ha
    rw [← hak]
    exact isP_self hs hi

/-! ### What stays sorted -/
theorem srt_set {l : List Pr} (hs : Srt l) {p : Nat} {a : Pr} (h : isP l a.key p = true) : Srt (l.set p a) := by
  obtain ⟨hp, he⟩ := isP_eq h
  refine List.pairwise_iff_getElem.2 fun i j hi hj hij => ?_
  have hk : ∀ (i : Nat) (hi : i < (l.set p a).length), (l.set p a)[i].key = (l[i]'(by simpa using hi)).key := by
    intro i hi
    rw [List.getElem_set]
    split
    · rename_i h'; subst h'; exact he.symm
    · rfl
  rw [hk i hi, hk j hj]
  exact List.pairwise_iff_getElem.1 hs _ _ _ _ hij

theorem srt_ins {l : List Pr} (hs : Srt l) {a : Pr} (h : isP l a.key (posP l a.key) = false) : Srt (l.take (posP l a.key) ++ a :: l.drop (posP l a.key)) := by
  obtain ⟨h1, h2, h3⟩ := posP_pos hs a.key
  generalize hp : posP l a.key = p at h h1 h2 h3
  unfold Srt
  rw [List.pairwise_append]
  refine ⟨hs.sublist (List.take_sublist _ _), ?_, ?_⟩
  · rw [List.pairwise_cons]
    refine ⟨fun b hb => ?_, hs.sublist (List.drop_sublist _ _)⟩
    obtain ⟨i, hi, rfl⟩ := List.getElem_of_mem hb
    rw [List.getElem_drop]
    have hi' : p + i < l.length := by simp at hi; omega
    have hge := h3 (p + i) hi' (by omega)
    have hpl : p < l.length := by omega
    have hne0 : ¬ cmpS l[p].key a.key = 0 := by
      unfold isP at h
      rw [List.getElem?_eq_getElem hpl] at h
      simpa using h
    rw [cmpS_swap]
    by_cases hi0 : i = 0
    · subst hi0
      have := h3 p hpl (Nat.le_refl _)
      simp only [Nat.add_zero]
      omega
    · have hlt := List.pairwise_iff_getElem.1 hs p (p + i) hpl hi' (by omega)
      have hpp := h3 p hpl (Nat.le_refl _)
      have : cmpS a.key l[p].key < 0 := by rw [cmpS_swap]; omega
      have := cmpS_trans this hlt
      rw [cmpS_swap] at this
      omega
  · intro b hb c hc
    obtain ⟨i, hi, rfl⟩ := List.getElem_of_mem hb
    rw [List.getElem_take]
    have hi' : i < p := by simp at hi; omega
    have hlt := h2 i (by omega) hi'
    rcases List.mem_cons.1 hc with rfl | hc
    · exact hlt
    · obtain ⟨j, hj, rfl⟩ := List.getElem_of_mem hc
      rw [List.getElem_drop]
      exact List.pairwise_iff_getElem.1 hs _ _ _ _ (by omega)

theorem srt_del {l : List Pr} (hs : Srt l) (p : Nat) : Srt (l.take p ++ l.drop (p + 1)) := by
  rw [← List.eraseIdx_eq_take_drop_succ]
  exact hs.sublist (List.eraseIdx_sublist _ _)

theorem srt_put {l : List Pr} (hs : Srt l) (a : Pr) : Srt (putP l a (posP l a.key)).2 := by
  unfold putP
  split
  · rename_i h; exact srt_set hs h
  · rename_i h
    split
    · exact hs
    · exact srt_ins hs (by simpa using h)
theorem len_put {l : List Pr} (hl : l.length ≤ 20000) (a : Pr) : (putP l a (posP l a.key)).2.length ≤ 20000 := by
  unfold putP
  split
  · simpa using hl
  · split
    · exact hl
    · simp; have := posP_le l a.key; omega
theorem srt_insert {l : List Pr} (hs : Srt l) (a : Pr) : Srt (insertP l a (posP l a.key)).2 := by
  unfold insertP
  split
  · exact hs
  · rename_i h
    split
    · exact hs
    · exact srt_ins hs (by simpa using h)
theorem len_insert {l : List Pr} (hl : l.length ≤ 20000) (a : Pr) : (insertP l a (posP l a.key)).2.length ≤ 20000 := by
  unfold insertP
  split
  · exact hl
  · split
    · exact hl
    · simp; have := posP_le l a.key; omega
theorem srt_swap {l : List Pr} (hs : Srt l) (key old new : ByteArray) : Srt (swapP l key old new (posP l key)).2 := by
  unfold swapP
  split
  · rename_i h
    split
    · exact srt_set (a := ⟨key, new⟩) hs h
    · exact hs
  · exact hs
theorem len_swap {l : List Pr} (hl : l.length ≤ 20000) (key old new : ByteArray) : (swapP l key old new (posP l key)).2.length ≤ 20000 := by
  unfold swapP
  split
  · split
    · simpa using hl
    · exact hl
  · exact hl

end Go.Proofs.YtlfpjndbpclnnaaGreatDoor

/-
  Rows: appending where nothing may be appended; parts that are only read; one cell of a pair.
  Conditions: none. By an AI agent.
-/
set_option maxRecDepth 10000
set_option linter.unusedSimpArgs false
set_option linter.unusedVariables false
namespace Go.Proofs.YtlfpjndbpclnnaaGreatDoor
open Go Eng

variable {α : Type} {E : Enc α} {H : AHeap} {v : Value} {l m : List α} {e : TypeId}

theorem Eng.Own.nil : Own E H e (.slice none 0 0) [] := .inl ⟨rfl, rfl⟩

theorem Eng.Own.appE (r : Own E H e v l) {sz bytes : Nat} (hsz : sz = E.w) (hb : (l.length + m.length) * bytes ≤ 140737488355328) (hn : l.length + m.length ≤ 140737488355328)
    {src : Option (Nat × List Value)} (hsrc : src = some (m.length, E.cells m)) :
    ∃ v' H', Eng.app e sz bytes v src H = some (v', H') ∧ Own E H' e v' (l ++ m) ∧ Fr (OnlyOf v) H H' ∧ (blockOf v' = blockOf v ∨ blockOf v' = some H.n) := by
  by_cases hm : m = []
  · subst hm hsrc
    refine ⟨v, H, ?_, by simpa using r, Fr.refl H, .inl rfl⟩
    rcases r with ⟨rfl, rfl⟩ | ⟨rfl, a, rfl, _, _⟩ | ⟨b, o, c, xs, rfl, _⟩ <;> rfl
  · obtain ⟨v', H', h1, h2, h3, h4, _⟩ := r.app hm hsz hb hn hsrc
    exact ⟨v', H', h1, h2, h3, h4⟩

/-- Appending to a row whose capacity is its length. -/
theorem Eng.Rd.appX {a : Option Addr} {n : Nat} (r : Rd E H (.slice a n (2 * n)) l) {sz bytes : Nat} (hsz : sz = E.w) (hb : (l.length + m.length) * bytes ≤ 140737488355328) (hn : l.length + m.length ≤ 140737488355328)
    {src : Option (Nat × List Value)} (hsrc : src = some (m.length, E.cells m)) (h0 : l ≠ []) :
    ∃ v' H', Eng.app e sz bytes (.slice a n (2 * n)) src H = some (v', H') ∧ Rd E H' v' (l ++ m) ∧ Still H H' ∧ (blockOf v' = a.map (·.block) ∨ blockOf v' = some H.n) := by
  subst hsz
  by_cases hm : m = []
  · subst hm hsrc
    refine ⟨_, H, rfl, by simpa using r, Fr.refl H, ?_⟩
    rcases r with h | ⟨h, _⟩ | ⟨b, o, c, hv, _⟩
    · exact absurd h.1 h0
    · exact absurd h h0
    · cases hv; exact .inl rfl
  · have hm0 : m.length ≠ 0 := fun h => hm (List.length_eq_zero_iff.1 h)
    rcases r with h | ⟨h, _⟩ | ⟨b, o, c, hv, hl, hbn, hc⟩
    · exact absurd h.1 h0
    · exact absurd h h0
    · cases hv
      refine ⟨.slice (some ⟨H.n, 0, none⟩) (l.length + m.length) (2 * (l.length + m.length) + 1), H.push (.cells (E.cells l ++ E.cells m) e true), ?_, ?_, (Fr.refl H).push _, .inr rfl⟩
      · have hold : oldOf E.w l.length H (some ⟨b, o, none⟩) = some (E.cells l) := by
          unfold oldOf
          rw [if_neg fun h => hl (List.length_eq_zero_iff.1 h)]
          simp only [cut_b, hc]
        have hbig : ¬ ((l.length + m.length) * bytes > 140737488355328 ∨ l.length + m.length > 140737488355328) := by omega
        have hroom : ¬ (l.length + m.length ≤ 2 * l.length / 2) := by omega
        have hone := E.cells_one m
        subst hsrc
        simp only [Eng.app, Option.bind_some, hm0, if_false, hbig, hroom, hone, Bool.true_eq_false, hold, show 2 * l.length % 2 = 0 by omega, if_true, Option.map_some]
      · refine .inr (.inr ⟨H.n, 0, _, by rw [List.length_append], by simp [hm], by simp, ?_⟩)
        rw [push_f_eq rfl, cutB_c (by simp [Nat.add_mul]), E.cells_append]
        rw [List.drop_zero, List.take_of_length_le (by simp [Nat.add_mul])]

/-- The first elements. -/
theorem Eng.Own.hi (r : Own E H e v l) {sz : Nat} (hsz : sz = E.w) {i : Nat} (hi : i ≤ l.length) {q : IntKind} : ∃ v', slS e sz v none (some (.int q (i : Int))) none H = some v' ∧ Rd E H v' (l.take i) := by
  subst hsz
  rcases r with ⟨rfl, rfl⟩ | ⟨rfl, ⟨b, o, s⟩, rfl, hs, hbb⟩ | ⟨b, o, c, xs, rfl, hl, hbn, hf, ho, hx⟩
  · simp only [List.length_nil, Nat.le_zero_eq] at hi
    subst hi
    exact ⟨.slice none 0 0, rfl, .inl ⟨by simp, rfl⟩⟩
  · simp only at hs
    subst hs
    simp only [List.length_nil, Nat.le_zero_eq] at hi
    subst hi
    exact ⟨.slice (some ⟨b, o, none⟩) 0 0, by simp [slS, lowOf, highOf, bnd], .inr (.inl ⟨by simp, _, _, rfl, rfl⟩)⟩
  · have hmul := Nat.mul_le_mul_right E.w hl
    have hmi := Nat.mul_le_mul_right E.w hi
    refine ⟨_, sl_hi hf (Nat.le_trans hi hl), ?_⟩
    have hlen : (l.take i).length = i := by simp; omega
    by_cases h0 : i = 0
    · subst h0; exact .inr (.inl ⟨by simp, _, _, rfl, rfl⟩)
    · refine .inr (.inr ⟨b, o, _, by rw [hlen], fun h => h0 (by rw [← hlen, h]; rfl), hbn, ?_⟩)
      rw [hlen, hf, cutB_c (by omega), ← E.cells_take, ← hx, List.take_take, Nat.min_eq_left hmi]

/-- The second cell of a pair. -/
theorem wr1_two {k k' : Blk} {o : Nat} {x y : ByteArray} {w : Value} (hc : cutB k o 2 = some [.string x, w]) (h : wrL k o [.string x, .string y] = some k') : wr1 k (o + 1) (.string y) = some k' := by
  unfold cutB at hc
  unfold wrL at h
  unfold wr1
  cases k with
  | cells xs e rw =>
    cases rw with
    | false => cases h
    | true =>
      simp only at hc h ⊢
      split at hc
      · rename_i hle
        rw [if_pos (by simpa using hle)] at h
        have hx : xs[o]? = some (.string x) := by
          have := congrArg (fun z => z[0]?) (Option.some.inj hc)
          simp only [List.getElem?_take, List.getElem?_drop] at this
          simpa using this
        rw [if_pos (by omega)]
        have he : xs.set o (.string x) = xs := by
          apply List.ext_getElem?
          intro j
          by_cases hj : j = o
          · subst hj; rw [List.getElem?_set_self (by omega), hx]
          · rw [List.getElem?_set_ne (by omega)]
        simp only [List.all_cons, List.all_nil, one_s, Bool.and_self, if_true, spl, he] at h
        rw [if_pos (one_s)]
        simpa using h
      · cases hc
  | _ => cases h

theorem Eng.Own.writeV {l : List Pr} (r : Own EPr H T.api_Pair v l) {i : Nat} (hi : i < l.length) (x : ByteArray) :
    ∃ b o H', ixS 2 v (.int .i64 (i : Int)) = some (.pointer (some ⟨b, o, none⟩)) ∧ setB H b (wr1 (H.f b) (o + 1) (.string x)) = some H' ∧ Own EPr H' T.api_Pair v (l.set i ⟨l[i].key, x⟩) ∧ blockOf v = some b ∧ b < H.n ∧
      H'.n = H.n ∧ Fr (fun c => c = b) H H' := by
  obtain ⟨b, o, H', h1, h2, h3, h4, h5, h6, h7, _⟩ := Own.write r hi ⟨l[i].key, x⟩
  obtain ⟨b2, o2, g1, g2, g3, _⟩ := r.rd.ix (q := .i64) hi
  have g1 : ixS 2 v (.int .i64 (i : Int)) = some (.pointer (some ⟨b2, o2, none⟩)) := g1
  rw [h1] at g1
  cases g1
  refine ⟨b, o, H', h1, ?_, h3, h4, h5, h6, h7⟩
  unfold setB at h2 ⊢
  obtain ⟨k', hk, rfl⟩ := Option.map_eq_some_iff.1 h2
  rw [wr1_two g3 hk]
  rfl

end Go.Proofs.YtlfpjndbpclnnaaGreatDoor

/-
  Sorted lists of pairs: ranges; a part in the middle.
  Conditions: none. By an AI agent.
-/
set_option maxRecDepth 10000
set_option linter.unusedSimpArgs false
set_option linter.unusedVariables false
namespace Go.Proofs.YtlfpjndbpclnnaaGreatDoor
open Go Eng

/-- Is a key in a range? -/
def inR (sf st : ByteArray) (a : Pr) : Bool := !decide (cmpS a.key sf < 0) && (decide (bl st = []) || decide (cmpS a.key st < 0))
/-- Where a range ends. -/
def endP (l : List Pr) (st : ByteArray) : Nat := if bl st = [] then l.length else posP l st

theorem filter_ge : ∀ {l : List Pr} (_ : Srt l) (k : ByteArray), l.filter (fun a => !decide (cmpS a.key k < 0)) = l.drop (posP l k)
  | [], _, _ => rfl
  | a :: l, hs, k => by
    obtain ⟨ha, hl⟩ := List.pairwise_cons.1 hs
    rw [posP]
    by_cases h : cmpS a.key k < 0
    · rw [if_pos h, List.filter_cons_of_neg (by simp [h]), List.drop_succ_cons]
      exact filter_ge hl k
    · rw [if_neg h, List.drop_zero, List.filter_eq_self]
      intro b hb
      rcases List.mem_cons.1 hb with rfl | hb
      · simp [h]
      · have := ha b hb
        simp only [Bool.not_eq_true', decide_eq_false_iff_not]
        exact fun hc => h (cmpS_trans this hc)
theorem filter_lt : ∀ {l : List Pr} (_ : Srt l) (k : ByteArray), l.filter (fun a => decide (cmpS a.key k < 0)) = l.take (posP l k)
  | [], _, _ => rfl
  | a :: l, hs, k => by
    obtain ⟨ha, hl⟩ := List.pairwise_cons.1 hs
    rw [posP]
    by_cases h : cmpS a.key k < 0
    · rw [if_pos h, List.filter_cons_of_pos (by simp [h]), List.take_succ_cons, filter_lt hl k]
    · rw [if_neg h, List.take_zero, List.filter_eq_nil_iff]
      intro b hb
      rcases List.mem_cons.1 hb with rfl | hb
      · simp [h]
      · have := ha b hb
        simp only [decide_eq_true_eq]
        exact fun hc => h (cmpS_trans this hc)
theorem posP_take : ∀ (l : List Pr) (k : ByteArray) (q : Nat), posP (l.take q) k = min (posP l k) q
  | [], k, q => by simp [posP]
  | a :: l, k, 0 => by simp [posP]
  | a :: l, k, q + 1 => by
    rw [List.take_succ_cons, posP, posP, posP_take l k q]
    split <;> omega

theorem filter_inR {l : List Pr} (hs : Srt l) (sf st : ByteArray) : l.filter (inR sf st) = (l.drop (posP l sf)).take (endP l st - posP l sf) := by
  unfold inR endP
  by_cases h : bl st = []
  · simp only [h, decide_true, Bool.true_or, Bool.and_true, if_true]
    rw [filter_ge hs sf, List.take_of_length_le (by simp)]
  · simp only [h, decide_false, Bool.false_or, if_false]
    rw [← List.filter_filter, filter_lt hs st, filter_ge (hs.sublist (List.take_sublist _ _)) sf, posP_take, ← List.drop_take]
    by_cases hle : posP l sf ≤ posP l st
    · rw [Nat.min_eq_left hle]
    · rw [Nat.min_eq_right (by omega), List.drop_eq_nil_of_le (by simp; omega), List.drop_eq_nil_of_le (by simp; omega)]

theorem rdLit (a : Pr) (H : AHeap) : Rd EPr (H.push (.cells [.string a.key, .string a.value] T.api_Pair true)) (.slice (some ⟨H.n, 0, none⟩) 1 2) [a] := by
  refine .inr (.inr ⟨H.n, 0, 2, rfl, by simp, by simp, ?_⟩)
  rw [push_f_eq rfl]
  rfl


/-- A part in the middle that is the function's own. -/
theorem Eng.Own.midO {α : Type} {E : Enc α} {H : AHeap} {e : TypeId} {v : Value} {l : List α} (r : Own E H e v l) {sz : Nat} (hsz : sz = E.w) {i j : Nat} (hi : i ≤ j) (hj : j ≤ l.length) {q q' : IntKind} :
    ∃ v', slS e sz v (some (.int q (i : Int))) (some (.int q' (j : Int))) none H = some v' ∧ Own E H e v' ((l.drop i).take (j - i)) ∧ blockOf v' = blockOf v := by
  subst hsz
  rcases r with ⟨rfl, rfl⟩ | ⟨rfl, ⟨b, o, s⟩, rfl, hs, hbb⟩ | ⟨b, o, c, xs, rfl, hl, hbn, hf, ho, hx⟩
  · simp only [List.length_nil, Nat.le_zero_eq] at hj
    subst hj
    simp only [Nat.le_zero_eq] at hi
    subst hi
    exact ⟨.slice none 0 0, rfl, .inl ⟨by simp, rfl⟩, rfl⟩
  · simp only at hs
    subst hs
    simp only [List.length_nil, Nat.le_zero_eq] at hj
    subst hj
    simp only [Nat.le_zero_eq] at hi
    subst hi
    exact ⟨.slice (some ⟨b, o, none⟩) 0 0, by simp [slS, lowOf, highOf, bnd], .inr (.inl ⟨by simp, _, rfl, rfl, hbb⟩), rfl⟩
  · have hmul := Nat.mul_le_mul_right E.w hl
    have hmj := Nat.mul_le_mul_right E.w hj
    have hmi := Nat.mul_le_mul_right E.w hi
    have hmc := Nat.mul_le_mul_right E.w (Nat.le_trans hj hl)
    refine ⟨_, sl_lohi hf hi (Nat.le_trans hj hl), .inr (.inr ⟨b, o + i * E.w, c - i, xs, ?_, ?_, hbn, hf, ?_, ?_⟩), rfl⟩
    · rw [show ((l.drop i).take (j - i)).length = j - i by simp; omega]
    · simp; omega
    · rw [Nat.sub_mul]; omega
    · have hlen : ((l.drop i).take (j - i)).length = j - i := by simp; omega
      have hsub : (j - i) * E.w = j * E.w - i * E.w := Nat.sub_mul _ _ _
      rw [hlen, ← E.cells_take, ← E.cells_drop, ← hx, List.drop_take, List.take_take, List.drop_drop, Nat.min_eq_left (by omega)]

end Go.Proofs.YtlfpjndbpclnnaaGreatDoor

/-
  The plain map's methods for any key, right or not; and two blocks of which only one is turned.
  Conditions: none. By an AI agent.
-/
set_option maxRecDepth 10000
set_option linter.unusedSimpArgs false
set_option linter.unusedVariables false
namespace Go.Proofs.YtlfpjndbpclnnaaGreatDoor
open Go Eng

theorem MdlT.blk {t : TypeId} {H : AHeap} {b : Nat} {l : List Pr} (r : MdlT t H b l) {c : Nat} (h : MBT t H b c) : c < H.n := by
  obtain ⟨v, h1, h2, h3, h4⟩ := r
  rcases h with h | ⟨u, hu, hb⟩
  · omega
  · rw [h1] at hu; cases hu; exact h3.blk hb


/-- A call that works on one map leaves another one. -/
theorem sep {t1 t2 : TypeId} {H H' : AHeap} {b1 b2 : Nat} {l2 : List Pr} (r2 : MdlT t2 H b2 l2) (dis : ∀ c, MBT t1 H b1 c → ¬ MBT t2 H b2 c) (u : UpT t1 H b1 H') :
    MdlT t2 H' b2 l2 ∧ (∀ c, MBT t2 H' b2 c → MBT t2 H b2 c) ∧ ∀ c, MBT t1 H' b1 c → ¬ MBT t2 H' b2 c := by
  have hb2 : ¬ MBT t1 H b1 b2 := fun h => dis b2 h (.inl rfl)
  have hlt : b2 < H.n := r2.blk (.inl rfl)
  have hf : H'.f b2 = H.f b2 := u.fr.f hlt hb2
  have hm : ∀ c, MBT t2 H' b2 c → MBT t2 H b2 c := fun c h => h.imp id fun ⟨v, hv, hb⟩ => ⟨v, by rw [← hf]; exact hv, hb⟩
  refine ⟨r2.keep u.fr hb2 fun v hv c hc h => dis c h (.inr ⟨v, hv, hc⟩), hm, fun c h1 h2 => ?_⟩
  have h2 := hm c h2
  rcases u.mb c h1 with h | h
  · exact dis c h h2
  · have := r2.blk h2; omega


theorem MBT_still {t : TypeId} {H H' : AHeap} {b : Nat} {l : List Pr} (r : MdlT t H b l) (s : Still H H') {c : Nat} (h : MBT t H' b c) : MBT t H b c := by
  obtain ⟨v, h1, h2, _⟩ := r
  exact h.imp id fun ⟨u, hu, hb⟩ => ⟨u, by rw [← s.f h2 (fun h => h)]; exact hu, hb⟩


def putE (l : List Pr) (a : Pr) : Int × List Pr := if chk a.key [a.value] = 0 then putP l a (posP l a.key) else (chk a.key [a.value], l)
def insertE (l : List Pr) (a : Pr) : Int × List Pr := if chk a.key [a.value] = 0 then insertP l a (posP l a.key) else (chk a.key [a.value], l)
def swapE (l : List Pr) (key old new : ByteArray) : Int × List Pr := if chk key [old, new] = 0 then swapP l key old new (posP l key) else (chk key [old, new], l)
def getE (l : List Pr) (key : ByteArray) : Value := if chk key [] = 0 then getP l key (posP l key) else .tuple #[.string (mk []), .int .i64 (chk key [])]
def delE (l : List Pr) (key : ByteArray) : List Pr := if chk key [] = 0 then (if isP l key (posP l key) = true then l.take (posP l key) ++ l.drop (posP l key + 1) else l) else l

theorem getE_shape (l : List Pr) (key : ByteArray) : ∃ s e, getE l key = .tuple #[.string s, .int .i64 e] := by
  unfold getE getP
  split
  · split <;> exact ⟨_, _, rfl⟩
  · exact ⟨_, _, rfl⟩


theorem q_putM (b : Nat) (l : List Pr) (a : Pr) (H : AHeap) (ok : Ok H) (r : Mdl H b l) (hs : Srt l) (hl : l.length ≤ 20000) :
    ∃ H', CC F.model_Model_Put [.pointer (some ⟨b, 0, none⟩), .string a.key, .string a.value] H = some (.int .i64 (putE l a).1, H') ∧ Mdl H' b (putE l a).2 ∧ Up H b H' := by
  unfold putE
  split
  · rename_i h; exact q_Put b l a H ok r hl _ (posP_pos hs a.key) h
  · rename_i h; exact ⟨H, q_Put_bad b l a H r h, r, Up.refl H b⟩
theorem q_getM (b : Nat) (l : List Pr) (key : ByteArray) (H : AHeap) (r : Mdl H b l) (hs : Srt l) (hl : l.length ≤ 20000) : CC F.model_Model_Get [.pointer (some ⟨b, 0, none⟩), .string key] H = some (getE l key, H) := by
  unfold getE
  split
  · rename_i h; exact q_Get b l key H r (by omega) _ (posP_pos hs key) h
  · rename_i h; exact q_Get_bad b key H h
theorem srt_putE {l : List Pr} (hs : Srt l) (a : Pr) : Srt (putE l a).2 := by
  unfold putE
  split
  · exact srt_put hs a
  · exact hs
theorem len_putE {l : List Pr} (hl : l.length ≤ 20000) (a : Pr) : (putE l a).2.length ≤ 20000 := by
  unfold putE
  split
  · exact len_put hl a
  · exact hl
theorem srt_insertE {l : List Pr} (hs : Srt l) (a : Pr) : Srt (insertE l a).2 := by
  unfold insertE
  split
  · exact srt_insert hs a
  · exact hs
theorem len_insertE {l : List Pr} (hl : l.length ≤ 20000) (a : Pr) : (insertE l a).2.length ≤ 20000 := by
  unfold insertE
  split
  · exact len_insert hl a
  · exact hl
theorem srt_swapE {l : List Pr} (hs : Srt l) (k o n : ByteArray) : Srt (swapE l k o n).2 := by
  unfold swapE
  split
  · exact srt_swap hs k o n
  · exact hs
theorem len_swapE {l : List Pr} (hl : l.length ≤ 20000) (k o n : ByteArray) : (swapE l k o n).2.length ≤ 20000 := by
  unfold swapE
  split
  · exact len_swap hl k o n
  · exact hl
theorem srt_delE {l : List Pr} (hs : Srt l) (k : ByteArray) : Srt (delE l k) := by
  unfold delE
  split
  · split
    · exact srt_del hs _
    · exact hs
  · exact hs
theorem len_delE {l : List Pr} (hl : l.length ≤ 20000) (k : ByteArray) : (delE l k).length ≤ 20000 := by
  unfold delE
  split
  · split
    · simp; omega
    · exact hl
  · exact hl

end Go.Proofs.YtlfpjndbpclnnaaGreatDoor

/-
  What a sorted list of pairs holds for a key, and how calls change it.
  Conditions: none. By an AI agent.
-/
set_option maxRecDepth 10000
set_option linter.unusedSimpArgs false
set_option linter.unusedVariables false
namespace Go.Proofs.YtlfpjndbpclnnaaGreatDoor
open Go Eng

/-- The value of a key. -/
def val (l : List Pr) (k : ByteArray) : Option ByteArray := (l.find? fun a => decide (a.key = k)).map Pr.value

theorem val_none {l : List Pr} {k : ByteArray} (h : ∀ a ∈ l, ¬ a.key = k) : val l k = none := by
  unfold val
  rw [List.find?_eq_none.2 (by simpa using h)]
  rfl
theorem val_cons (a : Pr) (l : List Pr) (k : ByteArray) : val (a :: l) k = if a.key = k then some a.value else val l k := by
  unfold val
  rw [List.find?_cons]
  by_cases h : a.key = k
  · simp [h]
  · simp [h]
theorem val_append (l m : List Pr) (k : ByteArray) : val (l ++ m) k = (val l k).or (val m k) := by
  unfold val
  rw [List.find?_append]
  cases List.find? (fun a => decide (a.key = k)) l <;> rfl
theorem val_mem : ∀ {l : List Pr} (_ : Srt l) {a : Pr}, a ∈ l → val l a.key = some a.value
  | [], _, _, h => by cases h
  | b :: l, hs, a, h => by
    obtain ⟨hb, hl⟩ := List.pairwise_cons.1 hs
    rw [val_cons]
    rcases List.mem_cons.1 h with rfl | h
    · rw [if_pos rfl]
    · have := hb a h
      rw [if_neg fun he => by rw [he, cmpS_self] at this; omega]
      exact val_mem hl h

theorem val_isP {l : List Pr} (hs : Srt l) (k : ByteArray) : val l k = if isP l k (posP l k) = true then some ((l[posP l k]?).elim (mk []) Pr.value) else none := by
  by_cases h : isP l k (posP l k) = true
  · obtain ⟨hp, he⟩ := isP_eq h
    rw [if_pos h, List.getElem?_eq_getElem hp]
    have := val_mem hs (List.getElem_mem hp)
    rw [he] at this
    exact this
  · rw [if_neg h]
    refine val_none fun a ha hk => h ?_
    obtain ⟨i, hi, rfl⟩ := List.getElem_of_mem ha
    rw [← hk]
    exact isP_self hs hi
theorem getP_val {l : List Pr} (hs : Srt l) (k : ByteArray) : getP l k (posP l k) = match val l k with | some v => .tuple #[.string v, .int .i64 0] | none => .tuple #[.string (mk []), .int .i64 9] := by
  rw [val_isP hs]
  unfold getP
  split <;> rfl

theorem val_set {a : Pr} {k : ByteArray} (hk : ¬ a.key = k) : ∀ (l : List Pr) (p : Nat), (∀ h : p < l.length, l[p].key = a.key) → val (l.set p a) k = val l k
  | [], _, _ => rfl
  | b :: l, 0, h => by
    have := h (by simp)
    rw [List.set_cons_zero, val_cons, val_cons, if_neg hk, if_neg (by rw [show b.key = a.key from this]; exact hk)]
  | b :: l, p + 1, h => by
    rw [List.set_cons_succ, val_cons, val_cons, val_set hk l p fun hp => h (by simpa using hp)]
theorem val_ins {a : Pr} {k : ByteArray} (hk : ¬ a.key = k) (l : List Pr) (p : Nat) : val (l.take p ++ a :: l.drop p) k = val l k := by
  rw [val_append, val_cons, if_neg hk, ← val_append, List.take_append_drop]
theorem val_del {l : List Pr} {k : ByteArray} {p : Nat} (hp : p < l.length) (hk : ¬ l[p].key = k) : val (l.take p ++ l.drop (p + 1)) k = val l k := by
  have e : l = l.take p ++ l[p] :: l.drop (p + 1) := by rw [← List.drop_eq_getElem_cons hp, List.take_append_drop]
  have h2 : val l k = val (l.take p ++ l[p] :: l.drop (p + 1)) k := by rw [← e]
  rw [h2, val_append, val_append, val_cons, if_neg hk]
theorem val_del_self {l : List Pr} (hs : Srt l) {p : Nat} (hp : p < l.length) : val (l.take p ++ l.drop (p + 1)) l[p].key = none := by
  refine val_none fun a ha hk => ?_
  rcases List.mem_append.1 ha with h | h
  · obtain ⟨i, hi, rfl⟩ := List.getElem_of_mem h
    rw [List.getElem_take] at hk
    have hi' : i < p := by simp at hi; omega
    have := List.pairwise_iff_getElem.1 hs i p (by omega) hp hi'
    rw [hk, cmpS_self] at this
    omega
  · obtain ⟨i, hi, rfl⟩ := List.getElem_of_mem h
    rw [List.getElem_drop] at hk
    have hi' : p + 1 + i < l.length := by simp at hi; omega
    have := List.pairwise_iff_getElem.1 hs p (p + 1 + i) hp hi' (by omega)
    rw [hk, cmpS_self] at this
    omega

/-- What a call makes of the value of a key: where there is no error, the key has the new value; nothing else is changed. -/
structure Eff (l l' : List Pr) (e : Int) (key : ByteArray) (v : Option ByteArray) : Prop where
  self : e = 0 → val l' key = v
  other : ∀ k, ¬ key = k → val l' k = val l k
  err : e ≠ 0 → l' = l

theorem eff_put {l : List Pr} (hs : Srt l) (a : Pr) : Eff l (putP l a (posP l a.key)).2 (putP l a (posP l a.key)).1 a.key (some a.value) := by
  have hs' := srt_put hs a
  unfold putP at hs' ⊢
  split
  · rename_i h
    rw [if_pos h] at hs'
    obtain ⟨hp, he⟩ := isP_eq h
    exact ⟨fun _ => val_mem hs' (List.mem_iff_getElem.2 ⟨posP l a.key, by simpa using hp, by simp⟩), fun k hk => val_set hk l _ fun _ => he, fun h => absurd rfl h⟩
  · rename_i h
    rw [if_neg h] at hs'
    split
    · exact ⟨fun h => (by simp at h), fun k _ => rfl, fun _ => rfl⟩
    · rename_i h2
      rw [if_neg h2] at hs'
      exact ⟨fun _ => val_mem hs' (by simp), fun k hk => val_ins hk l _, fun h => absurd rfl h⟩
theorem eff_insert {l : List Pr} (hs : Srt l) (a : Pr) : Eff l (insertP l a (posP l a.key)).2 (insertP l a (posP l a.key)).1 a.key (some a.value) := by
  have hs' := srt_insert hs a
  unfold insertP at hs' ⊢
  split
  · exact ⟨fun h => (by simp at h), fun k _ => rfl, fun _ => rfl⟩
  · rename_i h
    rw [if_neg h] at hs'
    split
    · exact ⟨fun h => (by simp at h), fun k _ => rfl, fun _ => rfl⟩
    · rename_i h2
      rw [if_neg h2] at hs'
      exact ⟨fun _ => val_mem hs' (by simp), fun k hk => val_ins hk l _, fun h => absurd rfl h⟩
theorem eff_swap {l : List Pr} (hs : Srt l) (key old new : ByteArray) : Eff l (swapP l key old new (posP l key)).2 (swapP l key old new (posP l key)).1 key (some new) := by
  have hs' := srt_swap hs key old new
  unfold swapP at hs' ⊢
  split
  · rename_i h
    rw [if_pos h] at hs'
    obtain ⟨hp, he⟩ := isP_eq h
    split
    · rename_i h2
      rw [if_pos h2] at hs'
      exact ⟨fun _ => val_mem (a := ⟨key, new⟩) hs' (List.mem_iff_getElem.2 ⟨posP l key, by simpa using hp, by simp⟩), fun k hk => val_set (a := ⟨key, new⟩) hk l _ fun _ => he, fun h => absurd rfl h⟩
    · exact ⟨fun h => (by simp at h), fun k _ => rfl, fun _ => rfl⟩
  · exact ⟨fun h => (by simp at h), fun k _ => rfl, fun _ => rfl⟩
theorem eff_delete {l : List Pr} (hs : Srt l) (key : ByteArray) : Eff l (if isP l key (posP l key) = true then l.take (posP l key) ++ l.drop (posP l key + 1) else l) (if isP l key (posP l key) = true then 0 else 9) key none := by
  split
  · rename_i h
    obtain ⟨hp, he⟩ := isP_eq h
    refine ⟨fun _ => ?_, fun k hk => val_del hp (by rw [he]; exact hk), fun h => absurd rfl h⟩
    have := val_del_self hs hp
    rw [he] at this
    exact this
  · exact ⟨fun h => (by simp at h), fun k _ => rfl, fun _ => rfl⟩

/-! ### Sorted lists with the same elements -/
theorem srt_ext : ∀ {c l : List Pr} (_ : Srt c) (_ : Srt l), (∀ a, a ∈ c ↔ a ∈ l) → c = l
  | [], [], _, _, _ => rfl
  | [], b :: l, _, _, h => by have := (h b).2 (by simp); cases this
  | a :: c, [], _, _, h => by have := (h a).1 (by simp); cases this
  | a :: c, b :: l, hc, hl, h => by
    obtain ⟨ha, hc'⟩ := List.pairwise_cons.1 hc
    obtain ⟨hb, hl'⟩ := List.pairwise_cons.1 hl
    have e : a = b := by
      rcases List.mem_cons.1 ((h a).1 (by simp)) with h1 | h1
      · exact h1
      · rcases List.mem_cons.1 ((h b).2 (by simp)) with h2 | h2
        · exact h2.symm
        · have := cmpS_trans (ha b h2) (hb a h1)
          rw [cmpS_self] at this
          omega
    subst e
    rw [srt_ext hc' hl' fun x => ?_]
    constructor
    · intro hx
      rcases List.mem_cons.1 ((h x).1 (List.mem_cons_of_mem _ hx)) with h1 | h1
      · have := ha x hx
        rw [h1, cmpS_self] at this
        omega
      · exact h1
    · intro hx
      rcases List.mem_cons.1 ((h x).2 (List.mem_cons_of_mem _ hx)) with h1 | h1
      · have := hb x hx
        rw [h1, cmpS_self] at this
        omega
      · exact h1

/-! ### Allowed pairs -/
def AllOk (l : List Pr) : Prop := ∀ a ∈ l, chk a.key [a.value] = 0
theorem ofErr_ok : ∀ {l : List Pr} (o : Option Pr), Srt l → AllOk l → (∀ b, o = some b → ∀ a ∈ l, cmpS b.key a.key < 0) → ofErr o l = 0
  | [], _, _, _, _ => rfl
  | a :: l, o, hs, hk, ho => by
    obtain ⟨ha, hl⟩ := List.pairwise_cons.1 hs
    have h1 : chk a.key [a.value] = 0 := hk a (by simp)
    have h2 : (o.elim false fun b => decide (0 ≤ cmpS b.key a.key)) = false := by
      cases o with
      | none => rfl
      | some b =>
        have := ho b rfl a (by simp)
        simp; omega
    rw [ofErr, if_neg (by simp [h1]), h2, if_neg (by simp)]
    exact ofErr_ok (some a) hl (fun b hb => hk b (by simp [hb])) fun b hb => by cases hb; exact ha
theorem allOk_put {l : List Pr} (h : AllOk l) {a : Pr} (ha : chk a.key [a.value] = 0) (p : Nat) : AllOk (putP l a p).2 := by
  unfold putP
  split
  · intro b hb
    rcases List.mem_or_eq_of_mem_set hb with hb | rfl
    · exact h b hb
    · exact ha
  · split
    · exact h
    · intro b hb
      rcases List.mem_append.1 hb with hb | hb
      · exact h b (List.mem_of_mem_take hb)
      · rcases List.mem_cons.1 hb with rfl | hb
        · exact ha
        · exact h b (List.mem_of_mem_drop hb)
theorem allOk_insert {l : List Pr} (h : AllOk l) {a : Pr} (ha : chk a.key [a.value] = 0) (p : Nat) : AllOk (insertP l a p).2 := by
  unfold insertP
  split
  · exact h
  · split
    · exact h
    · intro b hb
      rcases List.mem_append.1 hb with hb | hb
      · exact h b (List.mem_of_mem_take hb)
      · rcases List.mem_cons.1 hb with rfl | hb
        · exact ha
        · exact h b (List.mem_of_mem_drop hb)
theorem allOk_swap {l : List Pr} (h : AllOk l) {key old new : ByteArray} (ha : chk key [new] = 0) (p : Nat) : AllOk (swapP l key old new p).2 := by
  unfold swapP
  split
  · split
    · intro b hb
      rcases List.mem_or_eq_of_mem_set hb with hb | rfl
      · exact h b hb
      · exact ha
    · exact h
  · exact h
theorem allOk_sub {l m : List Pr} (h : AllOk l) (hm : ∀ a ∈ m, a ∈ l) : AllOk m := fun a ha => h a (hm a ha)

end Go.Proofs.YtlfpjndbpclnnaaGreatDoor

/-
  The plain map: pairs that are right; a map made since some moment; a pair of a slice.
  Conditions: none. By an AI agent.
-/
set_option maxRecDepth 10000
set_option linter.unusedSimpArgs false
set_option linter.unusedVariables false
namespace Go.Proofs.YtlfpjndbpclnnaaGreatDoor
open Go Eng

theorem rd_pair {H : AHeap} {v : Value} {l : List Pr} (hr : Rd EPr H v l) {i : Nat} (hi : i < l.length) {iv : Int} (hiv : iv = (i : Int)) :
    ∃ b o, ixS 2 v (.int .i64 iv) = some (.pointer (some ⟨b, o, none⟩)) ∧ cellB (H.f b) o = some (.string l[i].key) ∧ cellB (H.f b) (o + 1) = some (.string l[i].value) ∧ b < H.n := by
  obtain ⟨b1, o1, ix, hb, hc, _⟩ := hr.ix (q := .i64) hi
  have ix : ixS 2 v (.int .i64 (i : Int)) = some (.pointer (some ⟨b1, o1, none⟩)) := ix
  have hc : cutB (H.f b1) o1 2 = some [.string l[i].key, .string l[i].value] := hc
  have c0 := cutB_cell hc (i := 0) (by decide)
  have c1 := cutB_cell hc (i := 1) (by decide)
  subst hiv
  exact ⟨b1, o1, ix, c0, c1, hb⟩

def VOk (l : List Pr) : Prop := ∀ a ∈ l, chk a.key [a.value] = 0
theorem chk_len {k v : ByteArray} (h : chk k [v] = 0) : bl k ≠ [] ∧ (bl k).length ≤ 24 ∧ (bl v).length ≤ 40 := by
  unfold chk at h
  split at h
  · cases h
  · rename_i h1
    split at h
    · cases h
    · rename_i h2
      simp at h2
      exact ⟨h1, h2.1, h2.2⟩
theorem VOk.sz {l : List Pr} (h : VOk l) : ∀ a ∈ l, (bl a.key).length ≤ 1000 ∧ (bl a.value).length ≤ 1000 := fun a ha => by
  have := chk_len (h a ha); omega
theorem vok_ins {l : List Pr} (h : VOk l) {a : Pr} (ha : chk a.key [a.value] = 0) (p : Nat) : VOk (l.take p ++ a :: l.drop p) := fun x hx => by
  rcases List.mem_append.1 hx with hx | hx
  · exact h x (List.mem_of_mem_take hx)
  · rcases List.mem_cons.1 hx with rfl | hx
    · exact ha
    · exact h x (List.mem_of_mem_drop hx)
theorem vok_insertE {l : List Pr} (h : VOk l) (a : Pr) : VOk (insertE l a).2 := by
  unfold insertE
  split
  · rename_i hc
    unfold insertP
    split
    · exact h
    · split
      · exact h
      · exact vok_ins h hc _
  · exact h
theorem vok_putE {l : List Pr} (h : VOk l) (a : Pr) : VOk (putE l a).2 := by
  unfold putE
  split
  · rename_i hc
    unfold putP
    split
    · intro x hx
      rcases List.mem_or_eq_of_mem_set hx with hx | rfl
      · exact h x hx
      · exact hc
    · split
      · exact h
      · exact vok_ins h hc _
  · exact h

/-- A map made since H0. -/
structure Fresh (H0 H : AHeap) (bm : Nat) (l : List Pr) : Prop where
  still : Still H0 H
  ok : Ok H
  mdl : Mdl H bm l
  new : ∀ c, MB H bm c → H0.n ≤ c
  srt : Srt l
  len : l.length ≤ 20000
  vok : VOk l
theorem Fresh.start {H H1 : AHeap} (ok : Ok H) (h : H.push (.cells [.slice none 0 0] T.model_Model true) = H1) : Fresh H H1 H.n [] := by
  have s : Still H H1 := by rw [← h]; exact (Fr.refl H).push _
  have f : H1.f H.n = .cells [.slice none 0 0] T.model_Model true := by rw [← h]; exact push_f_eq rfl
  refine ⟨s, ok.fr s, ⟨_, f, by rw [← h]; exact Nat.lt_succ_self _, .inl ⟨rfl, rfl⟩, by simp [blockOf]⟩, fun c hc => ?_, List.Pairwise.nil, by simp, fun a ha => by simp at ha⟩
  have e : c = H.n := hc.elim id fun ⟨u, hu, hb⟩ => by rw [f] at hu; cases hu; cases hb
  omega
theorem Fresh.to {H0 H H' : AHeap} {bm : Nat} {l : List Pr} (r : Fresh H0 H bm l) (s : Still H H') : Fresh H0 H' bm l :=
  ⟨r.still.trans s, r.ok.fr s, r.mdl.still s, fun c h => r.new c (MBT_still r.mdl s h), r.srt, r.len, r.vok⟩
theorem Fresh.up {H0 H H' : AHeap} {bm : Nat} {l l' : List Pr} (r : Fresh H0 H bm l) (m : Mdl H' bm l') (u : Up H bm H') (h1 : Srt l') (h2 : l'.length ≤ 20000) (h3 : VOk l') : Fresh H0 H' bm l' :=
  ⟨r.still.then u.fr fun c hc h => by have := r.new c h; omega, r.ok.fr u.fr, m, fun c h => by
    rcases u.mb c h with h | h
    · exact r.new c h
    · have := r.still.n; omega, h1, h2, h3⟩
theorem Fresh.put {H0 H : AHeap} {bm : Nat} {l : List Pr} (r : Fresh H0 H bm l) (a : Pr) :
    ∃ H', CC F.model_Model_Put [.pointer (some ⟨bm, 0, none⟩), .string a.key, .string a.value] H = some (.int .i64 (putE l a).1, H') ∧ Fresh H0 H' bm (putE l a).2 ∧ Fr (MB H bm) H H' := by
  obtain ⟨H', e1, e2, e3⟩ := q_putM bm l a H r.ok r.mdl r.srt r.len
  exact ⟨H', e1, r.up e2 e3 (srt_putE r.srt a) (len_putE r.len a) (vok_putE r.vok a), e3.fr⟩

theorem vok_delE {l : List Pr} (h : VOk l) (k : ByteArray) : VOk (delE l k) := by
  unfold delE
  split
  · split
    · intro x hx
      rcases List.mem_append.1 hx with hx | hx
      · exact h x (List.mem_of_mem_take hx)
      · exact h x (List.mem_of_mem_drop hx)
    · exact h
  · exact h

end Go.Proofs.YtlfpjndbpclnnaaGreatDoor

/-
  Bytes: rows of them, appended to; strings of them.
  Conditions: none. By an AI agent.
-/
set_option maxRecDepth 10000
set_option linter.unusedSimpArgs false
set_option linter.unusedVariables false
namespace Go.Proofs.YtlfpjndbpclnnaaGreatDoor
open Go Eng

abbrev BR (H : AHeap) (v : Value) (l : List UInt8) : Prop := RdS EB T.uint8 H v l
theorem BR.str {H : AHeap} {v : Value} {l : List UInt8} (r : BR H v l) : xconv Tryz.prog T.sl_uint8 T.string v H = some (.string (mk l), H) :=
  conv_bs (P := Tryz.prog) (t := T.sl_uint8) (s := T.string) (e := T.uint8) Tryz.underlying85 Tryz.underlying5 Tryz.underlying9 r.1
theorem newB {H : AHeap} {l : List UInt8} {b : Nat} (hb : b < H.n) (hf : H.f b = .cells (EB.cells l) T.uint8 true) : RdS EB T.uint8 H (.slice (some ⟨b, 0, none⟩) l.length (2 * l.length)) l := by
  refine ⟨?_, .inr ⟨b, 0, _, _, rfl, by omega, .inl (by omega), hb⟩⟩
  by_cases h0 : l = []
  · subst h0; exact .inr (.inl ⟨rfl, _, _, rfl, rfl⟩)
  · refine .inr (.inr ⟨b, 0, _, rfl, h0, hb, ?_⟩)
    rw [hf, cutB_c (by simp), List.drop_zero, List.take_of_length_le (by simp)]
def by8 (n : Nat) : UInt8 := UInt8.ofNat n
theorem by8_cell (n : Nat) : byteCell (by8 n) = .int .u8 ((n : Int) % 256) := by
  unfold byteCell by8
  rw [UInt8.toNat_ofNat']
  rfl
theorem cells_one (a : Nat) : EB.cells [by8 a] = [.int .u8 ((a : Int) % 256)] := by
  rw [EB_cells]; simp only [List.map_cons, List.map_nil, by8_cell]

/-- In a heap in which nothing that was in H0 has turned, a row of its own made since. -/
structure Since (H0 H : AHeap) (v : Value) (l : List UInt8) : Prop where
  still : Still H0 H
  own : Own EB H T.uint8 v l
  new : ∀ b, blockOf v = some b → H0.n ≤ b
theorem Since.nil {H : AHeap} : Since H H (.slice none 0 0) [] := ⟨Fr.refl H, .inl ⟨rfl, rfl⟩, fun b h => by cases h⟩
theorem Since.app {H0 H : AHeap} {v : Value} {l : List UInt8} (r : Since H0 H v l) (m : List UInt8) {src : Option (Nat × List Value)} (hsrc : src = some (m.length, EB.cells m)) (hb : l.length + m.length ≤ 1000000000000) :
    ∃ v' H', Eng.app T.uint8 1 1 v src H = some (v', H') ∧ Since H0 H' v' (l ++ m) := by
  obtain ⟨v', H', e1, e2, e3, e4⟩ := r.own.appA m (sz := 1) (bytes := 1) rfl (by omega) (by omega) hsrc
  refine ⟨v', H', e1, r.still.then e3 fun b hb h => ?_, e2, fun b h => ?_⟩
  · unfold OnlyOf at h; have := r.new b h; omega
  · rcases e4 with h4 | h4
    · rw [h4] at h; exact r.new b h
    · rw [h4] at h; cases h; exact r.still.n
theorem Since.to {H0 H H' : AHeap} {v : Value} {l : List UInt8} (r : Since H0 H v l) (s : Still H H') : Since H0 H' v l := ⟨r.still.trans s, r.own.still s, r.new⟩
theorem Since.lit {H0 H : AHeap} {v : Value} {l : List UInt8} (r : Since H0 H v l) (m : List UInt8) {H1 : AHeap} (h1 : H.push (.cells (EB.cells m) T.uint8 true) = H1) (hb : l.length + m.length ≤ 1000000000000) :
    ∃ v' H', Eng.app T.uint8 1 1 v (srcS 1 (.slice (some ⟨H.n, 0, none⟩) m.length (2 * m.length)) H1) H1 = some (v', H') ∧ Since H0 H' v' (l ++ m) := by
  have s1 : Still H H1 := by rw [← h1]; exact (Fr.refl H).push _
  have n1 : H1.n = H.n + 1 := by rw [← h1]; rfl
  have f1 : H1.f H.n = .cells (EB.cells m) T.uint8 true := by rw [← h1]; exact push_f_eq rfl
  have rm : BR H1 (.slice (some ⟨H.n, 0, none⟩) m.length (2 * m.length)) m := newB (by omega) f1
  exact (r.to s1).app m (rm.1.src (sz := 1) rfl) hb
theorem str_add {t : TypeId} {ox oy : Operand} {a b : ByteArray} (h : (bl a).length + (bl b).length ≤ 4611686018427387904) : xbin Tryz.prog .add t ox oy (.string a) (.string b) = some (.string (mk (bl a ++ bl b))) := by
  show strOp .add a b = _
  unfold strOp
  simp only [if_pos h]
theorem str_add' {t : TypeId} {ox oy : Operand} {a b : List UInt8} (h : a.length + b.length ≤ 4611686018427387904) : xbin Tryz.prog .add t ox oy (.string (mk a)) (.string (mk b)) = some (.string (mk (a ++ b))) := by
  have := str_add (t := t) (ox := ox) (oy := oy) (a := mk a) (b := mk b) (by rw [bl_mk, bl_mk]; exact h)
  rwa [bl_mk, bl_mk] at this
theorem srcT_b (s : ByteArray) : srcT (.string s) = some ((bl s).length, EB.cells (bl s)) := by
  show some ((bl s).length, (bl s).map byteCell) = _
  rw [EB_cells]
/-- A string of one byte. -/
theorem one_str {H : AHeap} (a : Nat) {H1 : AHeap} (h1 : H.push (.cells [.int .u8 ((a : Int) % 256)] T.uint8 true) = H1) : Still H H1 ∧ xconv Tryz.prog T.sl_uint8 T.string (.slice (some ⟨H.n, 0, none⟩) 1 2) H1 = some (.string (mk [by8 a]), H1) := by
  have s1 : Still H H1 := by rw [← h1]; exact (Fr.refl H).push _
  have n1 : H1.n = H.n + 1 := by rw [← h1]; rfl
  have f1 : H1.f H.n = .cells (EB.cells [by8 a]) T.uint8 true := by rw [cells_one, ← h1]; exact push_f_eq rfl
  exact ⟨s1, BR.str (newB (l := [by8 a]) (by omega) f1)⟩

theorem xix {s : ByteArray} {i : Nat} (h : i < (bl s).length) : xindex Tryz.prog T.string (.string s) (.int .i64 (i : Int)) = some (.int .u8 ((bl s)[i].toNat : Int)) := by
  have e : xindex Tryz.prog T.string (.string s) (.int .i64 (i : Int)) = (if (0 : Int) ≤ (i : Int) then ((bl s)[(i : Int).toNat]?).map byteCell else none) := by
    have hu : Tryz.prog.underlying T.string = some .string := Tryz.underlying9
    unfold xindex; rw [hu]
  rw [e, if_pos (by omega), Int.toNat_natCast, List.getElem?_eq_getElem h]
  rfl
theorem x_sb (l : List UInt8) (H : AHeap) : xconv Tryz.prog T.string T.sl_uint8 (.string (mk l)) H = some (.slice (some ⟨H.n, 0, none⟩) l.length (2 * l.length + 1), H.push (.cells (EB.cells l) T.uint8 true)) := by
  have h1 : Tryz.prog.underlying T.string = some .string := Tryz.underlying9
  have h2 : Tryz.prog.underlying T.sl_uint8 = some (.slice T.uint8) := Tryz.underlying85
  have h3 : Tryz.prog.underlying T.uint8 = some (.int .u8) := Tryz.underlying5
  have h4 : Tryz.prog.cellsOf T.uint8 = 1 := by kernel_rfl
  unfold xconv
  simp only [h1, h2, h3, h4, if_true, bl_mk, EB_cells]
theorem own_sb {H : AHeap} {l : List UInt8} {b : Nat} (hb : b < H.n) (hf : H.f b = .cells (EB.cells l) T.uint8 true) : Own EB H T.uint8 (.slice (some ⟨b, 0, none⟩) l.length (2 * l.length + 1)) l := by
  refine .inr (.inr ⟨b, 0, l.length, _, rfl, Nat.le_refl _, hb, hf, ?_, ?_⟩)
  · rw [Enc.cells_len]; omega
  · rw [List.drop_zero, List.take_of_length_le (by rw [Enc.cells_len]; exact Nat.le_refl _)]
theorem slT_two {s : ByteArray} {q q' : IntKind} {i j : Nat} (h1 : i ≤ j) (h2 : j ≤ (bl s).length) : slT (.string s) (some (.int q (i : Int))) (some (.int q' (j : Int))) = some (.string (mk (((bl s).take j).drop i))) := by
  show ((highOf (bl s).length (bl s).length (some (.int q' (j : Int)))).bind fun h => (lowOf h (some (.int q (i : Int)))).map fun l => Value.string (mk (((bl s).take h).drop l))) = _
  rw [high_nat h2]
  show ((lowOf j (some (.int q (i : Int)))).map fun l => Value.string (mk (((bl s).take j).drop l))) = _
  rw [low_nat h1]
  rfl
theorem add_u8 {t : TypeId} {ox oy : Operand} {a b : Int} (h : 0 ≤ a + b ∧ a + b < 256) : xbin Tryz.prog .add t ox oy (.int .u8 a) (.int .u8 b) = some (.int .u8 (a + b)) := by
  rw [xbin_add, wrapU8, Int.emod_eq_of_lt h.1 h.2]
theorem sub_u8 {t : TypeId} {ox oy : Operand} {a b : Int} (h : 0 ≤ a - b ∧ a - b < 256) : xbin Tryz.prog .sub t ox oy (.int .u8 a) (.int .u8 b) = some (.int .u8 (a - b)) := by
  rw [xbin_sub, wrapU8, Int.emod_eq_of_lt h.1 h.2]

end Go.Proofs.YtlfpjndbpclnnaaGreatDoor

/-
  Chapter 47: givers that are nil or zero.
  Conditions: none. By an AI agent.
-/
set_option maxRecDepth 10000
set_option linter.unusedSimpArgs false
set_option linter.unusedVariables false
namespace Go.Proofs.YtlfpjndbpclnnaaGreatDoor
open Go Eng

@[go_sem] theorem gpe_nil {ox oy : Operand} : xbin Tryz.prog .eql T.p_ids_Giver ox oy (.pointer none) (.pointer none) = some (.bool true) := by kernel_rfl
@[go_sem] theorem gpe_some {ox oy : Operand} {a : Addr} : xbin Tryz.prog .eql T.p_ids_Giver ox oy (.pointer (some a)) (.pointer none) = some (.bool false) := by kernel_rfl
@[go_sem] theorem gpn_nil {ox oy : Operand} : xbin Tryz.prog .neq T.p_ids_Giver ox oy (.pointer none) (.pointer none) = some (.bool false) := by kernel_rfl
@[go_sem] theorem gpn_some {ox oy : Operand} {a : Addr} : xbin Tryz.prog .neq T.p_ids_Giver ox oy (.pointer (some a)) (.pointer none) = some (.bool true) := by kernel_rfl
theorem blk_eq {ox oy : Operand} {a b c d : Int} : xbin Tryz.prog .eql T.api_Block ox oy (.agg #[.int .i64 a, .int .i64 b]) (.agg #[.int .i64 c, .int .i64 d]) = some (.bool (decide (a = c) && decide (b = d))) := by
  have h := agg_eq (P := Tryz.prog) (t := T.api_Block) (xs := [.int .i64 a, .int .i64 b]) (ys := [.int .i64 c, .int .i64 d]) (ox := ox) (oy := oy) Tryz.underlying50 (by kernel_rfl) (by kernel_rfl) (by kernel_rfl) rfl rfl
  rw [h]
  simp [ceqs, ceq]
theorem blk_ne {ox oy : Operand} {a b c d : Int} : xbin Tryz.prog .neq T.api_Block ox oy (.agg #[.int .i64 a, .int .i64 b]) (.agg #[.int .i64 c, .int .i64 d]) = some (.bool (!(decide (a = c) && decide (b = d)))) := by
  have h := agg_ne (P := Tryz.prog) (t := T.api_Block) (xs := [.int .i64 a, .int .i64 b]) (ys := [.int .i64 c, .int .i64 d]) (ox := ox) (oy := oy) Tryz.underlying50 (by kernel_rfl) (by kernel_rfl) (by kernel_rfl) rfl rfl
  rw [h]
  simp [ceqs, ceq]

@[go_sem] theorem xload_Block {a : Value} {H : AHeap} : xload Tryz.prog T.api_Block a H = ldN 2 H a := by kernel_rfl

/-! ### no giver -/
def NoG (H : AHeap) (g : Value) : Prop := g = .pointer none ∨ ∃ b, g = .pointer (some ⟨b, 0, none⟩) ∧ b < H.n ∧ cellB (H.f b) 0 = some (.int .i64 0)
theorem NoG.still {H H' : AHeap} {g : Value} (h : NoG H g) (s : Still H H') : NoG H' g := by
  rcases h with h | ⟨b, h1, h2, h3⟩
  · exact .inl h
  · exact .inr ⟨b, h1, by have := s.n; omega, by rw [s.f h2 (fun h => h)]; exact h3⟩
theorem q_none_yes (g : Value) (H : AHeap) (h : NoG H g) : CC F.ids_Giver_none [g] H = some (.bool true, H) := by
  rcases h with rfl | ⟨b, rfl, _, h3⟩
  · apply pure_of _ (d_ids_Giver_none _ H) rfl
    rotate_left 2
    · simp (disch := first | with_reducible rfl | assumption | omega | rfl | (simp only [go_sem]; first | done | omega)) only [go_sem, ↓reduceIte, reduceCtorEq, Nat.reduceEqDiff, Nat.reduceAdd, Nat.reduceSub, Nat.reduceMul, Nat.reduceDiv, Nat.reduceMod, Nat.reduceLeDiff, Nat.reduceLT, Nat.reduceBEq, Int.reduceEq, Int.reduceBEq, Int.reduceBNe, Int.reduceLT, Int.reduceLE, Int.reduceAdd, Int.reduceSub, Int.reduceNeg, Int.reduceToNat, Int.reducePow, Nat.reducePow, Int.reduceMul, Int.reduceDiv, ↓s_ids_Giver_none]
      rfl
    · (repeat (first | exact Fr.refl _ | refine Fr.push ?_ _ | refine Fr.set ?_ _ _ (by intro h; first | omega | (simp only [go_sem] at h; omega))))
  · apply pure_of _ (d_ids_Giver_none _ H) rfl
    rotate_left 2
    · simp (disch := first | with_reducible rfl | assumption | omega | rfl | (simp only [go_sem]; first | done | omega)) only [go_sem, ↓reduceIte, reduceCtorEq, Nat.reduceEqDiff, Nat.reduceAdd, Nat.reduceSub, Nat.reduceMul, Nat.reduceDiv, Nat.reduceMod, Nat.reduceLeDiff, Nat.reduceLT, Nat.reduceBEq, Int.reduceEq, Int.reduceBEq, Int.reduceBNe, Int.reduceLT, Int.reduceLE, Int.reduceAdd, Int.reduceSub, Int.reduceNeg, Int.reduceToNat, Int.reducePow, Nat.reducePow, Int.reduceMul, Int.reduceDiv, ↓s_ids_Giver_none, h3]
      rfl
    · (repeat (first | exact Fr.refl _ | refine Fr.push ?_ _ | refine Fr.set ?_ _ _ (by intro h; first | omega | (simp only [go_sem] at h; omega))))
theorem q_Give_none (g m : Value) (s : ByteArray) (H : AHeap) (h : NoG H g) : CC F.ids_Giver_Give [g, m, .string s] H = some (.tuple #[.int .i64 0, .int .i64 1], H) := by
  have m1 := q_none_yes g H h
  apply pure_of _ (d_ids_Giver_Give _ _ _ H) rfl
  rotate_left 2
  · simp (disch := first | with_reducible rfl | assumption | omega | rfl | (simp only [go_sem]; first | done | omega)) only [go_sem, ↓reduceIte, reduceCtorEq, Nat.reduceEqDiff, Nat.reduceAdd, Nat.reduceSub, Nat.reduceMul, Nat.reduceDiv, Nat.reduceMod, Nat.reduceLeDiff, Nat.reduceLT, Nat.reduceBEq, Int.reduceEq, Int.reduceBEq, Int.reduceBNe, Int.reduceLT, Int.reduceLE, Int.reduceAdd, Int.reduceSub, Int.reduceNeg, Int.reduceToNat, Int.reducePow, Nat.reducePow, Int.reduceMul, Int.reduceDiv, ↓s_ids_Giver_Give, ↓enterK_eq m1, enterK_eq m1]
    rfl
  · (repeat (first | exact Fr.refl _ | refine Fr.push ?_ _ | refine Fr.set ?_ _ _ (by intro h; first | omega | (simp only [go_sem] at h; omega))))
theorem q_Return_none (g m : Value) (H : AHeap) (h : NoG H g) : CC F.ids_Giver_Return [g, m] H = some (.tuple #[.int .i64 0, .int .i64 1], H) := by
  have m1 := q_none_yes g H h
  apply pure_of _ (d_ids_Giver_Return _ _ H) rfl
  rotate_left 2
  · simp (disch := first | with_reducible rfl | assumption | omega | rfl | (simp only [go_sem]; first | done | omega)) only [go_sem, ↓reduceIte, reduceCtorEq, Nat.reduceEqDiff, Nat.reduceAdd, Nat.reduceSub, Nat.reduceMul, Nat.reduceDiv, Nat.reduceMod, Nat.reduceLeDiff, Nat.reduceLT, Nat.reduceBEq, Int.reduceEq, Int.reduceBEq, Int.reduceBNe, Int.reduceLT, Int.reduceLE, Int.reduceAdd, Int.reduceSub, Int.reduceNeg, Int.reduceToNat, Int.reducePow, Nat.reducePow, Int.reduceMul, Int.reduceDiv, ↓s_ids_Giver_Return, ↓enterK_eq m1, enterK_eq m1]
    rfl
  · (repeat (first | exact Fr.refl _ | refine Fr.push ?_ _ | refine Fr.set ?_ _ _ (by intro h; first | omega | (simp only [go_sem] at h; omega))))
theorem q_Lose_none (g : Value) (H : AHeap) (h : NoG H g) : CC F.ids_Giver_Lose [g] H = some (.tuple #[], H) := by
  have m1 := q_none_yes g H h
  apply pure_of _ (d_ids_Giver_Lose _ H) rfl
  rotate_left 2
  · simp (disch := first | with_reducible rfl | assumption | omega | rfl | (simp only [go_sem]; first | done | omega)) only [go_sem, ↓reduceIte, reduceCtorEq, Nat.reduceEqDiff, Nat.reduceAdd, Nat.reduceSub, Nat.reduceMul, Nat.reduceDiv, Nat.reduceMod, Nat.reduceLeDiff, Nat.reduceLT, Nat.reduceBEq, Int.reduceEq, Int.reduceBEq, Int.reduceBNe, Int.reduceLT, Int.reduceLE, Int.reduceAdd, Int.reduceSub, Int.reduceNeg, Int.reduceToNat, Int.reducePow, Nat.reducePow, Int.reduceMul, Int.reduceDiv, ↓s_ids_Giver_Lose, ↓enterK_eq m1, enterK_eq m1]
    rfl
  · (repeat (first | exact Fr.refl _ | refine Fr.push ?_ _ | refine Fr.set ?_ _ _ (by intro h; first | omega | (simp only [go_sem] at h; omega))))
theorem q_Copy_none (g : Value) (H : AHeap) (h : NoG H g) : CC F.ids_Giver_Copy [g] H = some (.pointer none, H) := by
  have m1 := q_none_yes g H h
  apply pure_of _ (d_ids_Giver_Copy _ H) rfl
  rotate_left 2
  · simp (disch := first | with_reducible rfl | assumption | omega | rfl | (simp only [go_sem]; first | done | omega)) only [go_sem, ↓reduceIte, reduceCtorEq, Nat.reduceEqDiff, Nat.reduceAdd, Nat.reduceSub, Nat.reduceMul, Nat.reduceDiv, Nat.reduceMod, Nat.reduceLeDiff, Nat.reduceLT, Nat.reduceBEq, Int.reduceEq, Int.reduceBEq, Int.reduceBNe, Int.reduceLT, Int.reduceLE, Int.reduceAdd, Int.reduceSub, Int.reduceNeg, Int.reduceToNat, Int.reducePow, Nat.reducePow, Int.reduceMul, Int.reduceDiv, ↓s_ids_Giver_Copy, ↓enterK_eq m1, enterK_eq m1]
    rfl
  · (repeat (first | exact Fr.refl _ | refine Fr.push ?_ _ | refine Fr.set ?_ _ _ (by intro h; first | omega | (simp only [go_sem] at h; omega))))
theorem q_Left_none (g : Value) (s : ByteArray) (H : AHeap) (h : NoG H g) : CC F.ids_Giver_Left [g, .string s] H = some (.agg #[.int .i64 0, .int .i64 0], H) := by
  obtain ⟨H1, hH1⟩ : ∃ H1, H.push (.cells [.int .i64 0, .int .i64 0] T.api_Block true) = H1 := ⟨_, rfl⟩
  have s1 : Still H H1 := by rw [← hH1]; exact (Fr.refl H).push _
  have n1 : H1.n = H.n + 1 := by rw [← hH1]; rfl
  have f1 : H1.f H.n = .cells [.int .i64 0, .int .i64 0] T.api_Block true := by rw [← hH1]; exact push_f_eq rfl
  have m1 := q_none_yes g H1 (h.still s1)
  apply pure_of _ (d_ids_Giver_Left _ _ H) rfl
  rotate_left 2
  · simp (disch := first | with_reducible rfl | assumption | omega | rfl | (simp only [go_sem]; first | done | omega)) only [go_sem, ↓reduceIte, reduceCtorEq, Nat.reduceEqDiff, Nat.reduceAdd, Nat.reduceSub, Nat.reduceMul, Nat.reduceDiv, Nat.reduceMod, Nat.reduceLeDiff, Nat.reduceLT, Nat.reduceBEq, Int.reduceEq, Int.reduceBEq, Int.reduceBNe, Int.reduceLT, Int.reduceLE, Int.reduceAdd, Int.reduceSub, Int.reduceNeg, Int.reduceToNat, Int.reducePow, Nat.reducePow, Int.reduceMul, Int.reduceDiv, ↓s_ids_Giver_Left, hH1, ↓enterK_eq m1, enterK_eq m1, f1]
    rfl
  · exact Fr.set s1 _ _ fun h => by omega

theorem q_gives_none (g m : Value) (s : ByteArray) (H : AHeap) (h : NoG H g) : CC F.law_gives [g, m, .string s, .int .i64 0, .int .i64 1] H = some (.bool true, H) := by
  have m1 := q_Give_none g m s H h
  apply pure_of _ (d_law_gives _ _ _ _ _ H) rfl
  rotate_left 2
  · simp (disch := first | with_reducible rfl | assumption | omega | rfl | (simp only [go_sem]; first | done | omega)) only [go_sem, ↓reduceIte, reduceCtorEq, Nat.reduceEqDiff, Nat.reduceAdd, Nat.reduceSub, Nat.reduceMul, Nat.reduceDiv, Nat.reduceMod, Nat.reduceLeDiff, Nat.reduceLT, Nat.reduceBEq, Int.reduceEq, Int.reduceBEq, Int.reduceBNe, Int.reduceLT, Int.reduceLE, Int.reduceAdd, Int.reduceSub, Int.reduceNeg, Int.reduceToNat, Int.reducePow, Nat.reducePow, Int.reduceMul, Int.reduceDiv, ↓s_law_gives, ↓enterK_eq m1, enterK_eq m1]
    rfl
  · (repeat (first | exact Fr.refl _ | refine Fr.push ?_ _ | refine Fr.set ?_ _ _ (by intro h; first | omega | (simp only [go_sem] at h; omega))))
theorem q_returns_none (g m : Value) (H : AHeap) (h : NoG H g) : CC F.law_returns [g, m, .int .i64 0, .int .i64 1] H = some (.bool true, H) := by
  have m1 := q_Return_none g m H h
  apply pure_of _ (d_law_returns _ _ _ _ H) rfl
  rotate_left 2
  · simp (disch := first | with_reducible rfl | assumption | omega | rfl | (simp only [go_sem]; first | done | omega)) only [go_sem, ↓reduceIte, reduceCtorEq, Nat.reduceEqDiff, Nat.reduceAdd, Nat.reduceSub, Nat.reduceMul, Nat.reduceDiv, Nat.reduceMod, Nat.reduceLeDiff, Nat.reduceLT, Nat.reduceBEq, Int.reduceEq, Int.reduceBEq, Int.reduceBNe, Int.reduceLT, Int.reduceLE, Int.reduceAdd, Int.reduceSub, Int.reduceNeg, Int.reduceToNat, Int.reducePow, Nat.reducePow, Int.reduceMul, Int.reduceDiv, ↓s_law_returns, ↓enterK_eq m1, enterK_eq m1]
    rfl
  · (repeat (first | exact Fr.refl _ | refine Fr.push ?_ _ | refine Fr.set ?_ _ _ (by intro h; first | omega | (simp only [go_sem] at h; omega))))

end Go.Proofs.YtlfpjndbpclnnaaGreatDoor

/-
  Chapter 47, plain: numbers in decimal; the program's reading of one and the law's are the same.
  Conditions: none. By an AI agent.
-/
set_option maxRecDepth 10000
set_option linter.unusedSimpArgs false
set_option linter.unusedVariables false
namespace Go.Proofs.YtlfpjndbpclnnaaGreatDoor
open Go Eng

theorem dig_nat {d : Nat} (h : d < 10) : (UInt8.ofNat (48 + d)).toNat = 48 + d := UInt8.toNat_ofNat_of_lt' (show 48 + d < 256 by omega)
theorem dec_head : ∀ (f u : Nat), ∃ c r, decF (f + 1) u = c :: r ∧ 48 ≤ c.toNat ∧ c.toNat ≤ 57
  | 0, u => by
    unfold decF
    by_cases h : u < 10
    · rw [if_pos h]; exact ⟨_, _, rfl, by rw [dig_nat h]; omega, by rw [dig_nat h]; omega⟩
    · rw [if_neg h]
      have : u % 10 < 10 := Nat.mod_lt _ (by decide)
      exact ⟨_, _, rfl, by rw [dig_nat this]; omega, by rw [dig_nat this]; omega⟩
  | f + 1, u => by
    unfold decF
    by_cases h : u < 10
    · rw [if_pos h]; exact ⟨_, _, rfl, by rw [dig_nat h]; omega, by rw [dig_nat h]; omega⟩
    · rw [if_neg h]
      obtain ⟨c, r, h1, h2, h3⟩ := dec_head f (u / 10)
      rw [h1]
      exact ⟨c, _, rfl, h2, h3⟩
theorem dec_len : ∀ (f u : Nat), (decF f u).length ≤ f
  | 0, _ => Nat.le_refl _
  | f + 1, u => by
    unfold decF
    split
    · simp
    · have := dec_len f (u / 10)
      simp; omega

/-- The law's loop. -/
def cntR : Nat → Nat → List UInt8 → Option Nat
  | _, n, [] => some n
  | i, n, c :: r => if c.toNat < 48 ∨ 57 < c.toNat ∨ 13 ≤ i then none else cntR (i + 1) (10 * n + (c.toNat - 48)) r
def cnt (v : List UInt8) : Int := match cntR 0 0 v with
  | none => 0
  | some n => if n < 1 ∨ 1099511627776 < n ∨ ¬ decF 20 n = v then 0 else n
/-- The program's reading. -/
def num (v : List UInt8) : Int := match Lib.atoiAll v with
  | .ok n => if n < 1 ∨ 1099511627776 < n ∨ ¬ itoaS n = v then 0 else n
  | _ => 0

theorem cntR_dec : ∀ (f u : Nat), u < 10 ^ (f + 1) → ∀ (i n : Nat) (r : List UInt8), i + (decF (f + 1) u).length ≤ 13 → cntR i n (decF (f + 1) u ++ r) = cntR (i + (decF (f + 1) u).length) (n * 10 ^ (decF (f + 1) u).length + u) r
  | 0, u, h, i, n, r, hi => by
    have h : u < 10 := by simpa using h
    have e : decF (0 + 1) u = [UInt8.ofNat (48 + u)] := by simp [decF, h]
    rw [e] at hi ⊢
    simp only [List.length_cons, List.length_nil] at hi
    simp only [List.cons_append, List.nil_append, cntR, dig_nat h, List.length_cons, List.length_nil]
    rw [if_neg (by omega)]
    congr 1; omega
  | f + 1, u, h, i, n, r, hi => by
    by_cases hu : u < 10
    · have e : decF (f + 1 + 1) u = [UInt8.ofNat (48 + u)] := by simp [decF, hu]
      rw [e] at hi ⊢
      simp only [List.length_cons, List.length_nil] at hi
      simp only [List.cons_append, List.nil_append, cntR, dig_nat hu, List.length_cons, List.length_nil]
      rw [if_neg (by omega)]
      congr 1; omega
    · have e : decF (f + 1 + 1) u = decF (f + 1) (u / 10) ++ [UInt8.ofNat (48 + u % 10)] := by rw [decF, if_neg hu]
      have hd : u % 10 < 10 := Nat.mod_lt _ (by decide)
      have hq : u / 10 < 10 ^ (f + 1) := by rw [Nat.pow_succ] at h; omega
      rw [e] at hi ⊢
      rw [List.length_append, List.length_cons, List.length_nil] at hi ⊢
      rw [List.append_assoc, cntR_dec f (u / 10) hq i n _ (by omega)]
      generalize (decF (f + 1) (u / 10)).length = L at hi ⊢
      simp only [List.cons_append, List.nil_append, cntR, dig_nat hd]
      rw [if_neg (by omega)]
      congr 1
      rw [Nat.pow_add, ← Nat.mul_assoc]
      generalize n * 10 ^ L = x
      omega
theorem parse_dec : ∀ (f u : Nat), u < 10 ^ (f + 1) → ∀ (n : Nat) (r : List UInt8), n * 10 ^ (decF (f + 1) u).length + u < 1000000000000000000 → Lib.parseUint10 n (decF (f + 1) u ++ r) = Lib.parseUint10 (n * 10 ^ (decF (f + 1) u).length + u) r
  | 0, u, h, n, r, hi => by
    have h : u < 10 := by simpa using h
    have e : decF (0 + 1) u = [UInt8.ofNat (48 + u)] := by simp [decF, h]
    rw [e] at hi ⊢
    simp only [List.length_cons, List.length_nil] at hi
    simp only [List.cons_append, List.nil_append, Lib.parseUint10, dig_nat h, List.length_cons, List.length_nil]
    rw [if_pos (by omega), if_neg (by omega), if_neg (by omega)]
    congr 1; omega
  | f + 1, u, h, n, r, hi => by
    by_cases hu : u < 10
    · have e : decF (f + 1 + 1) u = [UInt8.ofNat (48 + u)] := by simp [decF, hu]
      rw [e] at hi ⊢
      simp only [List.length_cons, List.length_nil] at hi
      simp only [List.cons_append, List.nil_append, Lib.parseUint10, dig_nat hu, List.length_cons, List.length_nil]
      rw [if_pos (by omega), if_neg (by omega), if_neg (by omega)]
      congr 1; omega
    · have e : decF (f + 1 + 1) u = decF (f + 1) (u / 10) ++ [UInt8.ofNat (48 + u % 10)] := by rw [decF, if_neg hu]
      have hd : u % 10 < 10 := Nat.mod_lt _ (by decide)
      have hq : u / 10 < 10 ^ (f + 1) := by rw [Nat.pow_succ] at h; omega
      rw [e] at hi ⊢
      rw [List.length_append, List.length_cons, List.length_nil] at hi ⊢
      rw [Nat.pow_add, ← Nat.mul_assoc] at hi ⊢
      rw [List.append_assoc, parse_dec f (u / 10) hq n _ (by generalize n * 10 ^ (decF (f + 1) (u / 10)).length = x at hi ⊢; omega)]
      generalize n * 10 ^ (decF (f + 1) (u / 10)).length = x at hi ⊢
      simp only [List.cons_append, List.nil_append, Lib.parseUint10, dig_nat hd]
      rw [if_pos (by omega), if_neg (by omega), if_neg (by omega)]
      congr 1; omega

theorem dec_more {u : Nat} (h : u < 10000000000000) : decF 20 u = decF 13 u := by
  rw [decF_eq 19 u (by have : (10 : Nat) ^ 20 = 100000000000000000000 := by decide
                       show u < 10 ^ 20; omega), decF_eq 12 u (by have : (10 : Nat) ^ 13 = 10000000000000 := by decide
                                                                  show u < 10 ^ 13; omega)]
theorem p13 {u : Nat} (h : u ≤ 1099511627776) : u < 10 ^ (12 + 1) := by
  have : (10 : Nat) ^ 13 = 10000000000000 := by decide
  show u < 10 ^ 13; omega
theorem cnt_dec {u : Nat} (h1 : 1 ≤ u) (h2 : u ≤ 1099511627776) : cnt (decF 20 u) = u := by
  have hm := dec_more (u := u) (by omega)
  have hl := dec_len 13 u
  have hl : (decF (12 + 1) u).length ≤ 13 := hl
  have h := cntR_dec 12 u (p13 h2) 0 0 [] (by omega)
  rw [List.append_nil] at h
  unfold cnt
  rw [hm, h]
  simp only [cntR, Nat.zero_mul, Nat.zero_add]
  rw [if_neg]
  rintro (h | h | h)
  · omega
  · omega
  · exact h hm
theorem num_dec {u : Nat} (h1 : 1 ≤ u) (h2 : u ≤ 1099511627776) : num (decF 20 u) = u := by
  have hm := dec_more (u := u) (by omega)
  have h := parse_dec 12 u (p13 h2) 0 [] (by omega)
  rw [List.append_nil, Nat.zero_mul, Nat.zero_add] at h
  have hi : itoaS (u : Int) = decF 20 u := by
    unfold itoaS
    rw [if_neg (by omega)]
    rfl
  obtain ⟨c, r, e, hc1, hc2⟩ := dec_head 12 u
  unfold num
  have ha : Lib.atoiAll (decF 20 u) = .ok (u : Int) := by
    rw [hm, show decF 13 u = c :: r from e]
    rw [e] at h
    unfold Lib.atoiAll
    simp only
    rw [if_neg (by omega)]
    unfold Lib.parseMag
    rw [if_neg (by simp), h]
    simp only [Lib.parseUint10]
    rw [if_neg (by omega), if_neg (by omega), if_neg (by omega)]
  rw [ha]
  simp only
  rw [if_neg]
  rintro (h | h | h)
  · omega
  · omega
  · exact h hi
theorem cnt_is (v : List UInt8) : cnt v = 0 ∨ ∃ u : Nat, 1 ≤ u ∧ u ≤ 1099511627776 ∧ v = decF 20 u := by
  unfold cnt
  split
  · exact .inl rfl
  · rename_i n _
    split
    · exact .inl rfl
    · rename_i h
      exact .inr ⟨n, by omega, by omega, by
        by_cases hv : decF 20 n = v
        · exact hv.symm
        · exact absurd (.inr (.inr hv)) h⟩
theorem num_is (v : List UInt8) : num v = 0 ∨ ∃ u : Nat, 1 ≤ u ∧ u ≤ 1099511627776 ∧ v = decF 20 u := by
  unfold num
  split
  · rename_i n _
    split
    · exact .inl rfl
    · rename_i h
      refine .inr ⟨n.toNat, by omega, by omega, ?_⟩
      by_cases hv : itoaS n = v
      · rw [← hv]; unfold itoaS; rw [if_neg (by omega)]
      · exact absurd (.inr (.inr hv)) h
  · exact .inl rfl
theorem cnt_num (v : List UInt8) : cnt v = num v := by
  rcases num_is v with h | ⟨u, h1, h2, rfl⟩
  · rcases cnt_is v with h' | ⟨u, h1, h2, rfl⟩
    · rw [h, h']
    · rw [num_dec h1 h2] at h; omega
  · rw [num_dec h1 h2, cnt_dec h1 h2]
theorem num_bound (v : List UInt8) : 0 ≤ num v ∧ num v ≤ 1099511627776 := by
  rcases num_is v with h | ⟨u, h1, h2, rfl⟩
  · omega
  · rw [num_dec h1 h2]; omega

end Go.Proofs.YtlfpjndbpclnnaaGreatDoor

/-
  Chapter 47: decimal, counter, check, Next, next: contracts.
  Conditions: none. By an AI agent.
-/
set_option maxRecDepth 10000
set_option linter.unusedSimpArgs false
set_option linter.unusedVariables false
namespace Go.Proofs.YtlfpjndbpclnnaaGreatDoor
open Go Eng

/-! ### decimal -/
theorem q_decimal : ∀ (f n : Nat) (H : AHeap), n < 10 ^ (f + 1) → n < 4611686018427387904 → f ≤ 100 → CC F.law_decimal [.int .i64 (n : Int)] H = some (.string (mk (decF (f + 1) n)), H)
  | f, n, H, h, hb, hf => by
    by_cases hn : n < 10
    · have hlt : (n : Int) < 10 := by omega
      have e : decF (f + 1) n = [by8 (48 + n)] := by unfold decF; rw [if_pos hn]; rfl
      obtain ⟨H1, hH1⟩ : ∃ H1, H.push (.cells [.int .u8 ((48 + (n : Int)) % 256)] T.uint8 true) = H1 := ⟨_, rfl⟩
      obtain ⟨s1, x1⟩ := one_str (48 + n) (H := H) (H1 := H1) (by rw [← hH1, Int.natCast_add]; rfl)
      rw [e]
      apply pure_of _ (d_law_decimal _ H) rfl
      rotate_left 2
      · simp (disch := first | with_reducible rfl | assumption | omega | rfl | (simp only [go_sem]; first | done | omega)) only [go_sem, ↓reduceIte, reduceCtorEq, Nat.reduceEqDiff, Nat.reduceAdd, Nat.reduceSub, Nat.reduceMul, Nat.reduceDiv, Nat.reduceMod, Nat.reduceLeDiff, Nat.reduceLT, Nat.reduceBEq, Int.reduceEq, Int.reduceBEq, Int.reduceBNe, Int.reduceLT, Int.reduceLE, Int.reduceAdd, Int.reduceSub, Int.reduceNeg, Int.reduceToNat, Int.reducePow, Nat.reducePow, Int.reduceMul, Int.reduceDiv, ↓s_law_decimal, hlt, x_int_uint8, wrapU8, hH1, x1]
        rfl
      · exact s1
    · match f, h with
      | 0, h => exact absurd (by simpa using h) hn
      | f + 1, h =>
        have hlt : ¬ (n : Int) < 10 := by omega
        have hq : n / 10 < 10 ^ (f + 1) := by rw [Nat.pow_succ] at h; omega
        have ih := q_decimal f (n / 10) H hq (by omega) (by omega)
        have e : decF (f + 1 + 1) n = decF (f + 1) (n / 10) ++ [by8 (48 + n % 10)] := by rw [decF, if_neg hn]; rfl
        have qn : ∀ ox oy, xbin Tryz.prog .quo T.int ox oy (.int .i64 (n : Int)) (.int .i64 10) = some (.int .i64 ((n / 10 : Nat) : Int)) := fun ox oy => quoN (b := 10) (by decide) (by omega)
        have rn : ∀ ox oy, xbin Tryz.prog .rem T.int ox oy (.int .i64 (n : Int)) (.int .i64 10) = some (.int .i64 ((n % 10 : Nat) : Int)) := fun ox oy => remN (b := 10) (by decide)
        obtain ⟨d, hd⟩ : ∃ d, n % 10 = d := ⟨_, rfl⟩
        have hd10 : d < 10 := by rw [← hd]; exact Nat.mod_lt _ (by decide)
        rw [hd] at rn e
        obtain ⟨H1, hH1⟩ : ∃ H1, H.push (.cells [.int .u8 ((48 + (d : Int)) % 256)] T.uint8 true) = H1 := ⟨_, rfl⟩
        obtain ⟨s1, x1⟩ := one_str (48 + d) (H := H) (H1 := H1) (by rw [← hH1, Int.natCast_add]; rfl)
        have hl := dec_len (f + 1) (n / 10)
        have ad : ∀ ox oy, xbin Tryz.prog .add T.string ox oy (.string (mk (decF (f + 1) (n / 10)))) (.string (mk [by8 (48 + d)])) = some (.string (mk (decF (f + 1) (n / 10) ++ [by8 (48 + d)]))) := fun ox oy => str_add' (by simp; omega)
        rw [e]
        generalize decF (f + 1) (n / 10) = q at ih ad
        apply pure_of _ (d_law_decimal _ H) rfl
        rotate_left 2
        · simp (disch := first | with_reducible rfl | assumption | omega | rfl | (simp only [go_sem]; first | done | omega)) only [go_sem, ↓reduceIte, reduceCtorEq, Nat.reduceEqDiff, Nat.reduceAdd, Nat.reduceSub, Nat.reduceMul, Nat.reduceDiv, Nat.reduceMod, Nat.reduceLeDiff, Nat.reduceLT, Nat.reduceBEq, Int.reduceEq, Int.reduceBEq, Int.reduceBNe, Int.reduceLT, Int.reduceLE, Int.reduceAdd, Int.reduceSub, Int.reduceNeg, Int.reduceToNat, Int.reducePow, Nat.reducePow, Int.reduceMul, Int.reduceDiv, ↓s_law_decimal, hlt, qn, ↓enterK_eq ih, enterK_eq ih, rn, x_int_uint8, wrapU8, hH1, x1, ad]
          rfl
        · exact s1
theorem q_dec (n : Nat) (H : AHeap) (h : n < 4611686018427387904) : CC F.law_decimal [.int .i64 (n : Int)] H = some (.string (mk (decF 20 n)), H) :=
  q_decimal 19 n H (by have : (10 : Nat) ^ 20 = 100000000000000000000 := by decide
                       show n < 10 ^ 20; omega) h (by decide)

/-! ### counter -/
theorem l_counter (s : List UInt8) (hs : s.length ≤ 1000) (H : AHeap) : ∀ (t : List UInt8) (i n : Nat), s.drop i = t → i ≤ 13 → n < 10 ^ i →
    (cntR i n t = none → ∀ K : K, l_law_counter_0 (.string (mk s)) (.int .i64 (n : Int)) (.int .i64 (i : Int)) H (blkK [0, 3] 0 K) = K .ret [(2, .int .i64 0)] H) ∧
    (∀ m, cntR i n t = some m → m < 10000000000000 ∧ ∀ K : K, l_law_counter_0 (.string (mk s)) (.int .i64 (n : Int)) (.int .i64 (i : Int)) H (blkK [0, 3] 0 K) = K .normal [(0, .string (mk s)), (3, .int .i64 (m : Int))] H)
  | [], i, n, hx, hi, hn => by
    have h : s.length ≤ i := List.drop_eq_nil_iff.1 hx
    have hlt : ¬ (i : Int) < (s.length : Int) := by omega
    have hp : 10 ^ i ≤ 10 ^ 13 := Nat.pow_le_pow_right (by decide) hi
    have h13 : (10 : Nat) ^ 13 = 10000000000000 := by decide
    refine ⟨fun h => by simp [cntR] at h, fun m hm => ⟨?_, fun K => ?_⟩⟩
    · simp only [cntR, Option.some.injEq] at hm
      omega
    · simp only [cntR, Option.some.injEq] at hm
      subst hm
      rw [r_law_counter_0]
      simp (disch := first | with_reducible rfl | assumption | omega | rfl | (simp only [go_sem]; first | done | omega)) only [go_sem, ↓reduceIte, reduceCtorEq, Nat.reduceEqDiff, Nat.reduceAdd, Nat.reduceSub, Nat.reduceMul, Nat.reduceDiv, Nat.reduceMod, Nat.reduceLeDiff, Nat.reduceLT, Nat.reduceBEq, Int.reduceEq, Int.reduceBEq, Int.reduceBNe, Int.reduceLT, Int.reduceLE, Int.reduceAdd, Int.reduceSub, Int.reduceNeg, Int.reduceToNat, Int.reducePow, Nat.reducePow, Int.reduceMul, Int.reduceDiv, ↓s_law_counter_b0, bl_mk, hlt]
  | c :: t, i, n, hx, hi, hn => by
    obtain ⟨h, hxa, hx'⟩ := drop_cons hx
    have hlt : (i : Int) < (s.length : Int) := by omega
    have hc := Eng.u8_lt c
    have ix := xix (s := mk s) (i := i) (by rw [bl_mk]; exact h)
    have hel : (bl (mk s))[i]'(by rw [bl_mk]; exact h) = c := by
      simp only [bl_mk]; exact hxa
    rw [hel] at ix
    rw [cntR]
    by_cases h1 : (c.toNat : Int) < 48
    · rw [if_pos (.inl (by omega))]
      refine ⟨fun _ K => ?_, fun m hm => by cases hm⟩
      rw [r_law_counter_0]
      simp (disch := first | with_reducible rfl | assumption | omega | rfl | (simp only [go_sem]; first | done | omega)) only [go_sem, ↓reduceIte, reduceCtorEq, Nat.reduceEqDiff, Nat.reduceAdd, Nat.reduceSub, Nat.reduceMul, Nat.reduceDiv, Nat.reduceMod, Nat.reduceLeDiff, Nat.reduceLT, Nat.reduceBEq, Int.reduceEq, Int.reduceBEq, Int.reduceBNe, Int.reduceLT, Int.reduceLE, Int.reduceAdd, Int.reduceSub, Int.reduceNeg, Int.reduceToNat, Int.reducePow, Nat.reducePow, Int.reduceMul, Int.reduceDiv, ↓s_law_counter_b0, bl_mk, hlt, ix, h1]
    · by_cases h2 : 57 < (c.toNat : Int)
      · rw [if_pos (.inr (.inl (by omega)))]
        refine ⟨fun _ K => ?_, fun m hm => by cases hm⟩
        rw [r_law_counter_0]
        simp (disch := first | with_reducible rfl | assumption | omega | rfl | (simp only [go_sem]; first | done | omega)) only [go_sem, ↓reduceIte, reduceCtorEq, Nat.reduceEqDiff, Nat.reduceAdd, Nat.reduceSub, Nat.reduceMul, Nat.reduceDiv, Nat.reduceMod, Nat.reduceLeDiff, Nat.reduceLT, Nat.reduceBEq, Int.reduceEq, Int.reduceBEq, Int.reduceBNe, Int.reduceLT, Int.reduceLE, Int.reduceAdd, Int.reduceSub, Int.reduceNeg, Int.reduceToNat, Int.reducePow, Nat.reducePow, Int.reduceMul, Int.reduceDiv, ↓s_law_counter_b0, bl_mk, hlt, ix, h1, h2]
      · by_cases h3 : 13 ≤ (i : Int)
        · rw [if_pos (.inr (.inr (by omega)))]
          refine ⟨fun _ K => ?_, fun m hm => by cases hm⟩
          rw [r_law_counter_0]
          simp (disch := first | with_reducible rfl | assumption | omega | rfl | (simp only [go_sem]; first | done | omega)) only [go_sem, ↓reduceIte, reduceCtorEq, Nat.reduceEqDiff, Nat.reduceAdd, Nat.reduceSub, Nat.reduceMul, Nat.reduceDiv, Nat.reduceMod, Nat.reduceLeDiff, Nat.reduceLT, Nat.reduceBEq, Int.reduceEq, Int.reduceBEq, Int.reduceBNe, Int.reduceLT, Int.reduceLE, Int.reduceAdd, Int.reduceSub, Int.reduceNeg, Int.reduceToNat, Int.reducePow, Nat.reducePow, Int.reduceMul, Int.reduceDiv, ↓s_law_counter_b0, bl_mk, hlt, ix, h1, h2, h3]
        · rw [if_neg (by omega)]
          have hp : 10 ^ i ≤ 10 ^ 12 := Nat.pow_le_pow_right (by decide) (by omega)
          have h12 : (10 : Nat) ^ 12 = 1000000000000 := by decide
          obtain ⟨k1, k2⟩ := l_counter s hs H t (i + 1) (10 * n + (c.toNat - 48)) hx' (by omega) (by rw [Nat.pow_succ]; omega)
          have e1 : ∀ ox oy, xbin Tryz.prog .mul T.int ox oy (.int .i64 10) (.int .i64 (n : Int)) = some (.int .i64 ((10 * n : Nat) : Int)) := fun ox oy => mulN (a := 10) (by omega)
          have e2 : ∀ ox oy, xbin Tryz.prog .sub T.uint8 ox oy (.int .u8 (c.toNat : Int)) (.int .u8 48) = some (.int .u8 ((c.toNat : Int) - 48)) := fun ox oy => sub_u8 (by omega)
          have e3 : IntKind.wrap .i64 ((c.toNat : Int) - 48) = (c.toNat : Int) - 48 := wrap_i64 ⟨by omega, by omega⟩
          have e4 : ∀ ox oy, xbin Tryz.prog .add T.int ox oy (.int .i64 ((10 * n : Nat) : Int)) (.int .i64 ((c.toNat : Int) - 48)) = some (.int .i64 ((10 * n + (c.toNat - 48) : Nat) : Int)) := fun ox oy => by
            rw [add_i64 (by omega)]
            congr 2; omega
          refine ⟨fun hm K => ?_, fun m hm => ⟨(k2 m hm).1, fun K => ?_⟩⟩
          · have := k1 hm K
            rw [Int.natCast_add i] at this
            rw [← this, r_law_counter_0]
            simp (disch := first | with_reducible rfl | assumption | omega | rfl | (simp only [go_sem]; first | done | omega)) only [go_sem, ↓reduceIte, reduceCtorEq, Nat.reduceEqDiff, Nat.reduceAdd, Nat.reduceSub, Nat.reduceMul, Nat.reduceDiv, Nat.reduceMod, Nat.reduceLeDiff, Nat.reduceLT, Nat.reduceBEq, Int.reduceEq, Int.reduceBEq, Int.reduceBNe, Int.reduceLT, Int.reduceLE, Int.reduceAdd, Int.reduceSub, Int.reduceNeg, Int.reduceToNat, Int.reducePow, Nat.reducePow, Int.reduceMul, Int.reduceDiv, ↓s_law_counter_b0, bl_mk, hlt, ix, h1, h2, h3, e1, e2, x_uint8_int, e3, e4]
          · have := (k2 m hm).2 K
            rw [Int.natCast_add i] at this
            rw [← this, r_law_counter_0]
            simp (disch := first | with_reducible rfl | assumption | omega | rfl | (simp only [go_sem]; first | done | omega)) only [go_sem, ↓reduceIte, reduceCtorEq, Nat.reduceEqDiff, Nat.reduceAdd, Nat.reduceSub, Nat.reduceMul, Nat.reduceDiv, Nat.reduceMod, Nat.reduceLeDiff, Nat.reduceLT, Nat.reduceBEq, Int.reduceEq, Int.reduceBEq, Int.reduceBNe, Int.reduceLT, Int.reduceLE, Int.reduceAdd, Int.reduceSub, Int.reduceNeg, Int.reduceToNat, Int.reducePow, Nat.reducePow, Int.reduceMul, Int.reduceDiv, ↓s_law_counter_b0, bl_mk, hlt, ix, h1, h2, h3, e1, e2, x_uint8_int, e3, e4]
theorem q_counter (v : List UInt8) (hv : v.length ≤ 1000) (H : AHeap) : CC F.law_counter [.string (mk v)] H = some (.int .i64 (num v), H) := by
  obtain ⟨k1, k2⟩ := l_counter v hv H v 0 0 rfl (by decide) (by decide)
  rw [← cnt_num]
  unfold cnt
  cases hc : cntR 0 0 v with
  | none =>
    have k1 : ∀ K : K, l_law_counter_0 (.string (mk v)) (.int .i64 0) (.int .i64 0) H (blkK [0, 3] 0 K) = K .ret [(2, .int .i64 0)] H := k1 hc
    apply pure_of _ (d_law_counter _ H) rfl
    rotate_left 2
    · simp (disch := first | with_reducible rfl | assumption | omega | rfl | (simp only [go_sem]; first | done | omega)) only [go_sem, ↓reduceIte, reduceCtorEq, Nat.reduceEqDiff, Nat.reduceAdd, Nat.reduceSub, Nat.reduceMul, Nat.reduceDiv, Nat.reduceMod, Nat.reduceLeDiff, Nat.reduceLT, Nat.reduceBEq, Int.reduceEq, Int.reduceBEq, Int.reduceBNe, Int.reduceLT, Int.reduceLE, Int.reduceAdd, Int.reduceSub, Int.reduceNeg, Int.reduceToNat, Int.reducePow, Nat.reducePow, Int.reduceMul, Int.reduceDiv, ↓s_law_counter, k1]
      rfl
    · (repeat (first | exact Fr.refl _ | refine Fr.push ?_ _ | refine Fr.set ?_ _ _ (by intro h; first | omega | (simp only [go_sem] at h; omega))))
  | some n =>
    obtain ⟨hb, k2⟩ := k2 n hc
    have k2 : ∀ K : K, l_law_counter_0 (.string (mk v)) (.int .i64 0) (.int .i64 0) H (blkK [0, 3] 0 K) = K .normal [(0, .string (mk v)), (3, .int .i64 (n : Int))] H := k2
    have md := q_dec n H (by omega)
    simp only
    by_cases h1 : (n : Int) < 1
    · rw [if_pos (.inl (by omega))]
      apply pure_of _ (d_law_counter _ H) rfl
      rotate_left 2
      · simp (disch := first | with_reducible rfl | assumption | omega | rfl | (simp only [go_sem]; first | done | omega)) only [go_sem, ↓reduceIte, reduceCtorEq, Nat.reduceEqDiff, Nat.reduceAdd, Nat.reduceSub, Nat.reduceMul, Nat.reduceDiv, Nat.reduceMod, Nat.reduceLeDiff, Nat.reduceLT, Nat.reduceBEq, Int.reduceEq, Int.reduceBEq, Int.reduceBNe, Int.reduceLT, Int.reduceLE, Int.reduceAdd, Int.reduceSub, Int.reduceNeg, Int.reduceToNat, Int.reducePow, Nat.reducePow, Int.reduceMul, Int.reduceDiv, ↓s_law_counter, k2, h1]
        rfl
      · (repeat (first | exact Fr.refl _ | refine Fr.push ?_ _ | refine Fr.set ?_ _ _ (by intro h; first | omega | (simp only [go_sem] at h; omega))))
    · by_cases h2 : 1099511627776 < (n : Int)
      · rw [if_pos (.inr (.inl (by omega)))]
        apply pure_of _ (d_law_counter _ H) rfl
        rotate_left 2
        · simp (disch := first | with_reducible rfl | assumption | omega | rfl | (simp only [go_sem]; first | done | omega)) only [go_sem, ↓reduceIte, reduceCtorEq, Nat.reduceEqDiff, Nat.reduceAdd, Nat.reduceSub, Nat.reduceMul, Nat.reduceDiv, Nat.reduceMod, Nat.reduceLeDiff, Nat.reduceLT, Nat.reduceBEq, Int.reduceEq, Int.reduceBEq, Int.reduceBNe, Int.reduceLT, Int.reduceLE, Int.reduceAdd, Int.reduceSub, Int.reduceNeg, Int.reduceToNat, Int.reducePow, Nat.reducePow, Int.reduceMul, Int.reduceDiv, ↓s_law_counter, k2, h1, h2]
          rfl
        · (repeat (first | exact Fr.refl _ | refine Fr.push ?_ _ | refine Fr.set ?_ _ _ (by intro h; first | omega | (simp only [go_sem] at h; omega))))
      · by_cases h3 : decF 20 n = v
        · rw [if_neg (by rintro (h | h | h); omega; omega; exact h h3)]
          apply pure_of _ (d_law_counter _ H) rfl
          rotate_left 2
          · simp (disch := first | with_reducible rfl | assumption | omega | rfl | (simp only [go_sem]; first | done | omega)) only [go_sem, ↓reduceIte, reduceCtorEq, Nat.reduceEqDiff, Nat.reduceAdd, Nat.reduceSub, Nat.reduceMul, Nat.reduceDiv, Nat.reduceMod, Nat.reduceLeDiff, Nat.reduceLT, Nat.reduceBEq, Int.reduceEq, Int.reduceBEq, Int.reduceBNe, Int.reduceLT, Int.reduceLE, Int.reduceAdd, Int.reduceSub, Int.reduceNeg, Int.reduceToNat, Int.reducePow, Nat.reducePow, Int.reduceMul, Int.reduceDiv, ↓s_law_counter, k2, h1, h2, ↓enterK_eq md, enterK_eq md, bl_mk, h3]
            rfl
          · (repeat (first | exact Fr.refl _ | refine Fr.push ?_ _ | refine Fr.set ?_ _ _ (by intro h; first | omega | (simp only [go_sem] at h; omega))))
        · rw [if_pos (.inr (.inr h3))]
          apply pure_of _ (d_law_counter _ H) rfl
          rotate_left 2
          · simp (disch := first | with_reducible rfl | assumption | omega | rfl | (simp only [go_sem]; first | done | omega)) only [go_sem, ↓reduceIte, reduceCtorEq, Nat.reduceEqDiff, Nat.reduceAdd, Nat.reduceSub, Nat.reduceMul, Nat.reduceDiv, Nat.reduceMod, Nat.reduceLeDiff, Nat.reduceLT, Nat.reduceBEq, Int.reduceEq, Int.reduceBEq, Int.reduceBNe, Int.reduceLT, Int.reduceLE, Int.reduceAdd, Int.reduceSub, Int.reduceNeg, Int.reduceToNat, Int.reducePow, Nat.reducePow, Int.reduceMul, Int.reduceDiv, ↓s_law_counter, k2, h1, h2, ↓enterK_eq md, enterK_eq md, bl_mk, h3]
            rfl
          · (repeat (first | exact Fr.refl _ | refine Fr.push ?_ _ | refine Fr.set ?_ _ _ (by intro h; first | omega | (simp only [go_sem] at h; omega))))

/-! ### check -/
theorem chk_nil (s : ByteArray) : chk s [mk []] = chk s [] := by
  unfold chk
  simp [bl_mk]
theorem putE_nil (s : ByteArray) : (putE [] ⟨s, mk []⟩).1 = chk s [] := by
  unfold putE
  rw [show chk (⟨s, mk []⟩ : Pr).key [(⟨s, mk []⟩ : Pr).value] = chk s [] from chk_nil s]
  split
  · rename_i h; rw [h]; rfl
  · rfl
theorem q_idcheck0 (s : ByteArray) (H : AHeap) : CC F.ids_check [.pointer none, .string s] H = some (.int .i64 1, H) := by
  have e : ∀ ox oy, xbin Tryz.prog .eql T.p_model_Model ox oy (.pointer none) (.pointer none) = some (.bool true) := fun ox oy => by kernel_rfl
  apply pure_of _ (d_ids_check _ _ H) rfl
  rotate_left 2
  · simp (disch := first | with_reducible rfl | assumption | omega | rfl | (simp only [go_sem]; first | done | omega)) only [go_sem, ↓reduceIte, reduceCtorEq, Nat.reduceEqDiff, Nat.reduceAdd, Nat.reduceSub, Nat.reduceMul, Nat.reduceDiv, Nat.reduceMod, Nat.reduceLeDiff, Nat.reduceLT, Nat.reduceBEq, Int.reduceEq, Int.reduceBEq, Int.reduceBNe, Int.reduceLT, Int.reduceLE, Int.reduceAdd, Int.reduceSub, Int.reduceNeg, Int.reduceToNat, Int.reducePow, Nat.reducePow, Int.reduceMul, Int.reduceDiv, ↓s_ids_check, e]
    rfl
  · (repeat (first | exact Fr.refl _ | refine Fr.push ?_ _ | refine Fr.set ?_ _ _ (by intro h; first | omega | (simp only [go_sem] at h; omega))))
theorem mp_eq {ox oy : Operand} {a : Addr} : xbin Tryz.prog .eql T.p_model_Model ox oy (.pointer (some a)) (.pointer none) = some (.bool false) := by kernel_rfl
theorem q_idcheck (a : Addr) (s : ByteArray) (H : AHeap) (ok : Ok H) : CC F.ids_check [.pointer (some a), .string s] H = some (.int .i64 (chk s []), H) := by
  obtain ⟨H1, hH1⟩ : ∃ H1, H.push (.cells [.slice none 0 0] T.model_Model true) = H1 := ⟨_, rfl⟩
  obtain ⟨H2, m2, fr2, _⟩ := (Fresh.start ok hH1).put ⟨s, mk []⟩
  rw [putE_nil] at m2
  apply pure_of _ (d_ids_check _ _ H) rfl
  rotate_left 2
  · simp (disch := first | with_reducible rfl | assumption | omega | rfl | (simp only [go_sem]; first | done | omega)) only [go_sem, ↓reduceIte, reduceCtorEq, Nat.reduceEqDiff, Nat.reduceAdd, Nat.reduceSub, Nat.reduceMul, Nat.reduceDiv, Nat.reduceMod, Nat.reduceLeDiff, Nat.reduceLT, Nat.reduceBEq, Int.reduceEq, Int.reduceBEq, Int.reduceBNe, Int.reduceLT, Int.reduceLE, Int.reduceAdd, Int.reduceSub, Int.reduceNeg, Int.reduceToNat, Int.reducePow, Nat.reducePow, Int.reduceMul, Int.reduceDiv, ↓s_ids_check, mp_eq, hH1, ↓enterK_eq m2, enterK_eq m2]
    rfl
  · exact fr2.still

end Go.Proofs.YtlfpjndbpclnnaaGreatDoor

/-
  Chapter 47: Next and next: contracts.
  Conditions: none. By an AI agent.
-/
set_option maxRecDepth 10000
set_option linter.unusedSimpArgs false
set_option linter.unusedVariables false
namespace Go.Proofs.YtlfpjndbpclnnaaGreatDoor
open Go Eng

/-- What the next number of a name is, and the error. -/
def nxt (M : List Pr) (s : ByteArray) : Int × Int :=
  if chk s [] ≠ 0 then (0, chk s []) else match val M s with
    | none => (1, 0)
    | some v => if num (bl v) = 0 then (0, 12) else (num (bl v), 0)
def nxtV (M : List Pr) (s : ByteArray) : Value := .tuple #[.int .i64 (nxt M s).1, .int .i64 (nxt M s).2]
theorem nxt_bound (M : List Pr) (s : ByteArray) : 0 ≤ (nxt M s).1 ∧ (nxt M s).1 ≤ 1099511627776 := by
  unfold nxt
  split
  · exact ⟨Int.le_refl _, show (0 : Int) ≤ 1099511627776 by decide⟩
  · split
    · exact ⟨by decide, by decide⟩
    · split
      · exact ⟨Int.le_refl _, show (0 : Int) ≤ 1099511627776 by decide⟩
      · exact num_bound _
theorem getE_val {M : List Pr} (hs : Srt M) (s : ByteArray) (hc : chk s [] = 0) : getE M s = match val M s with | some v => .tuple #[.string v, .int .i64 0] | none => .tuple #[.string (mk []), .int .i64 9] := by
  unfold getE
  rw [if_pos hc, getP_val hs]
  all_goals (cases val M s <;> rfl)

theorem errn_nil : xbin Tryz.prog .neq T.error (.tmp 30) (.const .nilIface) .nilIface .nilIface = some (.bool false) := by kernel_rfl
theorem errn_some : xbin Tryz.prog .neq T.error (.tmp 30) (.const .nilIface) (.iface 118 (.chan none)) .nilIface = some (.bool true) := by kernel_rfl
theorem d_Itoa (n : Int) (H : AHeap) (h1 : -9223372036854775808 ≤ n) (h2 : n ≤ 9223372036854775807) : CC F.strconv_Itoa [.int .i64 n] H = some (.string (mk (itoaS n)), H) :=
  D_prim (show prims1 F.strconv_Itoa = some itoaV by kernel_rfl) (by unfold itoaV; simp only; rw [if_pos ⟨h1, h2⟩]; rfl)
theorem d_Atoi (v : ByteArray) (H : AHeap) (hv : v.size ≤ 1000000) : CC F.strconv_Atoi [.string v] H = atoiV [.string v] H := by
  cases h : atoiV [.string v] H with
  | some x => exact D_prim (show prims1 F.strconv_Atoi = some atoiV by kernel_rfl) h
  | none =>
    unfold atoiV at h
    simp only [if_pos hv] at h
    split at h <;> cases h

theorem q_Next0 (s : ByteArray) (H : AHeap) : CC F.ids_Next [.pointer none, .string s] H = some (.tuple #[.int .i64 0, .int .i64 1], H) := by
  have m1 := q_idcheck0 s H
  apply pure_of _ (d_ids_Next _ _ H) rfl
  rotate_left 2
  · simp (disch := first | with_reducible rfl | assumption | omega | rfl | (simp only [go_sem]; first | done | omega)) only [go_sem, ↓reduceIte, reduceCtorEq, Nat.reduceEqDiff, Nat.reduceAdd, Nat.reduceSub, Nat.reduceMul, Nat.reduceDiv, Nat.reduceMod, Nat.reduceLeDiff, Nat.reduceLT, Nat.reduceBEq, Int.reduceEq, Int.reduceBEq, Int.reduceBNe, Int.reduceLT, Int.reduceLE, Int.reduceAdd, Int.reduceSub, Int.reduceNeg, Int.reduceToNat, Int.reducePow, Nat.reducePow, Int.reduceMul, Int.reduceDiv, ↓s_ids_Next, ↓enterK_eq m1, enterK_eq m1]
    rfl
  · (repeat (first | exact Fr.refl _ | refine Fr.push ?_ _ | refine Fr.set ?_ _ _ (by intro h; first | omega | (simp only [go_sem] at h; omega))))
theorem sz_bl (v : ByteArray) : v.size = (bl v).length := by show v.data.size = v.data.toList.length; rw [Array.length_toList]
theorem vok_val {M : List Pr} (h : VOk M) {s v : ByteArray} (hv : val M s = some v) : (bl v).length ≤ 40 := by
  unfold val at hv
  obtain ⟨a, ha, rfl⟩ := Option.map_eq_some_iff.1 hv
  exact (chk_len (h a (List.mem_of_find?_eq_some ha))).2.2

set_option maxHeartbeats 1000000 in
theorem q_Next (bm : Nat) (M : List Pr) (s : ByteArray) (H : AHeap) (ok : Ok H) (r : Mdl H bm M) (hs : Srt M) (hl : M.length ≤ 20000) (vk : VOk M) :
    CC F.ids_Next [.pointer (some ⟨bm, 0, none⟩), .string s] H = some (nxtV M s, H) := by
  have m1 := q_idcheck ⟨bm, 0, none⟩ s H ok
  have m2 := q_getM bm M s H r hs hl
  unfold nxtV nxt
  by_cases hc : chk s [] = 0
  · rw [if_neg (by simpa using hc)]
    rw [getE_val hs s hc] at m2
    rw [hc] at m1
    cases hv : val M s with
    | none =>
      rw [hv] at m2
      apply pure_of _ (d_ids_Next _ _ H) rfl
      rotate_left 2
      · simp (disch := first | with_reducible rfl | assumption | omega | rfl | (simp only [go_sem]; first | done | omega)) only [go_sem, ↓reduceIte, reduceCtorEq, Nat.reduceEqDiff, Nat.reduceAdd, Nat.reduceSub, Nat.reduceMul, Nat.reduceDiv, Nat.reduceMod, Nat.reduceLeDiff, Nat.reduceLT, Nat.reduceBEq, Int.reduceEq, Int.reduceBEq, Int.reduceBNe, Int.reduceLT, Int.reduceLE, Int.reduceAdd, Int.reduceSub, Int.reduceNeg, Int.reduceToNat, Int.reducePow, Nat.reducePow, Int.reduceMul, Int.reduceDiv, ↓s_ids_Next, ↓enterK_eq m1, enterK_eq m1, ↓enterK_eq m2, enterK_eq m2]
        rfl
      · (repeat (first | exact Fr.refl _ | refine Fr.push ?_ _ | refine Fr.set ?_ _ _ (by intro h; first | omega | (simp only [go_sem] at h; omega))))
    | some v =>
      rw [hv] at m2
      have hvl := vok_val vk hv
      have m3 := d_Atoi v H (by rw [sz_bl]; omega)
      have hbl : bl v = v.data.toList := rfl
      unfold atoiV at m3
      simp only [if_pos (show v.size ≤ 1000000 by rw [sz_bl]; omega)] at m3
      simp only
      cases ha : Lib.atoiAll v.data.toList with
      | ok n =>
        rw [ha] at m3
        simp only at m3
        by_cases h1 : n < 1
        · have hz : num (bl v) = 0 := by unfold num; rw [hbl, ha]; exact if_pos (.inl h1)
          rw [hz, if_pos rfl]
          apply pure_of _ (d_ids_Next _ _ H) rfl
          rotate_left 2
          · simp (disch := first | with_reducible rfl | assumption | omega | rfl | (simp only [go_sem]; first | done | omega)) only [go_sem, ↓reduceIte, reduceCtorEq, Nat.reduceEqDiff, Nat.reduceAdd, Nat.reduceSub, Nat.reduceMul, Nat.reduceDiv, Nat.reduceMod, Nat.reduceLeDiff, Nat.reduceLT, Nat.reduceBEq, Int.reduceEq, Int.reduceBEq, Int.reduceBNe, Int.reduceLT, Int.reduceLE, Int.reduceAdd, Int.reduceSub, Int.reduceNeg, Int.reduceToNat, Int.reducePow, Nat.reducePow, Int.reduceMul, Int.reduceDiv, ↓s_ids_Next, ↓enterK_eq m1, enterK_eq m1, ↓enterK_eq m2, enterK_eq m2, ↓enterK_eq m3, enterK_eq m3, errn_nil, h1]
            rfl
          · (repeat (first | exact Fr.refl _ | refine Fr.push ?_ _ | refine Fr.set ?_ _ _ (by intro h; first | omega | (simp only [go_sem] at h; omega))))
        · by_cases h2 : 1099511627776 < n
          · have hz : num (bl v) = 0 := by unfold num; rw [hbl, ha]; exact if_pos (.inr (.inl h2))
            rw [hz, if_pos rfl]
            apply pure_of _ (d_ids_Next _ _ H) rfl
            rotate_left 2
            · simp (disch := first | with_reducible rfl | assumption | omega | rfl | (simp only [go_sem]; first | done | omega)) only [go_sem, ↓reduceIte, reduceCtorEq, Nat.reduceEqDiff, Nat.reduceAdd, Nat.reduceSub, Nat.reduceMul, Nat.reduceDiv, Nat.reduceMod, Nat.reduceLeDiff, Nat.reduceLT, Nat.reduceBEq, Int.reduceEq, Int.reduceBEq, Int.reduceBNe, Int.reduceLT, Int.reduceLE, Int.reduceAdd, Int.reduceSub, Int.reduceNeg, Int.reduceToNat, Int.reducePow, Nat.reducePow, Int.reduceMul, Int.reduceDiv, ↓s_ids_Next, ↓enterK_eq m1, enterK_eq m1, ↓enterK_eq m2, enterK_eq m2, ↓enterK_eq m3, enterK_eq m3, errn_nil, h1, h2]
              rfl
            · (repeat (first | exact Fr.refl _ | refine Fr.push ?_ _ | refine Fr.set ?_ _ _ (by intro h; first | omega | (simp only [go_sem] at h; omega))))
          · have m4 := d_Itoa n H (by omega) (by omega)
            by_cases h3 : itoaS n = v.data.toList
            · have h3' : itoaS n = bl v := h3
              have hz : num (bl v) = n := by unfold num; rw [hbl, ha]; exact if_neg (by rintro (h | h | h); exact h1 h; exact h2 h; exact h h3)
              rw [hz, if_neg (by omega)]
              apply pure_of _ (d_ids_Next _ _ H) rfl
              rotate_left 2
              · simp (disch := first | with_reducible rfl | assumption | omega | rfl | (simp only [go_sem]; first | done | omega)) only [go_sem, ↓reduceIte, reduceCtorEq, Nat.reduceEqDiff, Nat.reduceAdd, Nat.reduceSub, Nat.reduceMul, Nat.reduceDiv, Nat.reduceMod, Nat.reduceLeDiff, Nat.reduceLT, Nat.reduceBEq, Int.reduceEq, Int.reduceBEq, Int.reduceBNe, Int.reduceLT, Int.reduceLE, Int.reduceAdd, Int.reduceSub, Int.reduceNeg, Int.reduceToNat, Int.reducePow, Nat.reducePow, Int.reduceMul, Int.reduceDiv, ↓s_ids_Next, ↓enterK_eq m1, enterK_eq m1, ↓enterK_eq m2, enterK_eq m2, ↓enterK_eq m3, enterK_eq m3, errn_nil, h1, h2, ↓enterK_eq m4, enterK_eq m4, bl_mk, h3']
                rfl
              · (repeat (first | exact Fr.refl _ | refine Fr.push ?_ _ | refine Fr.set ?_ _ _ (by intro h; first | omega | (simp only [go_sem] at h; omega))))
            · have h3' : ¬ itoaS n = bl v := h3
              have hz : num (bl v) = 0 := by unfold num; rw [hbl, ha]; exact if_pos (.inr (.inr h3))
              rw [hz, if_pos rfl]
              apply pure_of _ (d_ids_Next _ _ H) rfl
              rotate_left 2
              · simp (disch := first | with_reducible rfl | assumption | omega | rfl | (simp only [go_sem]; first | done | omega)) only [go_sem, ↓reduceIte, reduceCtorEq, Nat.reduceEqDiff, Nat.reduceAdd, Nat.reduceSub, Nat.reduceMul, Nat.reduceDiv, Nat.reduceMod, Nat.reduceLeDiff, Nat.reduceLT, Nat.reduceBEq, Int.reduceEq, Int.reduceBEq, Int.reduceBNe, Int.reduceLT, Int.reduceLE, Int.reduceAdd, Int.reduceSub, Int.reduceNeg, Int.reduceToNat, Int.reducePow, Nat.reducePow, Int.reduceMul, Int.reduceDiv, ↓s_ids_Next, ↓enterK_eq m1, enterK_eq m1, ↓enterK_eq m2, enterK_eq m2, ↓enterK_eq m3, enterK_eq m3, errn_nil, h1, h2, ↓enterK_eq m4, enterK_eq m4, bl_mk, h3']
                rfl
              · (repeat (first | exact Fr.refl _ | refine Fr.push ?_ _ | refine Fr.set ?_ _ _ (by intro h; first | omega | (simp only [go_sem] at h; omega))))
      | range =>
        rw [ha] at m3
        simp only at m3
        have hz : num (bl v) = 0 := by unfold num; rw [hbl, ha]
        rw [hz, if_pos rfl]
        apply pure_of _ (d_ids_Next _ _ H) rfl
        rotate_left 2
        · simp (disch := first | with_reducible rfl | assumption | omega | rfl | (simp only [go_sem]; first | done | omega)) only [go_sem, ↓reduceIte, reduceCtorEq, Nat.reduceEqDiff, Nat.reduceAdd, Nat.reduceSub, Nat.reduceMul, Nat.reduceDiv, Nat.reduceMod, Nat.reduceLeDiff, Nat.reduceLT, Nat.reduceBEq, Int.reduceEq, Int.reduceBEq, Int.reduceBNe, Int.reduceLT, Int.reduceLE, Int.reduceAdd, Int.reduceSub, Int.reduceNeg, Int.reduceToNat, Int.reducePow, Nat.reducePow, Int.reduceMul, Int.reduceDiv, ↓s_ids_Next, ↓enterK_eq m1, enterK_eq m1, ↓enterK_eq m2, enterK_eq m2, ↓enterK_eq m3, enterK_eq m3, errn_some]
          rfl
        · (repeat (first | exact Fr.refl _ | refine Fr.push ?_ _ | refine Fr.set ?_ _ _ (by intro h; first | omega | (simp only [go_sem] at h; omega))))
      | _ =>
        rw [ha] at m3
        simp only at m3
        have hz : num (bl v) = 0 := by unfold num; rw [hbl, ha]
        rw [hz, if_pos rfl]
        apply pure_of _ (d_ids_Next _ _ H) rfl
        rotate_left 2
        · simp (disch := first | with_reducible rfl | assumption | omega | rfl | (simp only [go_sem]; first | done | omega)) only [go_sem, ↓reduceIte, reduceCtorEq, Nat.reduceEqDiff, Nat.reduceAdd, Nat.reduceSub, Nat.reduceMul, Nat.reduceDiv, Nat.reduceMod, Nat.reduceLeDiff, Nat.reduceLT, Nat.reduceBEq, Int.reduceEq, Int.reduceBEq, Int.reduceBNe, Int.reduceLT, Int.reduceLE, Int.reduceAdd, Int.reduceSub, Int.reduceNeg, Int.reduceToNat, Int.reducePow, Nat.reducePow, Int.reduceMul, Int.reduceDiv, ↓s_ids_Next, ↓enterK_eq m1, enterK_eq m1, ↓enterK_eq m2, enterK_eq m2, ↓enterK_eq m3, enterK_eq m3, errn_some]
          rfl
        · (repeat (first | exact Fr.refl _ | refine Fr.push ?_ _ | refine Fr.set ?_ _ _ (by intro h; first | omega | (simp only [go_sem] at h; omega))))
  · rw [if_pos hc]
    apply pure_of _ (d_ids_Next _ _ H) rfl
    rotate_left 2
    · simp (disch := first | with_reducible rfl | assumption | omega | rfl | (simp only [go_sem]; first | done | omega)) only [go_sem, ↓reduceIte, reduceCtorEq, Nat.reduceEqDiff, Nat.reduceAdd, Nat.reduceSub, Nat.reduceMul, Nat.reduceDiv, Nat.reduceMod, Nat.reduceLeDiff, Nat.reduceLT, Nat.reduceBEq, Int.reduceEq, Int.reduceBEq, Int.reduceBNe, Int.reduceLT, Int.reduceLE, Int.reduceAdd, Int.reduceSub, Int.reduceNeg, Int.reduceToNat, Int.reducePow, Nat.reducePow, Int.reduceMul, Int.reduceDiv, ↓s_ids_Next, ↓enterK_eq m1, enterK_eq m1, hc]
      rfl
    · (repeat (first | exact Fr.refl _ | refine Fr.push ?_ _ | refine Fr.set ?_ _ _ (by intro h; first | omega | (simp only [go_sem] at h; omega))))

/-! ### next -/
theorem q_lnext (bm : Nat) (M : List Pr) (s : ByteArray) (H : AHeap) (r : Mdl H bm M) (hs : Srt M) (hl : M.length ≤ 20000) (vk : VOk M) :
    CC F.law_next [.pointer (some ⟨bm, 0, none⟩), .string s] H = some (nxtV M s, H) := by
  have m2 := q_getM bm M s H r hs hl
  unfold nxtV nxt
  by_cases h1 : bl s = []
  · have hc : chk s [] = 2 := by unfold chk; rw [if_pos h1]
    have h1' : ((bl s).length : Int) = 0 := by rw [h1]; rfl
    rw [hc, if_pos (by decide)]
    apply pure_of _ (d_law_next _ _ H) rfl
    rotate_left 2
    · simp (disch := first | with_reducible rfl | assumption | omega | rfl | (simp only [go_sem]; first | done | omega)) only [go_sem, ↓reduceIte, reduceCtorEq, Nat.reduceEqDiff, Nat.reduceAdd, Nat.reduceSub, Nat.reduceMul, Nat.reduceDiv, Nat.reduceMod, Nat.reduceLeDiff, Nat.reduceLT, Nat.reduceBEq, Int.reduceEq, Int.reduceBEq, Int.reduceBNe, Int.reduceLT, Int.reduceLE, Int.reduceAdd, Int.reduceSub, Int.reduceNeg, Int.reduceToNat, Int.reducePow, Nat.reducePow, Int.reduceMul, Int.reduceDiv, ↓s_law_next, h1']
      rfl
    · (repeat (first | exact Fr.refl _ | refine Fr.push ?_ _ | refine Fr.set ?_ _ _ (by intro h; first | omega | (simp only [go_sem] at h; omega))))
  · have h1' : ¬ ((bl s).length : Int) = 0 := fun h => h1 (List.length_eq_zero_iff.1 (by omega))
    by_cases h2 : 24 < ((bl s).length : Int)
    · have hc : chk s [] = 5 := by unfold chk; rw [if_neg h1, if_pos (.inl (by omega))]
      rw [hc, if_pos (by decide)]
      apply pure_of _ (d_law_next _ _ H) rfl
      rotate_left 2
      · simp (disch := first | with_reducible rfl | assumption | omega | rfl | (simp only [go_sem]; first | done | omega)) only [go_sem, ↓reduceIte, reduceCtorEq, Nat.reduceEqDiff, Nat.reduceAdd, Nat.reduceSub, Nat.reduceMul, Nat.reduceDiv, Nat.reduceMod, Nat.reduceLeDiff, Nat.reduceLT, Nat.reduceBEq, Int.reduceEq, Int.reduceBEq, Int.reduceBNe, Int.reduceLT, Int.reduceLE, Int.reduceAdd, Int.reduceSub, Int.reduceNeg, Int.reduceToNat, Int.reducePow, Nat.reducePow, Int.reduceMul, Int.reduceDiv, ↓s_law_next, h1', h2]
        rfl
      · (repeat (first | exact Fr.refl _ | refine Fr.push ?_ _ | refine Fr.set ?_ _ _ (by intro h; first | omega | (simp only [go_sem] at h; omega))))
    · have hc : chk s [] = 0 := by unfold chk; rw [if_neg h1, if_neg (by simp; omega)]
      rw [if_neg (by simpa using hc)]
      rw [getE_val hs s hc] at m2
      cases hv : val M s with
      | none =>
        rw [hv] at m2
        apply pure_of _ (d_law_next _ _ H) rfl
        rotate_left 2
        · simp (disch := first | with_reducible rfl | assumption | omega | rfl | (simp only [go_sem]; first | done | omega)) only [go_sem, ↓reduceIte, reduceCtorEq, Nat.reduceEqDiff, Nat.reduceAdd, Nat.reduceSub, Nat.reduceMul, Nat.reduceDiv, Nat.reduceMod, Nat.reduceLeDiff, Nat.reduceLT, Nat.reduceBEq, Int.reduceEq, Int.reduceBEq, Int.reduceBNe, Int.reduceLT, Int.reduceLE, Int.reduceAdd, Int.reduceSub, Int.reduceNeg, Int.reduceToNat, Int.reducePow, Nat.reducePow, Int.reduceMul, Int.reduceDiv, ↓s_law_next, h1', h2, ↓enterK_eq m2, enterK_eq m2]
          rfl
        · (repeat (first | exact Fr.refl _ | refine Fr.push ?_ _ | refine Fr.set ?_ _ _ (by intro h; first | omega | (simp only [go_sem] at h; omega))))
      | some v =>
        rw [hv] at m2
        have hvl := vok_val vk hv
        have m3 := q_counter (bl v) (by omega) H
        rw [mk_bl] at m3
        simp only
        by_cases h3 : num (bl v) = 0
        · rw [if_pos h3]
          apply pure_of _ (d_law_next _ _ H) rfl
          rotate_left 2
          · simp (disch := first | with_reducible rfl | assumption | omega | rfl | (simp only [go_sem]; first | done | omega)) only [go_sem, ↓reduceIte, reduceCtorEq, Nat.reduceEqDiff, Nat.reduceAdd, Nat.reduceSub, Nat.reduceMul, Nat.reduceDiv, Nat.reduceMod, Nat.reduceLeDiff, Nat.reduceLT, Nat.reduceBEq, Int.reduceEq, Int.reduceBEq, Int.reduceBNe, Int.reduceLT, Int.reduceLE, Int.reduceAdd, Int.reduceSub, Int.reduceNeg, Int.reduceToNat, Int.reducePow, Nat.reducePow, Int.reduceMul, Int.reduceDiv, ↓s_law_next, h1', h2, ↓enterK_eq m2, enterK_eq m2, ↓enterK_eq m3, enterK_eq m3, h3]
            rfl
          · (repeat (first | exact Fr.refl _ | refine Fr.push ?_ _ | refine Fr.set ?_ _ _ (by intro h; first | omega | (simp only [go_sem] at h; omega))))
        · rw [if_neg h3]
          apply pure_of _ (d_law_next _ _ H) rfl
          rotate_left 2
          · simp (disch := first | with_reducible rfl | assumption | omega | rfl | (simp only [go_sem]; first | done | omega)) only [go_sem, ↓reduceIte, reduceCtorEq, Nat.reduceEqDiff, Nat.reduceAdd, Nat.reduceSub, Nat.reduceMul, Nat.reduceDiv, Nat.reduceMod, Nat.reduceLeDiff, Nat.reduceLT, Nat.reduceBEq, Int.reduceEq, Int.reduceBEq, Int.reduceBNe, Int.reduceLT, Int.reduceLE, Int.reduceAdd, Int.reduceSub, Int.reduceNeg, Int.reduceToNat, Int.reducePow, Nat.reducePow, Int.reduceMul, Int.reduceDiv, ↓s_law_next, h1', h2, ↓enterK_eq m2, enterK_eq m2, ↓enterK_eq m3, enterK_eq m3, h3]
            rfl
          · (repeat (first | exact Fr.refl _ | refine Fr.push ?_ _ | refine Fr.set ?_ _ _ (by intro h; first | omega | (simp only [go_sem] at h; omega))))

theorem q_nexts (p : Value) (s : ByteArray) (a b : Int) (H : AHeap) (h : CC F.ids_Next [p, .string s] H = some (.tuple #[.int .i64 a, .int .i64 b], H)) : CC F.law_nexts [p, .string s, .int .i64 a, .int .i64 b] H = some (.bool true, H) := by
  apply pure_of _ (d_law_nexts _ _ _ _ H) rfl
  rotate_left 2
  · simp (disch := first | with_reducible rfl | assumption | omega | rfl | (simp only [go_sem]; first | done | omega)) only [go_sem, ↓reduceIte, reduceCtorEq, Nat.reduceEqDiff, Nat.reduceAdd, Nat.reduceSub, Nat.reduceMul, Nat.reduceDiv, Nat.reduceMod, Nat.reduceLeDiff, Nat.reduceLT, Nat.reduceBEq, Int.reduceEq, Int.reduceBEq, Int.reduceBNe, Int.reduceLT, Int.reduceLE, Int.reduceAdd, Int.reduceSub, Int.reduceNeg, Int.reduceToNat, Int.reducePow, Nat.reducePow, Int.reduceMul, Int.reduceDiv, ↓s_law_nexts, ↓enterK_eq h, enterK_eq h]
    rfl
  · (repeat (first | exact Fr.refl _ | refine Fr.push ?_ _ | refine Fr.set ?_ _ _ (by intro h; first | omega | (simp only [go_sem] at h; omega))))

end Go.Proofs.YtlfpjndbpclnnaaGreatDoor

/-
  Chapter 47: Take and take: contracts.
  Conditions: none. By an AI agent.
-/
set_option maxRecDepth 10000
set_option linter.unusedSimpArgs false
set_option linter.unusedVariables false
namespace Go.Proofs.YtlfpjndbpclnnaaGreatDoor
open Go Eng

/-! ### calls that work on one map -/
theorem mb_same {S : Nat → Prop} {H H' : AHeap} {bm : Nat} {M : List Pr} (r : Mdl H bm M) (h : Fr S H H') (hS : ∀ c, MB H bm c → ¬ S c) : Mdl H' bm M ∧ ∀ c, MB H' bm c → MB H bm c := by
  have hf : H'.f bm = H.f bm := h.f (r.blk (.inl rfl)) (hS bm (.inl rfl))
  exact ⟨r.keep h (hS bm (.inl rfl)) fun v hv c hc hs => hS c (.inr ⟨v, hv, hc⟩) hs, fun c hc => hc.imp id fun ⟨v, hv, hb⟩ => ⟨v, by rw [← hf]; exact hv, hb⟩⟩
theorem Fresh.by {S : Nat → Prop} {H0 H H' : AHeap} {bm : Nat} {M : List Pr} (r : Fresh H0 H bm M) (h : Fr S H H') (hS : ∀ c, MB H bm c → ¬ S c) (h0 : ∀ b, b < H0.n → ¬ S b) : Fresh H0 H' bm M :=
  ⟨r.still.then h fun b hb hs => h0 b hb hs, r.ok.fr h, (mb_same r.mdl h hS).1, fun c hc => r.new c ((mb_same r.mdl h hS).2 c hc), r.srt, r.len, r.vok⟩
theorem Fresh.putU {H0 H : AHeap} {bm : Nat} {l : List Pr} (r : Fresh H0 H bm l) (a : Pr) :
    ∃ H', CC F.model_Model_Put [.pointer (some ⟨bm, 0, none⟩), .string a.key, .string a.value] H = some (.int .i64 (putE l a).1, H') ∧ Fresh H0 H' bm (putE l a).2 ∧ Up H bm H' := by
  obtain ⟨H', e1, e2, e3⟩ := q_putM bm l a H r.ok r.mdl r.srt r.len
  exact ⟨H', e1, r.up e2 e3 (srt_putE r.srt a) (len_putE r.len a) (vok_putE r.vok a), e3⟩

theorem Own.back {α : Type} {E : Enc α} {e : TypeId} {v : Value} {l : List α} {H H' : AHeap} (r : Own E H' e v l) (hb : ∀ b, blockOf v = some b → b < H.n) (hf : ∀ b, b < H.n → H'.f b = H.f b) : Own E H e v l := by
  rcases r with r | ⟨hl, a, rfl, hsp, _⟩ | ⟨b, o, c, xs, rfl, hl, _, hx1, ho, hx⟩
  · exact .inl r
  · exact .inr (.inl ⟨hl, a, rfl, hsp, hb _ rfl⟩)
  · exact .inr (.inr ⟨b, o, c, xs, rfl, hl, hb b rfl, by rw [← hf b (hb b rfl)]; exact hx1, ho, hx⟩)
/-- A call is told, or was nothing. -/
theorem Fresh.tidy {H0 H H' : AHeap} {bm : Nat} {M M' : List Pr} {v : Value} (r : Fresh H0 H bm M) (r' : Fresh H0 H' bm M') (u : Up H bm H') :
    ∃ H2, Eng.tidy H (v, H') = (v, H2) ∧ Fresh H0 H2 bm M' ∧ Up H bm H2 := by
  unfold Eng.tidy
  split
  · rename_i hg
    simp only [Bool.and_eq_true] at hg
    have hsame : ∀ b, b < H.n → H'.f b = H.f b := fun b hb => by
      rcases u.fr.old b hb with h | ⟨h, _⟩
      · exact h.2
      · have h1 := List.all_eq_true.1 hg.2 b (by simpa using hb)
        have h2 := r.ok b
        have h3 : H'.ver b = H.ver b := by simpa using h1
        omega
    refine ⟨H, rfl, ⟨r.still, r.ok, ?_, r.new, r'.srt, r'.len, r'.vok⟩, UpT.refl H bm⟩
    obtain ⟨v0, k1, k2, k3, k4⟩ := r.mdl
    obtain ⟨v1, h1, h2, h3, h4⟩ := r'.mdl
    rw [hsame bm k2, k1] at h1
    cases h1
    exact ⟨v0, k1, k2, Own.back h3 (fun b hb => k3.blk hb) hsame, k4⟩
  · exact ⟨H', rfl, r', u⟩
theorem UpT.pre {H H1 H2 : AHeap} {bm : Nat} {M : List Pr} (r : Mdl H bm M) (s : Still H H1) (u : Up H1 bm H2) : Up H bm H2 :=
  ⟨s.still.then u.fr fun b hb h => MBT_still r s h, fun c hc => (u.mb c hc).imp (MBT_still r s) fun h => Nat.le_trans s.n h⟩
theorem Up.post {S : Nat → Prop} {H0 H H2 H3 : AHeap} {bm : Nat} {M' : List Pr} (u : Up H bm H2) (r2 : Fresh H0 H2 bm M') (f : Fr S H2 H3) (hS : ∀ b, S b → H.n ≤ b) (h0 : H0.n ≤ H.n) (hm : ∀ c, MB H2 bm c → ¬ S c) : Fresh H0 H3 bm M' ∧ Up H bm H3 := by
  refine ⟨r2.by f hm fun b hb h => by have := hS b h; omega, ⟨u.fr.then f fun b hb h => by have := hS b h; omega, fun c hc => u.mb c ((mb_same r2.mdl f hm).2 c hc)⟩⟩

/-! ### Take -/
def tk (M : List Pr) (s : ByteArray) (n : Int) : (Int × Int) × Int × List Pr :=
  if n < 1 ∨ 1000 < n then ((0, 0), 2, M) else if (nxt M s).2 ≠ 0 then ((0, 0), (nxt M s).2, M) else if 1099511627776 < (nxt M s).1 + n then ((0, 0), 17, M) else (((nxt M s).1, n), 0, (putE M ⟨s, mk (decF 20 ((nxt M s).1 + n).toNat)⟩).2)
def tkV (M : List Pr) (s : ByteArray) (n : Int) : Value := .tuple #[.agg #[.int .i64 (tk M s n).1.1, .int .i64 (tk M s n).1.2], .int .i64 (tk M s n).2.1]
theorem nxt_ok {M : List Pr} {s : ByteArray} (h : (nxt M s).2 = 0) : chk s [] = 0 := by
  unfold nxt at h
  split at h
  · rename_i h1; exact absurd h h1
  · rename_i h1
    by_cases h2 : chk s [] = 0
    · exact h2
    · exact absurd h2 h1
theorem dec_size {n : Int} (h0 : 0 ≤ n) (h1 : n ≤ 1099511627776) : (decF 20 n.toNat).length ≤ 20 := dec_len 20 _
theorem putE_ok {M : List Pr} {s v : ByteArray} (h1 : chk s [] = 0) (h2 : (bl v).length ≤ 40) (h3 : M.length < 20000) : (putE M ⟨s, v⟩).1 = 0 := by
  have hc : chk s [v] = 0 := by
    unfold chk at h1 ⊢
    split at h1
    · cases h1
    · rename_i g1
      rw [if_neg g1]
      split at h1
      · cases h1
      · rename_i g2
        rw [if_neg]
        simp at g2 ⊢
        exact ⟨g2, h2⟩
  unfold putE
  rw [if_pos hc]
  unfold putP
  split
  · rfl
  · split
    · omega
    · rfl
theorem mpe_nil {ox oy : Operand} : xbin Tryz.prog .eql T.p_model_Model ox oy (.pointer none) (.pointer none) = some (.bool true) := by kernel_rfl

theorem newBlk {H : AHeap} (a b : Int) {H1 : AHeap} (h1 : H.push (.cells [.int .i64 a, .int .i64 b] T.api_Block true) = H1) : Still H H1 ∧ H1.n = H.n + 1 ∧ H1.f H.n = .cells [.int .i64 a, .int .i64 b] T.api_Block true :=
  ⟨by rw [← h1]; exact (Fr.refl H).push _, by rw [← h1]; rfl, by rw [← h1]; exact push_f_eq rfl⟩

theorem q_Take0 (s : ByteArray) (n : Int) (H : AHeap) : CC F.ids_Take [.pointer none, .string s, .int .i64 n] H = some (.tuple #[.agg #[.int .i64 0, .int .i64 0], .int .i64 1], H) := by
  obtain ⟨H1, hH1⟩ : ∃ H1, H.push (.cells [.int .i64 0, .int .i64 0] T.api_Block true) = H1 := ⟨_, rfl⟩
  obtain ⟨s1, n1, f1⟩ := newBlk 0 0 hH1
  apply pure_of _ (d_ids_Take _ _ _ H) rfl
  rotate_left 2
  · simp (disch := first | with_reducible rfl | assumption | omega | rfl | (simp only [go_sem]; first | done | omega)) only [go_sem, ↓reduceIte, reduceCtorEq, Nat.reduceEqDiff, Nat.reduceAdd, Nat.reduceSub, Nat.reduceMul, Nat.reduceDiv, Nat.reduceMod, Nat.reduceLeDiff, Nat.reduceLT, Nat.reduceBEq, Int.reduceEq, Int.reduceBEq, Int.reduceBNe, Int.reduceLT, Int.reduceLE, Int.reduceAdd, Int.reduceSub, Int.reduceNeg, Int.reduceToNat, Int.reducePow, Nat.reducePow, Int.reduceMul, Int.reduceDiv, ↓s_ids_Take, hH1, mpe_nil, f1]
    rfl
  · exact Fr.set s1 _ _ fun h => by omega

set_option maxHeartbeats 1000000 in
theorem q_Take {H0 : AHeap} (bm : Nat) (M : List Pr) (s : ByteArray) (n : Int) (H : AHeap) (fr : Fresh H0 H bm M) (hM : M.length < 20000) :
    ∃ H', CC F.ids_Take [.pointer (some ⟨bm, 0, none⟩), .string s, .int .i64 n] H = some (tkV M s n, H') ∧ Fresh H0 H' bm (tk M s n).2.2 ∧ Up H bm H' := by
  obtain ⟨H1, hH1⟩ : ∃ H1, H.push (.cells [.int .i64 0, .int .i64 0] T.api_Block true) = H1 := ⟨_, rfl⟩
  obtain ⟨s1, n1, f1⟩ := newBlk 0 0 hH1
  have fr1 := fr.to s1
  have hnx := q_Next bm M s H1 fr1.ok fr1.mdl fr1.srt fr1.len fr1.vok
  obtain ⟨hx0, hx1⟩ := nxt_bound M s
  have hok := nxt_ok (M := M) (s := s)
  unfold nxtV at hnx
  unfold tkV tk
  generalize nxt M s = x at hnx hx0 hx1 hok ⊢
  obtain ⟨k, e⟩ := x
  simp only at hnx hx0 hx1 hok ⊢
  by_cases h1 : n < 1 ∨ 1000 < n
  · rw [if_pos h1]
    refine ⟨H, ?_, fr, UpT.refl H bm⟩
    by_cases h2 : n < 1
    · apply pure_of _ (d_ids_Take _ _ _ H) rfl
      rotate_left 2
      · simp (disch := first | with_reducible rfl | assumption | omega | rfl | (simp only [go_sem]; first | done | omega)) only [go_sem, ↓reduceIte, reduceCtorEq, Nat.reduceEqDiff, Nat.reduceAdd, Nat.reduceSub, Nat.reduceMul, Nat.reduceDiv, Nat.reduceMod, Nat.reduceLeDiff, Nat.reduceLT, Nat.reduceBEq, Int.reduceEq, Int.reduceBEq, Int.reduceBNe, Int.reduceLT, Int.reduceLE, Int.reduceAdd, Int.reduceSub, Int.reduceNeg, Int.reduceToNat, Int.reducePow, Nat.reducePow, Int.reduceMul, Int.reduceDiv, ↓s_ids_Take, hH1, mp_eq, h2, f1]
        rfl
      · exact Fr.set s1 _ _ fun h => by omega
    · have h3 : 1000 < n := by omega
      apply pure_of _ (d_ids_Take _ _ _ H) rfl
      rotate_left 2
      · simp (disch := first | with_reducible rfl | assumption | omega | rfl | (simp only [go_sem]; first | done | omega)) only [go_sem, ↓reduceIte, reduceCtorEq, Nat.reduceEqDiff, Nat.reduceAdd, Nat.reduceSub, Nat.reduceMul, Nat.reduceDiv, Nat.reduceMod, Nat.reduceLeDiff, Nat.reduceLT, Nat.reduceBEq, Int.reduceEq, Int.reduceBEq, Int.reduceBNe, Int.reduceLT, Int.reduceLE, Int.reduceAdd, Int.reduceSub, Int.reduceNeg, Int.reduceToNat, Int.reducePow, Nat.reducePow, Int.reduceMul, Int.reduceDiv, ↓s_ids_Take, hH1, mp_eq, h2, h3, f1]
        rfl
      · exact Fr.set s1 _ _ fun h => by omega
  · rw [if_neg h1]
    have h2 : ¬ n < 1 := fun h => h1 (.inl h)
    have h3 : ¬ 1000 < n := fun h => h1 (.inr h)
    by_cases h4 : e = 0
    · rw [if_neg (by simpa using h4)]
      subst h4
      by_cases h5 : 1099511627776 < k + n
      · rw [if_pos h5]
        refine ⟨H, ?_, fr, UpT.refl H bm⟩
        apply pure_of _ (d_ids_Take _ _ _ H) rfl
        rotate_left 2
        · simp (disch := first | with_reducible rfl | assumption | omega | rfl | (simp only [go_sem]; first | done | omega)) only [go_sem, ↓reduceIte, reduceCtorEq, Nat.reduceEqDiff, Nat.reduceAdd, Nat.reduceSub, Nat.reduceMul, Nat.reduceDiv, Nat.reduceMod, Nat.reduceLeDiff, Nat.reduceLT, Nat.reduceBEq, Int.reduceEq, Int.reduceBEq, Int.reduceBNe, Int.reduceLT, Int.reduceLE, Int.reduceAdd, Int.reduceSub, Int.reduceNeg, Int.reduceToNat, Int.reducePow, Nat.reducePow, Int.reduceMul, Int.reduceDiv, ↓s_ids_Take, hH1, mp_eq, h2, h3, ↓enterK_eq hnx, enterK_eq hnx, h5, f1]
          rfl
        · exact Fr.set s1 _ _ fun h => by omega
      · rw [if_neg h5]
        have hc := hok rfl
        have mi := d_Itoa (k + n) H1 (by omega) (by omega)
        have hit : itoaS (k + n) = decF 20 (k + n).toNat := by unfold itoaS; rw [if_neg (by omega)]
        rw [hit] at mi
        obtain ⟨H2, m2, fr2, u2⟩ := fr1.putU ⟨s, mk (decF 20 (k + n).toNat)⟩
        have hp : (putE M ⟨s, mk (decF 20 (k + n).toNat)⟩).1 = 0 := putE_ok hc (by rw [bl_mk]; have := dec_size (n := k + n) (by omega) (by omega); omega) hM
        rw [hp] at m2
        have f2 : H2.f H.n = .cells [.int .i64 0, .int .i64 0] T.api_Block true := by
          rw [u2.fr.f (by omega) fun h => by have := fr.mdl.blk (MBT_still fr.mdl s1 h); omega]
          exact f1
        have u2' := UpT.pre fr.mdl s1 u2
        obtain ⟨H3, hH3⟩ : ∃ H3, H2.set H.n (.cells [.int .i64 k, .int .i64 n] T.api_Block true) = H3 := ⟨_, rfl⟩
        have f3 : H3.f H.n = .cells [.int .i64 k, .int .i64 n] T.api_Block true := by rw [← hH3]; exact set_f_eq
        have fs : Fr (fun b => b = H.n) H2 H3 := by rw [← hH3]; exact Fr.set (Fr.refl H2) _ _ fun _ => rfl
        obtain ⟨fr3, u3⟩ := Up.post u2' fr2 fs (fun b hb => by omega) fr.still.n fun c hc h => by
          subst h
          rcases u2.mb _ hc with h | h
          · have := fr.mdl.blk (MBT_still fr.mdl s1 h); omega
          · omega
        obtain ⟨H4, t1, t2, t3⟩ := fr.tidy (v := .tuple #[.agg #[.int .i64 k, .int .i64 n], .int .i64 0]) fr3 u3
        refine ⟨H4, (d_ids_Take _ _ _ H (r := (.tuple #[.agg #[.int .i64 k, .int .i64 n], .int .i64 0], H3)) ?_).trans (congrArg some t1), t2, t3⟩
        simp (disch := first | with_reducible rfl | assumption | omega | rfl | (simp only [go_sem]; first | done | omega)) only [go_sem, ↓reduceIte, reduceCtorEq, Nat.reduceEqDiff, Nat.reduceAdd, Nat.reduceSub, Nat.reduceMul, Nat.reduceDiv, Nat.reduceMod, Nat.reduceLeDiff, Nat.reduceLT, Nat.reduceBEq, Int.reduceEq, Int.reduceBEq, Int.reduceBNe, Int.reduceLT, Int.reduceLE, Int.reduceAdd, Int.reduceSub, Int.reduceNeg, Int.reduceToNat, Int.reducePow, Nat.reducePow, Int.reduceMul, Int.reduceDiv, ↓s_ids_Take, hH1, mp_eq, h2, h3, ↓enterK_eq hnx, enterK_eq hnx, h5, ↓enterK_eq mi, enterK_eq mi, ↓enterK_eq m2, enterK_eq m2, f2, hH3, f3]
    · rw [if_pos h4]
      refine ⟨H, ?_, fr, UpT.refl H bm⟩
      apply pure_of _ (d_ids_Take _ _ _ H) rfl
      rotate_left 2
      · simp (disch := first | with_reducible rfl | assumption | omega | rfl | (simp only [go_sem]; first | done | omega)) only [go_sem, ↓reduceIte, reduceCtorEq, Nat.reduceEqDiff, Nat.reduceAdd, Nat.reduceSub, Nat.reduceMul, Nat.reduceDiv, Nat.reduceMod, Nat.reduceLeDiff, Nat.reduceLT, Nat.reduceBEq, Int.reduceEq, Int.reduceBEq, Int.reduceBNe, Int.reduceLT, Int.reduceLE, Int.reduceAdd, Int.reduceSub, Int.reduceNeg, Int.reduceToNat, Int.reducePow, Nat.reducePow, Int.reduceMul, Int.reduceDiv, ↓s_ids_Take, hH1, mp_eq, h2, h3, ↓enterK_eq hnx, enterK_eq hnx, h4, f1]
        rfl
      · exact Fr.set s1 _ _ fun h => by omega

/-! ### the law's take -/
set_option maxHeartbeats 1000000 in
theorem q_ltake {H0 : AHeap} (bm : Nat) (M : List Pr) (s : ByteArray) (n : Int) (H : AHeap) (fr : Fresh H0 H bm M) (hM : M.length < 20000) :
    ∃ H', CC F.law_take [.pointer (some ⟨bm, 0, none⟩), .string s, .int .i64 n] H = some (tkV M s n, H') ∧ Fresh H0 H' bm (tk M s n).2.2 ∧ Up H bm H' := by
  obtain ⟨H1, hH1⟩ : ∃ H1, H.push (.cells [.int .i64 0, .int .i64 0] T.api_Block true) = H1 := ⟨_, rfl⟩
  obtain ⟨s1, n1, f1⟩ := newBlk 0 0 hH1
  have fr1 := fr.to s1
  have hnx := q_lnext bm M s H1 fr1.mdl fr1.srt fr1.len fr1.vok
  obtain ⟨hx0, hx1⟩ := nxt_bound M s
  have hok := nxt_ok (M := M) (s := s)
  unfold nxtV at hnx
  unfold tkV tk
  generalize nxt M s = x at hnx hx0 hx1 hok ⊢
  obtain ⟨k, e⟩ := x
  simp only at hnx hx0 hx1 hok ⊢
  by_cases h1 : n < 1 ∨ 1000 < n
  · rw [if_pos h1]
    refine ⟨H, ?_, fr, UpT.refl H bm⟩
    by_cases h2 : n < 1
    · apply pure_of _ (d_law_take _ _ _ H) rfl
      rotate_left 2
      · simp (disch := first | with_reducible rfl | assumption | omega | rfl | (simp only [go_sem]; first | done | omega)) only [go_sem, ↓reduceIte, reduceCtorEq, Nat.reduceEqDiff, Nat.reduceAdd, Nat.reduceSub, Nat.reduceMul, Nat.reduceDiv, Nat.reduceMod, Nat.reduceLeDiff, Nat.reduceLT, Nat.reduceBEq, Int.reduceEq, Int.reduceBEq, Int.reduceBNe, Int.reduceLT, Int.reduceLE, Int.reduceAdd, Int.reduceSub, Int.reduceNeg, Int.reduceToNat, Int.reducePow, Nat.reducePow, Int.reduceMul, Int.reduceDiv, ↓s_law_take, hH1, h2, f1]
        rfl
      · exact Fr.set s1 _ _ fun h => by omega
    · have h3 : 1000 < n := by omega
      apply pure_of _ (d_law_take _ _ _ H) rfl
      rotate_left 2
      · simp (disch := first | with_reducible rfl | assumption | omega | rfl | (simp only [go_sem]; first | done | omega)) only [go_sem, ↓reduceIte, reduceCtorEq, Nat.reduceEqDiff, Nat.reduceAdd, Nat.reduceSub, Nat.reduceMul, Nat.reduceDiv, Nat.reduceMod, Nat.reduceLeDiff, Nat.reduceLT, Nat.reduceBEq, Int.reduceEq, Int.reduceBEq, Int.reduceBNe, Int.reduceLT, Int.reduceLE, Int.reduceAdd, Int.reduceSub, Int.reduceNeg, Int.reduceToNat, Int.reducePow, Nat.reducePow, Int.reduceMul, Int.reduceDiv, ↓s_law_take, hH1, h2, h3, f1]
        rfl
      · exact Fr.set s1 _ _ fun h => by omega
  · rw [if_neg h1]
    have h2 : ¬ n < 1 := fun h => h1 (.inl h)
    have h3 : ¬ 1000 < n := fun h => h1 (.inr h)
    by_cases h4 : e = 0
    · rw [if_neg (by simpa using h4)]
      subst h4
      by_cases h5 : 1099511627776 < k + n
      · rw [if_pos h5]
        refine ⟨H, ?_, fr, UpT.refl H bm⟩
        apply pure_of _ (d_law_take _ _ _ H) rfl
        rotate_left 2
        · simp (disch := first | with_reducible rfl | assumption | omega | rfl | (simp only [go_sem]; first | done | omega)) only [go_sem, ↓reduceIte, reduceCtorEq, Nat.reduceEqDiff, Nat.reduceAdd, Nat.reduceSub, Nat.reduceMul, Nat.reduceDiv, Nat.reduceMod, Nat.reduceLeDiff, Nat.reduceLT, Nat.reduceBEq, Int.reduceEq, Int.reduceBEq, Int.reduceBNe, Int.reduceLT, Int.reduceLE, Int.reduceAdd, Int.reduceSub, Int.reduceNeg, Int.reduceToNat, Int.reducePow, Nat.reducePow, Int.reduceMul, Int.reduceDiv, ↓s_law_take, hH1, h2, h3, ↓enterK_eq hnx, enterK_eq hnx, h5, f1]
          rfl
        · exact Fr.set s1 _ _ fun h => by omega
      · rw [if_neg h5]
        have hc := hok rfl
        obtain ⟨d, hd⟩ : ∃ d : Nat, k + n = (d : Int) := ⟨(k + n).toNat, by omega⟩
        have mi := q_dec d H1 (by omega)
        rw [← hd] at mi
        rw [show (k + n).toNat = d by omega]
        obtain ⟨H2, m2, fr2, u2⟩ := fr1.putU ⟨s, mk (decF 20 d)⟩
        generalize (putE M ⟨s, mk (decF 20 d)⟩).1 = pe at m2
        have f2 : H2.f H.n = .cells [.int .i64 0, .int .i64 0] T.api_Block true := by
          rw [u2.fr.f (by omega) fun h => by have := fr.mdl.blk (MBT_still fr.mdl s1 h); omega]
          exact f1
        have u2' := UpT.pre fr.mdl s1 u2
        obtain ⟨H3, hH3⟩ : ∃ H3, H2.set H.n (.cells [.int .i64 k, .int .i64 n] T.api_Block true) = H3 := ⟨_, rfl⟩
        have f3 : H3.f H.n = .cells [.int .i64 k, .int .i64 n] T.api_Block true := by rw [← hH3]; exact set_f_eq
        have fs : Fr (fun b => b = H.n) H2 H3 := by rw [← hH3]; exact Fr.set (Fr.refl H2) _ _ fun _ => rfl
        obtain ⟨fr3, u3⟩ := Up.post u2' fr2 fs (fun b hb => by omega) fr.still.n fun c hc h => by
          subst h
          rcases u2.mb _ hc with h | h
          · have := fr.mdl.blk (MBT_still fr.mdl s1 h); omega
          · omega
        obtain ⟨H4, t1, t2, t3⟩ := fr.tidy (v := .tuple #[.agg #[.int .i64 k, .int .i64 n], .int .i64 0]) fr3 u3
        refine ⟨H4, (d_law_take _ _ _ H (r := (.tuple #[.agg #[.int .i64 k, .int .i64 n], .int .i64 0], H3)) ?_).trans (congrArg some t1), t2, t3⟩
        simp (disch := first | with_reducible rfl | assumption | omega | rfl | (simp only [go_sem]; first | done | omega)) only [go_sem, ↓reduceIte, reduceCtorEq, Nat.reduceEqDiff, Nat.reduceAdd, Nat.reduceSub, Nat.reduceMul, Nat.reduceDiv, Nat.reduceMod, Nat.reduceLeDiff, Nat.reduceLT, Nat.reduceBEq, Int.reduceEq, Int.reduceBEq, Int.reduceBNe, Int.reduceLT, Int.reduceLE, Int.reduceAdd, Int.reduceSub, Int.reduceNeg, Int.reduceToNat, Int.reducePow, Nat.reducePow, Int.reduceMul, Int.reduceDiv, ↓s_law_take, hH1, h2, h3, ↓enterK_eq hnx, enterK_eq hnx, h5, ↓enterK_eq mi, enterK_eq mi, ↓enterK_eq m2, enterK_eq m2, f2, hH3, f3]
    · rw [if_pos h4]
      refine ⟨H, ?_, fr, UpT.refl H bm⟩
      apply pure_of _ (d_law_take _ _ _ H) rfl
      rotate_left 2
      · simp (disch := first | with_reducible rfl | assumption | omega | rfl | (simp only [go_sem]; first | done | omega)) only [go_sem, ↓reduceIte, reduceCtorEq, Nat.reduceEqDiff, Nat.reduceAdd, Nat.reduceSub, Nat.reduceMul, Nat.reduceDiv, Nat.reduceMod, Nat.reduceLeDiff, Nat.reduceLT, Nat.reduceBEq, Int.reduceEq, Int.reduceBEq, Int.reduceBNe, Int.reduceLT, Int.reduceLE, Int.reduceAdd, Int.reduceSub, Int.reduceNeg, Int.reduceToNat, Int.reducePow, Nat.reducePow, Int.reduceMul, Int.reduceDiv, ↓s_law_take, hH1, h2, h3, ↓enterK_eq hnx, enterK_eq hnx, h4, f1]
        rfl
      · exact Fr.set s1 _ _ fun h => by omega

end Go.Proofs.YtlfpjndbpclnnaaGreatDoor

/-
  Chapter 47: two maps; what the law asks of Take.
  Conditions: none. By an AI agent.
-/
set_option maxRecDepth 10000
set_option linter.unusedSimpArgs false
set_option linter.unusedVariables false
namespace Go.Proofs.YtlfpjndbpclnnaaGreatDoor
open Go Eng

/-! ### two maps -/
structure W2 (H0 H : AHeap) (b1 b2 : Nat) (M1 M2 : List Pr) : Prop where
  r1 : Fresh H0 H b1 M1
  r2 : Fresh H0 H b2 M2
  dis : ∀ c, MB H b1 c → ¬ MB H b2 c
section
variable {H0 H H' : AHeap} {b1 b2 : Nat} {M1 M2 M' : List Pr}
theorem W2.swap (w : W2 H0 H b1 b2 M1 M2) : W2 H0 H b2 b1 M2 M1 := ⟨w.r2, w.r1, fun c h1 h2 => w.dis c h2 h1⟩
theorem W2.step (w : W2 H0 H b1 b2 M1 M2) (fr' : Fresh H0 H' b1 M') (u : Up H b1 H') : W2 H0 H' b1 b2 M' M2 := by
  obtain ⟨m2, hm, hd⟩ := sep w.r2.mdl w.dis u
  exact ⟨fr', ⟨w.r2.still.then u.fr fun b hb h => by have := w.r1.new b h; omega, w.r2.ok.fr u.fr, m2, fun c hc => w.r2.new c (hm c hc), w.r2.srt, w.r2.len, w.r2.vok⟩, hd⟩
theorem W2.by {S : Nat → Prop} (w : W2 H0 H b1 b2 M1 M2) (f : Fr S H H') (hS : ∀ b, S b → H.n ≤ b) : W2 H0 H' b1 b2 M1 M2 := by
  have h1 : ∀ c, MB H b1 c → ¬ S c := fun c hc h => by have := w.r1.mdl.blk hc; have := hS c h; omega
  have h2 : ∀ c, MB H b2 c → ¬ S c := fun c hc h => by have := w.r2.mdl.blk hc; have := hS c h; omega
  have h0 : ∀ b, b < H0.n → ¬ S b := fun b hb h => by have := w.r1.still.n; have := hS b h; omega
  exact ⟨w.r1.by f h1 h0, w.r2.by f h2 h0, fun c hc hc2 => w.dis c ((mb_same w.r1.mdl f h1).2 c hc) ((mb_same w.r2.mdl f h2).2 c hc2)⟩
end

theorem q_takes0 (s : ByteArray) (n : Int) (H : AHeap) : CC F.law_takes [.pointer none, .string s, .int .i64 n, .agg #[.int .i64 0, .int .i64 0], .int .i64 1] H = some (.bool true, H) := by
  obtain ⟨H1, hH1⟩ : ∃ H1, H.push (.cells [.int .i64 0, .int .i64 0] T.api_Block true) = H1 := ⟨_, rfl⟩
  obtain ⟨s1, n1, f1⟩ := newBlk 0 0 hH1
  have m1 := q_Take0 s n H1
  obtain ⟨H2, hH2⟩ : ∃ H2, H1.push (.cells [.int .i64 0, .int .i64 0] T.api_Block true) = H2 := ⟨_, rfl⟩
  obtain ⟨s2, n2, f2⟩ := newBlk 0 0 hH2
  obtain ⟨H3, hH3⟩ : ∃ H3, H2.set H1.n (.cells [.int .i64 0, .int .i64 0] T.api_Block true) = H3 := ⟨_, rfl⟩
  have f3 : H3.f H1.n = .cells [.int .i64 0, .int .i64 0] T.api_Block true := by rw [← hH3]; exact set_f_eq
  have f3' : H3.f H.n = .cells [.int .i64 0, .int .i64 0] T.api_Block true := by
    rw [← hH3, H2.set_other _ (by omega), s2.f (by omega) fun h => h]; exact f1
  apply pure_of _ (d_law_takes _ _ _ _ _ H) rfl
  rotate_left 2
  · simp (disch := first | with_reducible rfl | assumption | omega | rfl | (simp only [go_sem]; first | done | omega)) only [go_sem, ↓reduceIte, reduceCtorEq, Nat.reduceEqDiff, Nat.reduceAdd, Nat.reduceSub, Nat.reduceMul, Nat.reduceDiv, Nat.reduceMod, Nat.reduceLeDiff, Nat.reduceLT, Nat.reduceBEq, Int.reduceEq, Int.reduceBEq, Int.reduceBNe, Int.reduceLT, Int.reduceLE, Int.reduceAdd, Int.reduceSub, Int.reduceNeg, Int.reduceToNat, Int.reducePow, Nat.reducePow, Int.reduceMul, Int.reduceDiv, ↓s_law_takes, hH1, ↓enterK_eq m1, enterK_eq m1, hH2, f2, hH3, f3, f3', blk_eq]
    rfl
  · rw [← hH3]; exact Fr.set (s1.trans s2) _ _ fun h => by omega

set_option maxHeartbeats 1000000 in
theorem q_takes {H0 : AHeap} (bm : Nat) (M : List Pr) (s : ByteArray) (n : Int) (H : AHeap) (fr : Fresh H0 H bm M) (hM : M.length < 20000) :
    ∃ H', CC F.law_takes [.pointer (some ⟨bm, 0, none⟩), .string s, .int .i64 n, .agg #[.int .i64 (tk M s n).1.1, .int .i64 (tk M s n).1.2], .int .i64 (tk M s n).2.1] H = some (.bool true, H') ∧ Fresh H0 H' bm (tk M s n).2.2 ∧ Up H bm H' := by
  obtain ⟨H1, hH1⟩ : ∃ H1, H.push (.cells [.int .i64 (tk M s n).1.1, .int .i64 (tk M s n).1.2] T.api_Block true) = H1 := ⟨_, rfl⟩
  obtain ⟨s1, n1, f1⟩ := newBlk _ _ hH1
  obtain ⟨H2, m2, fr2, u2⟩ := q_Take bm M s n H1 (fr.to s1) hM
  unfold tkV at m2
  generalize tk M s n = x at m2 fr2 f1 hH1 ⊢
  obtain ⟨⟨a, b⟩, e, M'⟩ := x
  simp only at m2 fr2 f1 hH1 ⊢
  have f2 : H2.f H.n = .cells [.int .i64 a, .int .i64 b] T.api_Block true := by
    rw [u2.fr.f (by omega) fun h => by have := fr.mdl.blk (MBT_still fr.mdl s1 h); omega]
    exact f1
  have l2 : H.n < H2.n := by have := u2.fr.n; omega
  obtain ⟨H3, hH3⟩ : ∃ H3, H2.push (.cells [.int .i64 0, .int .i64 0] T.api_Block true) = H3 := ⟨_, rfl⟩
  obtain ⟨s3, n3, f3⟩ := newBlk 0 0 hH3
  obtain ⟨H4, hH4⟩ : ∃ H4, H3.set H2.n (.cells [.int .i64 a, .int .i64 b] T.api_Block true) = H4 := ⟨_, rfl⟩
  have f4 : H4.f H2.n = .cells [.int .i64 a, .int .i64 b] T.api_Block true := by rw [← hH4]; exact set_f_eq
  have f4' : H4.f H.n = .cells [.int .i64 a, .int .i64 b] T.api_Block true := by
    rw [← hH4, H3.set_other _ (by omega), s3.f l2 fun h => h]; exact f2
  have fs : Fr (fun b => b = H2.n) H2 H4 := by rw [← hH4]; exact Fr.set s3.still _ _ fun _ => rfl
  have u2' := UpT.pre fr.mdl s1 u2
  obtain ⟨fr4, u4⟩ := Up.post u2' fr2 fs (fun b hb => by omega) fr.still.n fun c hc h => by have := fr2.mdl.blk hc; omega
  obtain ⟨H5, t1, t2, t3⟩ := fr.tidy (v := .bool true) fr4 u4
  refine ⟨H5, (d_law_takes _ _ _ _ _ H (r := (.bool true, H4)) ?_).trans (congrArg some t1), t2, t3⟩
  simp (disch := first | with_reducible rfl | assumption | omega | rfl | (simp only [go_sem]; first | done | omega)) only [go_sem, ↓reduceIte, reduceCtorEq, Nat.reduceEqDiff, Nat.reduceAdd, Nat.reduceSub, Nat.reduceMul, Nat.reduceDiv, Nat.reduceMod, Nat.reduceLeDiff, Nat.reduceLT, Nat.reduceBEq, Int.reduceEq, Int.reduceBEq, Int.reduceBNe, Int.reduceLT, Int.reduceLE, Int.reduceAdd, Int.reduceSub, Int.reduceNeg, Int.reduceToNat, Int.reducePow, Nat.reducePow, Int.reduceMul, Int.reduceDiv, ↓s_law_takes, hH1, ↓enterK_eq m2, enterK_eq m2, hH3, f3, hH4, f4, f4', blk_eq]

theorem fold_len : ∀ (x m : List Pr), (x.foldl (fun m a => (putE m a).2) m).length ≤ m.length + x.length
  | [], m => by simp
  | a :: x, m => by
    have h1 := fold_len x (putE m a).2
    have h2 : (putE m a).2.length ≤ m.length + 1 := by
      unfold putE
      split
      · unfold putP
        split
        · simp
        · split
          · simp
          · have hp := posP_le m a.key
            simp; omega
      · simp
    simp only [List.foldl_cons, List.length_cons]
    omega

theorem decPr2 {W : World} {H : Type} {enc : TypeId × Value → H} (_ : 0 < W.heap.size) {cs : List Value} {n : Nat} {y : DataW H × List MemPlace} (h : DataW.trod enc Tryz.prog W 0 (fun _ => true) true n T.api_Pair cs = some y) (hl : cs.length = EPr.w) :
    ∃ a : Pr, cs.map (conv2 W.heap.size) = EPr.enc a ∧ True := by
  have ht := Tryz.underlying75
  obtain ⟨c0, c1, rfl⟩ : ∃ c0 c1, cs = [c0, c1] := by
    match cs, hl with
    | [c0, c1], _ => exact ⟨_, _, rfl⟩
  obtain ⟨m0, z0, h0⟩ := dec_field ht h (i := 0) rfl rfl (by kernel_rfl) rfl
  obtain ⟨m1, z1, h1⟩ := dec_field ht h (i := 1) rfl rfl (by kernel_rfl) rfl
  obtain ⟨s0, rfl, _⟩ := dec_str Tryz.underlying9 h0
  obtain ⟨s1, rfl, _⟩ := dec_str Tryz.underlying9 h1
  exact ⟨⟨s0, s1⟩, rfl, trivial⟩

end Go.Proofs.YtlfpjndbpclnnaaGreatDoor

/-
  Chapter 47: a giver: New, Left, set, Lose, Copy.
  Conditions: none. By an AI agent.
-/
set_option maxRecDepth 10000
set_option linter.unusedSimpArgs false
set_option linter.unusedVariables false
namespace Go.Proofs.YtlfpjndbpclnnaaGreatDoor
open Go Eng

/-! ### maps of blocks -/
abbrev Be := List (ByteArray × (Int × Int))
def blkV (a : Int × Int) : Value := .agg #[.int .i64 a.1, .int .i64 a.2]
def entsB (E : Be) : List (Value × Value) := E.map fun p => (.string p.1, blkV p.2)
def RB' (v : Value) (a : Int × Int) : Prop := v = blkV a
theorem ent_ofB : ∀ E : Be, Ent RB' kStr.kv (entsB E) E
  | [] => trivial
  | _ :: E => ⟨rfl, rfl, ent_ofB E⟩
theorem of_entB : ∀ {ents : List (Value × Value)} {E : Be}, Ent RB' kStr.kv ents E → ents = entsB E
  | [], [], _ => rfl
  | (k, v) :: ents, p :: E, h => by
    obtain ⟨h1, h2, h3⟩ := h
    simp only at h1 h2
    subst h1
    have h2 : v = blkV p.2 := h2
    subst h2
    rw [of_entB h3]
    rfl
  | [], _ :: _, h => h.elim
  | _ :: _, [], h => h.elim
theorem mtBlk : MapT Tryz.prog kStr T.map_string_api_Block (.agg #[.int .i64 0, .int .i64 0]) := ⟨_, _, Tryz.underlying63, by kernel_rfl, by kernel_rfl⟩
def atB (E : Be) (s : ByteArray) : Int × Int := (lkp E s).getD (0, 0)
theorem lookB {H : AHeap} {mb : Nat} {E : Be} (h : H.f mb = .map (entsB E)) (s : ByteArray) : xlookup Tryz.prog T.map_string_api_Block (.map (some mb)) (.string s) false H = some (.agg #[.int .i64 (atB E s).1, .int .i64 (atB E s).2]) := by
  unfold atB
  cases hk : lkp E s with
  | none => exact look_none mtBlk h (ent_ofB E) hk false
  | some a =>
    obtain ⟨v, hl, hv⟩ := look_some mtBlk h (ent_ofB E) hk false
    have hv : v = blkV a := hv
    subst hv
    exact hl
theorem updB {H : AHeap} {mb : Nat} {E : Be} (h : H.f mb = .map (entsB E)) (s : ByteArray) (a : Int × Int) : xmapUpdate Tryz.prog T.map_string_api_Block (.map (some mb)) (.string s) (.agg #[.int .i64 a.1, .int .i64 a.2]) H = some (H.set mb (.map (entsB (Eng.putE E s a)))) := by
  have := upd_map mtBlk h (ent_ofB E) s (blkV a)
  rw [of_entB ((ent_ofB E).put (R := RB') (k := s) (a := a) rfl)] at this
  exact this
theorem delB {H : AHeap} {mb : Nat} {E : Be} (h : H.f mb = .map (entsB E)) (s : ByteArray) (ts : List TypeId) : xdelete Tryz.prog (T.map_string_api_Block :: ts) (.map (some mb)) (.string s) H = some (.tuple #[], H.set mb (.map (entsB (Eng.delE E s)))) := by
  have := del_map mtBlk h (ent_ofB E) s ts
  rw [of_entB ((ent_ofB E).del (R := RB') (k := s))] at this
  exact this
def setB (E : Be) (s : ByteArray) (a : Int × Int) : Be := if a.2 = 0 then Eng.delE E s else Eng.putE E s a

/-! ### a giver -/
structure Gv (H : AHeap) (gb mb : Nat) (size : Int) (E : Be) : Prop where
  f : H.f gb = .cells [.int .i64 size, .map (some mb)] T.ids_Giver true
  m : H.f mb = .map (entsB E)
  gn : gb < H.n
  mn : mb < H.n
  ne : gb ≠ mb
  sz : 1 ≤ size ∧ size ≤ 1000
section
variable {H H' : AHeap} {gb mb : Nat} {size : Int} {E : Be}
theorem Gv.keep {S : Nat → Prop} (g : Gv H gb mb size E) (f : Fr S H H') (h1 : ¬ S gb) (h2 : ¬ S mb) : Gv H' gb mb size E :=
  ⟨by rw [f.f g.gn h1]; exact g.f, by rw [f.f g.mn h2]; exact g.m, Nat.lt_of_lt_of_le g.gn f.n, Nat.lt_of_lt_of_le g.mn f.n, g.ne, g.sz⟩
theorem Gv.still (g : Gv H gb mb size E) (f : Still H H') : Gv H' gb mb size E := g.keep f (fun h => h) fun h => h
theorem q_none_no (g : Gv H gb mb size E) : CC F.ids_Giver_none [.pointer (some ⟨gb, 0, none⟩)] H = some (.bool false, H) := by
  have h0 : ¬ size = 0 := by have := g.sz; omega
  have f := g.f
  apply pure_of _ (d_ids_Giver_none _ H) rfl
  rotate_left 2
  · simp (disch := first | with_reducible rfl | assumption | omega | rfl | (simp only [go_sem]; first | done | omega)) only [go_sem, ↓reduceIte, reduceCtorEq, Nat.reduceEqDiff, Nat.reduceAdd, Nat.reduceSub, Nat.reduceMul, Nat.reduceDiv, Nat.reduceMod, Nat.reduceLeDiff, Nat.reduceLT, Nat.reduceBEq, Int.reduceEq, Int.reduceBEq, Int.reduceBNe, Int.reduceLT, Int.reduceLE, Int.reduceAdd, Int.reduceSub, Int.reduceNeg, Int.reduceToNat, Int.reducePow, Nat.reducePow, Int.reduceMul, Int.reduceDiv, ↓s_ids_Giver_none, f, h0]
    rfl
  · (repeat (first | exact Fr.refl _ | refine Fr.push ?_ _ | refine Fr.set ?_ _ _ (by intro h; first | omega | (simp only [go_sem] at h; omega))))
theorem q_Left (g : Gv H gb mb size E) (s : ByteArray) : CC F.ids_Giver_Left [.pointer (some ⟨gb, 0, none⟩), .string s] H = some (.agg #[.int .i64 (atB E s).1, .int .i64 (atB E s).2], H) := by
  obtain ⟨H1, hH1⟩ : ∃ H1, H.push (.cells [.int .i64 0, .int .i64 0] T.api_Block true) = H1 := ⟨_, rfl⟩
  obtain ⟨s1, n1, f1⟩ := newBlk 0 0 hH1
  have g1 := g.still s1
  have m1 := q_none_no g1
  have f := g1.f
  have lk := lookB g1.m s
  apply pure_of _ (d_ids_Giver_Left _ _ H) rfl
  rotate_left 2
  · simp (disch := first | with_reducible rfl | assumption | omega | rfl | (simp only [go_sem]; first | done | omega)) only [go_sem, ↓reduceIte, reduceCtorEq, Nat.reduceEqDiff, Nat.reduceAdd, Nat.reduceSub, Nat.reduceMul, Nat.reduceDiv, Nat.reduceMod, Nat.reduceLeDiff, Nat.reduceLT, Nat.reduceBEq, Int.reduceEq, Int.reduceBEq, Int.reduceBNe, Int.reduceLT, Int.reduceLE, Int.reduceAdd, Int.reduceSub, Int.reduceNeg, Int.reduceToNat, Int.reducePow, Nat.reducePow, Int.reduceMul, Int.reduceDiv, ↓s_ids_Giver_Left, hH1, ↓enterK_eq m1, enterK_eq m1, f, lk, f1]
    rfl
  · exact Fr.set s1 _ _ fun h => by omega
theorem q_gset (ok : Ok H) (g : Gv H gb mb size E) (s : ByteArray) (a : Int × Int) : ∃ H', CC F.ids_Giver_set [.pointer (some ⟨gb, 0, none⟩), .string s, .agg #[.int .i64 a.1, .int .i64 a.2]] H = some (.tuple #[], H') ∧ Gv H' gb mb size (setB E s a) ∧ Fr (fun b => b = mb) H H' ∧ H.clk ≤ H'.ver mb := by
  obtain ⟨x, y⟩ := a
  simp only
  obtain ⟨H1, hH1⟩ : ∃ H1, H.push (.cells [.int .i64 x, .int .i64 y] T.api_Block true) = H1 := ⟨_, rfl⟩
  obtain ⟨s1, n1, f1⟩ := newBlk x y hH1
  have g1 := g.still s1
  have f := g1.f
  have key : ∀ E', Gv (H1.set mb (.map (entsB E'))) gb mb size E' ∧ Fr (fun b => b = mb) H (H1.set mb (.map (entsB E'))) ∧ H.clk ≤ (H1.set mb (.map (entsB E'))).ver mb := fun E' =>
    ⟨⟨by rw [H1.set_other _ g.ne]; exact f, set_f_eq, g1.gn, g1.mn, g.ne, g.sz⟩, Fr.set s1.still _ _ fun _ => rfl, by rw [set_v_eq]; exact s1.clk⟩
  unfold setB
  simp only
  by_cases h : y = 0
  · subst h
    rw [if_pos rfl]
    obtain ⟨k1, k2, k3⟩ := key (Eng.delE E s)
    refine ⟨_, (d_ids_Giver_set _ _ _ H (r := (.tuple #[], H1.set mb (.map (entsB (Eng.delE E s))))) ?_).trans (congrArg some (tidy_turned g.mn (ok mb) k3)), k1, k2, k3⟩
    have dl : xbuiltin Tryz.prog .delete [T.map_string_api_Block, T.string] [.map (some mb), .string s] H1 = some (.val (.tuple #[]) (H1.set mb (.map (entsB (Eng.delE E s))))) := by
      have := delB g1.m s [T.string]
      show both (xdelete Tryz.prog _ _ _ H1) = _
      rw [this]
      rfl
    simp (disch := first | with_reducible rfl | assumption | omega | rfl | (simp only [go_sem]; first | done | omega)) only [go_sem, ↓reduceIte, reduceCtorEq, Nat.reduceEqDiff, Nat.reduceAdd, Nat.reduceSub, Nat.reduceMul, Nat.reduceDiv, Nat.reduceMod, Nat.reduceLeDiff, Nat.reduceLT, Nat.reduceBEq, Int.reduceEq, Int.reduceBEq, Int.reduceBNe, Int.reduceLT, Int.reduceLE, Int.reduceAdd, Int.reduceSub, Int.reduceNeg, Int.reduceToNat, Int.reducePow, Nat.reducePow, Int.reduceMul, Int.reduceDiv, ↓s_ids_Giver_set, hH1, f1, f, dl]
  · rw [if_neg h]
    obtain ⟨k1, k2, k3⟩ := key (Eng.putE E s (x, y))
    refine ⟨_, (d_ids_Giver_set _ _ _ H (r := (.tuple #[], H1.set mb (.map (entsB (Eng.putE E s (x, y)))))) ?_).trans (congrArg some (tidy_turned g.mn (ok mb) k3)), k1, k2, k3⟩
    have up := updB g1.m s (x, y)
    simp (disch := first | with_reducible rfl | assumption | omega | rfl | (simp only [go_sem]; first | done | omega)) only [go_sem, ↓reduceIte, reduceCtorEq, Nat.reduceEqDiff, Nat.reduceAdd, Nat.reduceSub, Nat.reduceMul, Nat.reduceDiv, Nat.reduceMod, Nat.reduceLeDiff, Nat.reduceLT, Nat.reduceBEq, Int.reduceEq, Int.reduceBEq, Int.reduceBNe, Int.reduceLT, Int.reduceLE, Int.reduceAdd, Int.reduceSub, Int.reduceNeg, Int.reduceToNat, Int.reducePow, Nat.reducePow, Int.reduceMul, Int.reduceDiv, ↓s_ids_Giver_set, hH1, f1, h, f, up]
theorem q_Lose (ok : Ok H) (g : Gv H gb mb size E) : ∃ H', CC F.ids_Giver_Lose [.pointer (some ⟨gb, 0, none⟩)] H = some (.tuple #[], H') ∧ Gv H' gb mb size [] ∧ Fr (fun b => b = mb) H H' ∧ H.clk ≤ H'.ver mb := by
  have m1 := q_none_no g
  have f := g.f
  have cl : xclear Tryz.prog [T.map_string_api_Block] (.map (some mb)) H = some (.tuple #[], H.set mb (.map [])) := by
    unfold xclear
    have hu : Tryz.prog.underlying T.map_string_api_Block = _ := Tryz.underlying63
    simp only [hu, g.m]
  have k3 : H.clk ≤ (H.set mb (.map [])).ver mb := by rw [set_v_eq]; exact Nat.le_refl _
  refine ⟨H.set mb (.map []), (d_ids_Giver_Lose _ H (r := (.tuple #[], H.set mb (.map []))) ?_).trans (congrArg some (tidy_turned g.mn (ok mb) k3)), ⟨by rw [H.set_other _ g.ne]; exact f, set_f_eq, g.gn, g.mn, g.ne, g.sz⟩, Fr.set (Fr.refl H) _ _ fun _ => rfl, k3⟩
  simp (disch := first | with_reducible rfl | assumption | omega | rfl | (simp only [go_sem]; first | done | omega)) only [go_sem, ↓reduceIte, reduceCtorEq, Nat.reduceEqDiff, Nat.reduceAdd, Nat.reduceSub, Nat.reduceMul, Nat.reduceDiv, Nat.reduceMod, Nat.reduceLeDiff, Nat.reduceLT, Nat.reduceBEq, Int.reduceEq, Int.reduceBEq, Int.reduceBNe, Int.reduceLT, Int.reduceLE, Int.reduceAdd, Int.reduceSub, Int.reduceNeg, Int.reduceToNat, Int.reducePow, Nat.reducePow, Int.reduceMul, Int.reduceDiv, ↓s_ids_Giver_Lose, ↓enterK_eq m1, enterK_eq m1, f, cl]
theorem q_New_bad (n : Int) (H : AHeap) (h : n < 1 ∨ 1000 < n) : CC F.ids_New [.int .i64 n] H = some (.tuple #[.pointer none, .int .i64 2], H) := by
  by_cases h1 : n < 1
  · apply pure_of _ (d_ids_New _ H) rfl
    rotate_left 2
    · simp (disch := first | with_reducible rfl | assumption | omega | rfl | (simp only [go_sem]; first | done | omega)) only [go_sem, ↓reduceIte, reduceCtorEq, Nat.reduceEqDiff, Nat.reduceAdd, Nat.reduceSub, Nat.reduceMul, Nat.reduceDiv, Nat.reduceMod, Nat.reduceLeDiff, Nat.reduceLT, Nat.reduceBEq, Int.reduceEq, Int.reduceBEq, Int.reduceBNe, Int.reduceLT, Int.reduceLE, Int.reduceAdd, Int.reduceSub, Int.reduceNeg, Int.reduceToNat, Int.reducePow, Nat.reducePow, Int.reduceMul, Int.reduceDiv, ↓s_ids_New, h1]
      rfl
    · (repeat (first | exact Fr.refl _ | refine Fr.push ?_ _ | refine Fr.set ?_ _ _ (by intro h; first | omega | (simp only [go_sem] at h; omega))))
  · have h2 : 1000 < n := by omega
    apply pure_of _ (d_ids_New _ H) rfl
    rotate_left 2
    · simp (disch := first | with_reducible rfl | assumption | omega | rfl | (simp only [go_sem]; first | done | omega)) only [go_sem, ↓reduceIte, reduceCtorEq, Nat.reduceEqDiff, Nat.reduceAdd, Nat.reduceSub, Nat.reduceMul, Nat.reduceDiv, Nat.reduceMod, Nat.reduceLeDiff, Nat.reduceLT, Nat.reduceBEq, Int.reduceEq, Int.reduceBEq, Int.reduceBNe, Int.reduceLT, Int.reduceLE, Int.reduceAdd, Int.reduceSub, Int.reduceNeg, Int.reduceToNat, Int.reducePow, Nat.reducePow, Int.reduceMul, Int.reduceDiv, ↓s_ids_New, h1, h2]
      rfl
    · (repeat (first | exact Fr.refl _ | refine Fr.push ?_ _ | refine Fr.set ?_ _ _ (by intro h; first | omega | (simp only [go_sem] at h; omega))))
theorem q_New (n : Int) (H : AHeap) (h1 : ¬ n < 1) (h2 : ¬ 1000 < n) : ∃ H', CC F.ids_New [.int .i64 n] H = some (.tuple #[.pointer (some ⟨H.n + 1, 0, none⟩), .int .i64 0], H') ∧ Gv H' (H.n + 1) H.n n [] ∧ Still H H' := by
  have mk := make_map (H := H) mtBlk
  obtain ⟨H1, hH1⟩ : ∃ H1, H.push (.map []) = H1 := ⟨_, rfl⟩
  rw [hH1] at mk
  have n1 : H1.n = H.n + 1 := by rw [← hH1]; rfl
  have f1 : H1.f H.n = .map [] := by rw [← hH1]; exact push_f_eq rfl
  obtain ⟨H2, hH2⟩ : ∃ H2, H1.push (.cells [.int .i64 n, .map (some H.n)] T.ids_Giver true) = H2 := ⟨_, rfl⟩
  have s1 : Still H H1 := by rw [← hH1]; exact (Fr.refl H).push _
  have s2 : Still H1 H2 := by rw [← hH2]; exact (Fr.refl H1).push _
  have n2 : H2.n = H1.n + 1 := by rw [← hH2]; rfl
  have f2 : H2.f (H.n + 1) = .cells [.int .i64 n, .map (some H.n)] T.ids_Giver true := by rw [← n1, ← hH2]; exact push_f_eq rfl
  refine ⟨H2, (d_ids_New _ H (r := (.tuple #[.pointer (some ⟨H.n + 1, 0, none⟩), .int .i64 0], H2)) ?_).trans (congrArg some (tidy_mem rfl)), ⟨f2, by rw [s2.f (by omega) fun h => h]; exact f1, by omega, by omega, by omega, by omega⟩, s1.trans s2⟩
  simp (disch := first | with_reducible rfl | assumption | omega | rfl | (simp only [go_sem]; first | done | omega)) only [go_sem, ↓reduceIte, reduceCtorEq, Nat.reduceEqDiff, Nat.reduceAdd, Nat.reduceSub, Nat.reduceMul, Nat.reduceDiv, Nat.reduceMod, Nat.reduceLeDiff, Nat.reduceLT, Nat.reduceBEq, Int.reduceEq, Int.reduceBEq, Int.reduceBNe, Int.reduceLT, Int.reduceLE, Int.reduceAdd, Int.reduceSub, Int.reduceNeg, Int.reduceToNat, Int.reducePow, Nat.reducePow, Int.reduceMul, Int.reduceDiv, ↓s_ids_New, h1, h2, mk, hH2, n1]
theorem d_Clone {mb : Nat} {es : List (Value × Value)} {H : AHeap} (h : H.f mb = .map es) : CC F.maps_Clone_Block [.map (some mb)] H = some (.map (some H.n), H.push (.map es)) :=
  D_prim (show prims1 F.maps_Clone_Block = some cloneP by kernel_rfl) (by unfold cloneP; simp only [h])
theorem q_Copy (g : Gv H gb mb size E) : ∃ H', CC F.ids_Giver_Copy [.pointer (some ⟨gb, 0, none⟩)] H = some (.pointer (some ⟨H.n + 1, 0, none⟩), H') ∧ Gv H' (H.n + 1) H.n size E ∧ Still H H' := by
  have m1 := q_none_no g
  have f := g.f
  have m2 := d_Clone g.m
  obtain ⟨H1, hH1⟩ : ∃ H1, H.push (.map (entsB E)) = H1 := ⟨_, rfl⟩
  rw [hH1] at m2
  have n1 : H1.n = H.n + 1 := by rw [← hH1]; rfl
  have f1 : H1.f H.n = .map (entsB E) := by rw [← hH1]; exact push_f_eq rfl
  obtain ⟨H2, hH2⟩ : ∃ H2, H1.push (.cells [.int .i64 size, .map (some H.n)] T.ids_Giver true) = H2 := ⟨_, rfl⟩
  have s1 : Still H H1 := by rw [← hH1]; exact (Fr.refl H).push _
  have s2 : Still H1 H2 := by rw [← hH2]; exact (Fr.refl H1).push _
  have n2 : H2.n = H1.n + 1 := by rw [← hH2]; rfl
  have f2 : H2.f (H.n + 1) = .cells [.int .i64 size, .map (some H.n)] T.ids_Giver true := by rw [← n1, ← hH2]; exact push_f_eq rfl
  have ck0 : okV (some true) none H H1 H H = true := okV_none (.inl (Nat.le_refl _))
  have ck1 : okV (some true) (some gb) H H1 H H = true := okV_some (.inr (s1.ver g.gn fun h => h)) (.inl (Nat.le_refl _))
  refine ⟨H2, (d_ids_Giver_Copy _ H (r := (.pointer (some ⟨H.n + 1, 0, none⟩), H2)) ?_).trans (congrArg some (tidy_mem rfl)), ⟨f2, by rw [s2.f (by omega) fun h => h]; exact f1, by omega, by omega, by omega, g.sz⟩, s1.trans s2⟩
  simp (disch := first | with_reducible rfl | assumption | omega | rfl | (simp only [go_sem]; first | done | omega)) only [go_sem, ↓reduceIte, reduceCtorEq, Nat.reduceEqDiff, Nat.reduceAdd, Nat.reduceSub, Nat.reduceMul, Nat.reduceDiv, Nat.reduceMod, Nat.reduceLeDiff, Nat.reduceLT, Nat.reduceBEq, Int.reduceEq, Int.reduceBEq, Int.reduceBNe, Int.reduceLT, Int.reduceLE, Int.reduceAdd, Int.reduceSub, Int.reduceNeg, Int.reduceToNat, Int.reducePow, Nat.reducePow, Int.reduceMul, Int.reduceDiv, ↓s_ids_Giver_Copy, ↓enterK_eq m1, enterK_eq m1, f, ↓enterK_eq m2, enterK_eq m2, hH2, n1, ck0, ck1]
end

end Go.Proofs.YtlfpjndbpclnnaaGreatDoor
