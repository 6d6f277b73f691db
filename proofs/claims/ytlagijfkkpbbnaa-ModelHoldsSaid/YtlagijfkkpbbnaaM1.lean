/-
  The plain map: strings compared; slices of pairs: Clone, Insert, Delete.
  Conditions: none. By an AI agent.
-/
import Derived.Test.YtlagijfkkpbbnaaDs
import Derived.Test.YtlagijfkkpbbnaaEng26
set_option maxRecDepth 10000
set_option linter.unusedSimpArgs false
set_option linter.unusedVariables false
namespace Go.Proofs.Ytlagijfkkpbbnaa
open Go Eng

theorem k_known (H : AHeap) : CC F.law_known [] H = some (.bool true, H) := D_prim (show prims1 F.law_known = some trueP by kernel_rfl) rfl
@[go_sem, go_sem ↓] theorem e_known {H : AHeap} {k : Value → AHeap → Res} : enterK CC F.law_known [] H k = k (.bool true) H := enterK_eq (k_known H)
@[go_sem] theorem bool_ne {ox oy : Operand} {a b : Bool} : xbin Try.prog .neq T.bool ox oy (.bool a) (.bool b) = some (.bool (a != b)) := by
  cases a <;> cases b <;> kernel_rfl
@[go_sem] theorem mp_nil {ox oy : Operand} : xbin Try.prog .eql T.p_model_Model ox oy (.pointer none) (.pointer none) = some (.bool true) := by kernel_rfl
@[go_sem] theorem mp_some {ox oy : Operand} {a : Addr} : xbin Try.prog .eql T.p_model_Model ox oy (.pointer (some a)) (.pointer none) = some (.bool false) := by kernel_rfl

/-- A pair. -/
structure Pr where
  key : ByteArray
  value : ByteArray

def EPr : Enc Pr := ⟨2, fun a => [.string a.key, .string a.value], fun _ => rfl, by decide, fun _ => rfl⟩
def EStr : Enc ByteArray := ⟨1, fun a => [.string a], fun _ => rfl, by decide, fun _ => rfl⟩

/-! Comparing -/
def cmpS (a b : ByteArray) : Int := Lib.compareBytes (bl a) (bl b)

theorem q_CompareString (a b : ByteArray) (H : AHeap) : CC F.internal_bytealg_CompareString [.string a, .string b] H = some (.int .i64 (cmpS a b), H) := by
  have h : ∀ H, xext Try.prog Try.f65 [.string a, .string b] H = some (.int .i64 (cmpS a b)) := fun H => by kernel_rfl
  apply pure_of _ (d_internal_bytealg_CompareString _ _ H) rfl
  rotate_left 2
  · simp (disch := first | with_reducible rfl | assumption | omega | rfl | (simp only [go_sem]; first | done | omega)) only [go_sem, ↓reduceIte, reduceCtorEq, Nat.reduceEqDiff, Nat.reduceAdd, Nat.reduceSub, Nat.reduceMul, Nat.reduceDiv, Nat.reduceMod, Nat.reduceLeDiff, Nat.reduceLT, Nat.reduceBEq, Int.reduceEq, Int.reduceBEq, Int.reduceBNe, Int.reduceLT, Int.reduceLE, Int.reduceAdd, Int.reduceSub, Int.reduceNeg, Int.reduceToNat, Int.reducePow, Nat.reducePow, Int.reduceMul, Int.reduceDiv, ↓s_internal_bytealg_CompareString, h]
    rfl
  · (repeat (first | exact Fr.refl _ | refine Fr.push ?_ _ | refine Fr.set ?_ _ _ (by intro h; simp only [go_sem] at h; omega)))
@[go_sem, go_sem ↓] theorem e_CompareString (a b : ByteArray) (H : AHeap) {k : Value → AHeap → Res} : enterK CC F.internal_bytealg_CompareString [.string a, .string b] H k = k (.int .i64 (cmpS a b)) H := enterK_eq (q_CompareString a b H)
theorem q_SCompare (a b : ByteArray) (H : AHeap) : CC F.strings_Compare [.string a, .string b] H = some (.int .i64 (cmpS a b), H) := by
  apply pure_of _ (d_strings_Compare _ _ H) rfl
  rotate_left 2
  · simp (disch := first | with_reducible rfl | assumption | omega | rfl | (simp only [go_sem]; first | done | omega)) only [go_sem, ↓reduceIte, reduceCtorEq, Nat.reduceEqDiff, Nat.reduceAdd, Nat.reduceSub, Nat.reduceMul, Nat.reduceDiv, Nat.reduceMod, Nat.reduceLeDiff, Nat.reduceLT, Nat.reduceBEq, Int.reduceEq, Int.reduceBEq, Int.reduceBNe, Int.reduceLT, Int.reduceLE, Int.reduceAdd, Int.reduceSub, Int.reduceNeg, Int.reduceToNat, Int.reducePow, Nat.reducePow, Int.reduceMul, Int.reduceDiv, ↓s_strings_Compare, e_CompareString]
    rfl
  · (repeat (first | exact Fr.refl _ | refine Fr.push ?_ _ | refine Fr.set ?_ _ _ (by intro h; simp only [go_sem] at h; omega)))
@[go_sem, go_sem ↓] theorem e_SCompare (a b : ByteArray) (H : AHeap) {k : Value → AHeap → Res} : enterK CC F.strings_Compare [.string a, .string b] H k = k (.int .i64 (cmpS a b)) H := enterK_eq (q_SCompare a b H)
theorem q_KCompare (a b : ByteArray) (H : AHeap) : CC F.keys_Compare [.string a, .string b] H = some (.int .i64 (cmpS a b), H) := by
  apply pure_of _ (d_keys_Compare _ _ H) rfl
  rotate_left 2
  · simp (disch := first | with_reducible rfl | assumption | omega | rfl | (simp only [go_sem]; first | done | omega)) only [go_sem, ↓reduceIte, reduceCtorEq, Nat.reduceEqDiff, Nat.reduceAdd, Nat.reduceSub, Nat.reduceMul, Nat.reduceDiv, Nat.reduceMod, Nat.reduceLeDiff, Nat.reduceLT, Nat.reduceBEq, Int.reduceEq, Int.reduceBEq, Int.reduceBNe, Int.reduceLT, Int.reduceLE, Int.reduceAdd, Int.reduceSub, Int.reduceNeg, Int.reduceToNat, Int.reducePow, Nat.reducePow, Int.reduceMul, Int.reduceDiv, ↓s_keys_Compare, e_SCompare]
    rfl
  · (repeat (first | exact Fr.refl _ | refine Fr.push ?_ _ | refine Fr.set ?_ _ _ (by intro h; simp only [go_sem] at h; omega)))
@[go_sem, go_sem ↓] theorem e_KCompare (a b : ByteArray) (H : AHeap) {k : Value → AHeap → Res} : enterK CC F.keys_Compare [.string a, .string b] H k = k (.int .i64 (cmpS a b)) H := enterK_eq (q_KCompare a b H)

@[go_sem] theorem sl_nil_Pair {ox oy : Operand} : xbin Try.prog .eql T.sl_api_Pair ox oy (.slice none 0 0) (.slice none 0 0) = some (.bool true) := by kernel_rfl
@[go_sem] theorem sl_some_Pair {ox oy : Operand} {a : Addr} {n c : Nat} : xbin Try.prog .eql T.sl_api_Pair ox oy (.slice (some a) n c) (.slice none 0 0) = some (.bool false) := by kernel_rfl

theorem q_clone_Pair (l : List Pr) (v : Value) (H : AHeap) (hr : Rd EPr H v l) (hl : l.length ≤ 1000000000000) :
    ∃ v' H', CC F.slices_Clone_Pair [v] H = some (v', H') ∧ Own EPr H' T.api_Pair v' l ∧ Still H H' ∧ ∀ b, blockOf v' = some b → H.n ≤ b := by
  have hsrc : ∀ H1, Still H H1 → srcS 2 v H1 = some (l.length, EPr.cells l) := fun H1 h => (hr.still h).src rfl
  have s1 : Still H (H.push (.cells [] T.api_Pair true)) := (Fr.refl H).push _
  have hs := hsrc _ s1
  by_cases hn : v = .slice none 0 0
  · have hl0 : l = [] := by
      rcases hr with h | h | ⟨b, o, c, h, _⟩
      · exact h.1
      · exact h.1
      · rw [hn] at h; cases h
    subst hn hl0
    refine ⟨.slice none 0 0, H, ?_, .inl ⟨rfl, rfl⟩, Fr.refl H, fun b h => by cases h⟩
    apply pure_of _ (d_slices_Clone_Pair _ H) rfl
    rotate_left 2
    · simp (disch := first | with_reducible rfl | assumption | omega | rfl | (simp only [go_sem]; first | done | omega)) only [go_sem, ↓reduceIte, reduceCtorEq, Nat.reduceEqDiff, Nat.reduceAdd, Nat.reduceSub, Nat.reduceMul, Nat.reduceDiv, Nat.reduceMod, Nat.reduceLeDiff, Nat.reduceLT, Nat.reduceBEq, Int.reduceEq, Int.reduceBEq, Int.reduceBNe, Int.reduceLT, Int.reduceLE, Int.reduceAdd, Int.reduceSub, Int.reduceNeg, Int.reduceToNat, Int.reducePow, Nat.reducePow, Int.reduceMul, Int.reduceDiv, ↓s_slices_Clone_Pair]
      rfl
    · (repeat (first | exact Fr.refl _ | refine Fr.push ?_ _ | refine Fr.set ?_ _ _ (by intro h; simp only [go_sem] at h; omega)))
  · obtain ⟨a, n, c, hv⟩ : ∃ a n c, v = .slice (some a) n c := by
      rcases hr with h | ⟨_, a, k, h, _⟩ | ⟨b, o, c, h, _⟩
      · exact absurd h.2 hn
      · exact ⟨_, _, _, h⟩
      · exact ⟨_, _, _, h⟩
    have hnil : ∀ ox oy, xbin Try.prog .eql T.sl_api_Pair ox oy v (.slice none 0 0) = some (.bool false) := fun ox oy => by rw [hv]; exact sl_some_Pair
    have ho : Own EPr (H.push (.cells [] T.api_Pair true)) T.api_Pair (.slice (some ⟨H.n, 0, none⟩) 0 0) [] := .inr (.inl ⟨rfl, _, rfl, rfl, by simp⟩)
    by_cases hl0 : l = []
    · subst hl0
      refine ⟨.slice (some ⟨H.n, 0, none⟩) 0 0, H.push (.cells [] T.api_Pair true), ?_, ho, s1, fun b h => by cases h; exact Nat.le_refl _⟩
      have happ : app T.api_Pair 2 32 (.slice (some ⟨H.n, 0, none⟩) 0 0) (srcS 2 v (H.push (.cells [] T.api_Pair true))) (H.push (.cells [] T.api_Pair true)) = some (.slice (some ⟨H.n, 0, none⟩) 0 0, H.push (.cells [] T.api_Pair true)) := by rw [hs]; rfl
      refine (d_slices_Clone_Pair _ H ?_).trans (congrArg some (tidy_mem (v := .slice (some ⟨H.n, 0, none⟩) 0 0) (H' := H.push (.cells [] T.api_Pair true)) rfl))
      simp (disch := first | with_reducible rfl | assumption | omega | rfl | (simp only [go_sem]; first | done | omega)) only [go_sem, ↓reduceIte, reduceCtorEq, Nat.reduceEqDiff, Nat.reduceAdd, Nat.reduceSub, Nat.reduceMul, Nat.reduceDiv, Nat.reduceMod, Nat.reduceLeDiff, Nat.reduceLT, Nat.reduceBEq, Int.reduceEq, Int.reduceBEq, Int.reduceBNe, Int.reduceLT, Int.reduceLE, Int.reduceAdd, Int.reduceSub, Int.reduceNeg, Int.reduceToNat, Int.reducePow, Nat.reducePow, Int.reduceMul, Int.reduceDiv, ↓s_slices_Clone_Pair, hnil, happ]
    · obtain ⟨v', H', happ, hown, hfr, hb, hg⟩ := ho.app (m := l) hl0 (sz := 2) (bytes := 32) rfl (by simp; omega) (by simp; omega) hs
      refine ⟨v', H', ?_, hown, ?_, ?_⟩
      · refine (d_slices_Clone_Pair _ H ?_).trans (congrArg some (tidy_mem (v := v') (H' := H') hg))
        simp (disch := first | with_reducible rfl | assumption | omega | rfl | (simp only [go_sem]; first | done | omega)) only [go_sem, ↓reduceIte, reduceCtorEq, Nat.reduceEqDiff, Nat.reduceAdd, Nat.reduceSub, Nat.reduceMul, Nat.reduceDiv, Nat.reduceMod, Nat.reduceLeDiff, Nat.reduceLT, Nat.reduceBEq, Int.reduceEq, Int.reduceBEq, Int.reduceBNe, Int.reduceLT, Int.reduceLE, Int.reduceAdd, Int.reduceSub, Int.reduceNeg, Int.reduceToNat, Int.reducePow, Nat.reducePow, Int.reduceMul, Int.reduceDiv, ↓s_slices_Clone_Pair, hnil, happ]
      · refine s1.then hfr fun b hb h => ?_
        unfold OnlyOf at h
        simp [blockOf] at h
        omega
      · intro b h
        rcases hb with hb | hb
        · rw [hb] at h
          simp [blockOf] at h
          omega
        · rw [hb] at h
          simp at h
          omega

/-! ### Insert -/
theorem ins_loop_Pair : noLoop (codeOf Try.prog hints F.slices_Insert_Pair) = true := by kernel_rfl

theorem q_insert_Pair (l : List Pr) (v : Value) (a : Pr) (bv i : Nat) (H : AHeap) (hr : Own EPr H T.api_Pair v l) (hl : l.length ≤ 1000000000000) (hi : i ≤ l.length) (hbn : bv < H.n) (hbv : H.f bv = .cells [.string a.key, .string a.value] T.api_Pair true) (hne : blockOf v ≠ some bv) :
    ∃ v' H', CC F.slices_Insert_Pair [v, .int .i64 (i : Int), .slice (some ⟨bv, 0, none⟩) 1 2] H = some (v', H') ∧ Own EPr H' T.api_Pair v' (l.take i ++ a :: l.drop i) ∧ Fr (OnlyOf v) H H' ∧
      (blockOf v' = blockOf v ∨ ∃ b, blockOf v' = some b ∧ H.n ≤ b) := by
  have hp : prims1 F.slices_Insert_Pair = some (insP Try.prog hints 52 31 zIns0) := by kernel_rfl
  have hsrc : srcS 2 (.slice (some ⟨bv, 0, none⟩) 1 2) H = some ([a].length, EPr.cells [a]) := by
    unfold srcS
    simp only [cut_b, hbv, Nat.one_ne_zero, if_false]
    rfl
  by_cases hin : i = l.length
  · subst hin
    obtain ⟨v', H', happ, hown, hfr, hb, hg⟩ := hr.app (m := [a]) (by simp) (sz := 2) (bytes := 32) rfl (by simp; omega) (by simp; omega) hsrc
    obtain ⟨w, hw, _, _⟩ := hr.drop (sz := 2) (q := .i64) rfl (Nat.le_refl l.length)
    have hlen := hr.rd.lenS
    refine ⟨v', H', ?_, by simpa using hown, hfr, hb.imp id fun h => ⟨_, h, Nat.le_refl _⟩⟩
    refine D_prim hp ?_
    have hbody : dBody Try.prog hints (fun _ _ _ => none) 1 F.slices_Insert_Pair [v, .int .i64 (l.length : Int), .slice (some ⟨bv, 0, none⟩) 1 2] H = some (v', H') := by
      rw [dBody_noLoop ins_loop_Pair, s_slices_Insert_Pair_eq]
      show s_slices_Insert_Pair guardK condL shareL Try.prog _ _ _ _ H _ = _
      simp (disch := first | with_reducible rfl | assumption | omega | rfl | (simp only [go_sem]; first | done | omega)) only [go_sem, ↓reduceIte, reduceCtorEq, Nat.reduceEqDiff, Nat.reduceAdd, Nat.reduceSub, Nat.reduceMul, Nat.reduceDiv, Nat.reduceMod, Nat.reduceLeDiff, Nat.reduceLT, Nat.reduceBEq, Int.reduceEq, Int.reduceBEq, Int.reduceBNe, Int.reduceLT, Int.reduceLE, Int.reduceAdd, Int.reduceSub, Int.reduceNeg, Int.reduceToNat, Int.reducePow, Nat.reducePow, Int.reduceMul, Int.reduceDiv, ↓s_slices_Insert_Pair, hw, hlen, happ]
    show (match dBody Try.prog hints (fun _ _ _ => none) 1 F.slices_Insert_Pair [v, .int .i64 (l.length : Int), .slice (some ⟨bv, 0, none⟩) 1 2] H with
      | some r => some r
      | none => _) = _
    rw [hbody]
  · have hilt : i < l.length := by omega
    rcases hr with ⟨h, _⟩ | ⟨h, _⟩ | ⟨b, o, c, xs, rfl, hlc, hb, hf, ho, hx⟩
    · subst h; simp at hilt
    · subst h; simp at hilt
    · have hneb : bv ≠ b := fun h => hne (by rw [h]; rfl)
      obtain ⟨v', H', hins, hown, hfr, hbl⟩ := insS_own (P := Try.prog) (E := EPr) (l := l) (el := T.api_Pair) (z := zIns0) (b := b) (o := o) (c := c) (i := i) (bv := bv) (ov := 0) (cv := 2) (m := [a]) rfl rfl hlc hb hf ho hx hilt (by simp) hbv hneb (by kernel_rfl) (show 0 + 1 * 2 ≤ 2 by decide) rfl
        (by rw [show Try.prog.bytesOf T.api_Pair = 32 by kernel_rfl]; simp; omega) (by simp; omega)
      refine ⟨v', H', ?_, hown, hfr.mono fun x _ h => by rw [h]; rfl, hbl.imp id fun h => ⟨_, h, Nat.le_refl _⟩⟩
      refine D_prim hp ?_
      have hlo : slS T.api_Pair 2 (.slice (some ⟨b, o, none⟩) l.length (2 * c + 1)) (some (.int .i64 (i : Int))) none none H = some (.slice (some ⟨b, o + i * 2, none⟩) (l.length - i) (2 * (c - i) + 1)) := sl_lo hf hi hlc
      have hne' : ¬ (i : Int) = (l.length : Int) := by omega
      have hbody : dBody Try.prog hints (fun _ _ _ => none) 1 F.slices_Insert_Pair [.slice (some ⟨b, o, none⟩) l.length (2 * c + 1), .int .i64 (i : Int), .slice (some ⟨bv, 0, none⟩) 1 2] H = none := by
        rw [dBody_noLoop ins_loop_Pair, s_slices_Insert_Pair_eq]
        show s_slices_Insert_Pair guardK condL shareL Try.prog _ _ _ _ H _ = _
        simp (disch := first | with_reducible rfl | assumption | omega | rfl | (simp only [go_sem]; first | done | omega)) only [go_sem, ↓reduceIte, reduceCtorEq, Nat.reduceEqDiff, Nat.reduceAdd, Nat.reduceSub, Nat.reduceMul, Nat.reduceDiv, Nat.reduceMod, Nat.reduceLeDiff, Nat.reduceLT, Nat.reduceBEq, Int.reduceEq, Int.reduceBEq, Int.reduceBNe, Int.reduceLT, Int.reduceLE, Int.reduceAdd, Int.reduceSub, Int.reduceNeg, Int.reduceToNat, Int.reducePow, Nat.reducePow, Int.reduceMul, Int.reduceDiv, ↓s_slices_Insert_Pair, hlo, hne', cap_odd]
      show (match dBody Try.prog hints (fun _ _ _ => none) 1 F.slices_Insert_Pair [.slice (some ⟨b, o, none⟩) l.length (2 * c + 1), .int .i64 (i : Int), .slice (some ⟨bv, 0, none⟩) 1 2] H with
        | some r => some r
        | none => _) = _
      rw [hbody]
      exact hins

/-! ### Delete -/
theorem zrow_Pair : zrow Try.prog T.api_Pair = some [.string (mk []), .string (mk [])] := by kernel_rfl
theorem clear_Pair {b o n c : Nat} {H : AHeap} (hn : n ≠ 0) : xclear Try.prog [T.sl_api_Pair] (.slice (some ⟨b, o, none⟩) n c) H = (setB H b (wrL (H.f b) o (zeros [.string (mk []), .string (mk [])] n))).map fun H' => (.tuple #[], H') := by
  have h : Try.prog.underlying T.sl_api_Pair = some (.slice T.api_Pair) := Try.underlying22
  unfold xclear
  simp only [h, hn, if_false, zrow_Pair, Option.bind_some, stL_b]

theorem q_delete_Pair (l : List Pr) (v : Value) (i : Nat) (H : AHeap) (hr : Own EPr H T.api_Pair v l) (hl : l.length ≤ 1000000000000) (hi : i < l.length) :
    ∃ v' H', CC F.slices_Delete_Pair [v, .int .i64 (i : Int), .int .i64 ((i : Int) + 1)] H = some (v', H') ∧ Own EPr H' T.api_Pair v' (l.take i ++ l.drop (i + 1)) ∧ Fr (OnlyOf v) H H' ∧ blockOf v' = blockOf v := by
  rcases hr with ⟨h, _⟩ | ⟨h, _⟩ | ⟨b, o, c, xs, rfl, hlc, hb, hf, ho, hx⟩
  · subst h; simp at hi
  · subst h; simp at hi
  · have hw : EPr.w = 2 := rfl
    rw [hw] at ho hx
    have hne : ¬ (i : Int) = (i : Int) + 1 := by omega
    have hmul : l.length * 2 ≤ c * 2 := Nat.mul_le_mul_right _ hlc
    have e1 : slS T.api_Pair 2 (.slice (some ⟨b, o, none⟩) l.length (2 * c + 1)) (some (.int .i64 (i : Int))) (some (.int .i64 ((i : Int) + 1))) (some (.int .i64 (l.length : Int))) H = some (.slice (some ⟨b, if l.length = i then o else o + i * 2, none⟩) (i + 1 - i) (2 * (l.length - i))) :=
      sl_three (H := H) (e := T.api_Pair) (sz := 2) (i := i) (j := i + 1) (by omega) hi hlc
    have e2 : slS T.api_Pair 2 (.slice (some ⟨b, o, none⟩) l.length (2 * c + 1)) none (some (.int .i64 (i : Int))) none H = some (.slice (some ⟨b, o, none⟩) i (2 * c + 1)) := sl_hi hf (by omega)
    have e3 : slS T.api_Pair 2 (.slice (some ⟨b, o, none⟩) l.length (2 * c + 1)) (some (.int .i64 ((i : Int) + 1))) none none H = some (.slice (some ⟨b, o + (i + 1) * 2, none⟩) (l.length - (i + 1)) (2 * (c - (i + 1)) + 1)) :=
      sl_lo (H := H) (e := T.api_Pair) (sz := 2) (i := i + 1) hf hi hlc
    -- what is appended
    obtain ⟨ys, hys, e4⟩ : ∃ ys, ys = spl xs (o + i * 2) (EPr.cells (l.drop (i + 1))) ∧ app T.api_Pair 2 32 (.slice (some ⟨b, o, none⟩) i (2 * c + 1)) (srcS 2 (.slice (some ⟨b, o + (i + 1) * 2, none⟩) (l.length - (i + 1)) (2 * (c - (i + 1)) + 1)) H) H =
        some (.slice (some ⟨b, o, none⟩) (l.length - 1) (2 * c + 1), if l.length = i + 1 then H else H.set b (.cells ys T.api_Pair true)) := by
      refine ⟨_, rfl, ?_⟩
      have hsrc : srcS 2 (.slice (some ⟨b, o + (i + 1) * 2, none⟩) (l.length - (i + 1)) (2 * (c - (i + 1)) + 1)) H = some (l.length - (i + 1), EPr.cells (l.drop (i + 1))) := by
        unfold srcS
        by_cases h0 : l.length - (i + 1) = 0
        · rw [List.drop_eq_nil_of_le (by omega)]
          simp only [h0, if_true]
          rfl
        · simp only [h0, if_false, cut_b, hf]
          have hd : (xs.drop (o + (i + 1) * 2)).take ((l.length - (i + 1)) * 2) = EPr.cells (l.drop (i + 1)) := by
            have := EPr.cells_drop l (i + 1)
            rw [hw] at this
            rw [← this, ← hx, List.drop_take, List.drop_drop, Nat.sub_mul]
          rw [cutB_c (by omega), hd]
          rfl
      rw [hsrc]
      by_cases h0 : l.length = i + 1
      · rw [if_pos h0]
        unfold app
        simp only [Option.bind_some, show l.length - (i + 1) = 0 by omega, if_true]
        rw [show l.length - 1 = i by omega]
      · rw [if_neg h0]
        unfold app
        have hlen : (EPr.cells (l.drop (i + 1))).length = (l.length - (i + 1)) * 2 := by rw [EPr.cells_len, List.length_drop, hw]
        simp only [Option.bind_some, show ¬ l.length - (i + 1) = 0 by omega, if_false, show ¬ ((i + (l.length - (i + 1))) * 32 > 140737488355328 ∨ i + (l.length - (i + 1)) > 140737488355328) by omega, show i + (l.length - (i + 1)) ≤ (2 * c + 1) / 2 by omega, if_true, stL_b, hf]
        rw [wrL_c (by rw [hlen]; omega) (EPr.cells_one _), setB_s]
        simp only [Option.map_some]
        rw [show i + (l.length - (i + 1)) = l.length - 1 by omega]
    have hysl : ys.length = xs.length := by rw [hys, spl_length]
    generalize hH1 : (if l.length = i + 1 then H else H.set b (.cells ys T.api_Pair true)) = H1 at e4
    obtain ⟨zs, hzs, hzl, f1⟩ : ∃ zs, (zs = ys) ∧ zs.length = xs.length ∧ H1.f b = .cells zs T.api_Pair true := by
      rw [← hH1]
      by_cases h0 : l.length = i + 1
      · rw [if_pos h0]
        refine ⟨xs, ?_, rfl, hf⟩
        rw [hys, List.drop_eq_nil_of_le (by omega)]
        rfl
      · rw [if_neg h0]
        exact ⟨ys, rfl, hysl, set_f_eq⟩
    subst hzs
    have fr1 : Fr (OnlyOf (.slice (some ⟨b, o, none⟩) l.length (2 * c + 1))) H H1 := by
      rw [← hH1]
      split
      · exact Fr.refl _
      · exact Fr.set (Fr.refl _) _ _ fun _ => rfl
    have e5 : slS T.api_Pair 2 (.slice (some ⟨b, o, none⟩) (l.length - 1) (2 * c + 1)) (some (.int .i64 ((l.length - 1 : Nat) : Int))) (some (.int .i64 (l.length : Int))) none H1 = some (.slice (some ⟨b, o + (l.length - 1) * 2, none⟩) (l.length - (l.length - 1)) (2 * (c - (l.length - 1)) + 1)) := sl_lohi f1 (by omega) hlc
    have e6 : l.length - (l.length - 1) = 1 := by omega
    have hn1 : b < H1.n := Nat.lt_of_lt_of_le hb fr1.n
    refine ⟨.slice (some ⟨b, o, none⟩) (l.length - 1) (2 * c + 1), H1.set b (.cells (spl zs (o + (l.length - 1) * 2) [.string (mk []), .string (mk [])]) T.api_Pair true), ?_, ?_, Fr.set fr1 _ _ fun _ => rfl, rfl⟩
    · refine (d_slices_Delete_Pair _ _ _ H (r := (.slice (some ⟨b, o, none⟩) (l.length - 1) (2 * c + 1), _)) ?_).trans (congrArg some (tidy_mem rfl))
      simp (disch := first | with_reducible rfl | assumption | omega | rfl | (simp only [go_sem]; first | done | omega)) only [go_sem, ↓reduceIte, reduceCtorEq, Nat.reduceEqDiff, Nat.reduceAdd, Nat.reduceSub, Nat.reduceMul, Nat.reduceDiv, Nat.reduceMod, Nat.reduceLeDiff, Nat.reduceLT, Nat.reduceBEq, Int.reduceEq, Int.reduceBEq, Int.reduceBNe, Int.reduceLT, Int.reduceLE, Int.reduceAdd, Int.reduceSub, Int.reduceNeg, Int.reduceToNat, Int.reducePow, Nat.reducePow, Int.reduceMul, Int.reduceDiv, ↓s_slices_Delete_Pair, e1, hne, e2, e3, e4]
      rw [e5, e6]
      simp (disch := first | with_reducible rfl | assumption | omega | rfl | (simp only [go_sem]; first | done | omega)) only [go_sem, ↓reduceIte, reduceCtorEq, Nat.reduceEqDiff, Nat.reduceAdd, Nat.reduceSub, Nat.reduceMul, Nat.reduceDiv, Nat.reduceMod, Nat.reduceLeDiff, Nat.reduceLT, Nat.reduceBEq, Int.reduceEq, Int.reduceBEq, Int.reduceBNe, Int.reduceLT, Int.reduceLE, Int.reduceAdd, Int.reduceSub, Int.reduceNeg, Int.reduceToNat, Int.reducePow, Nat.reducePow, Int.reduceMul, Int.reduceDiv, clear_Pair, f1]
    · have hlen2 : (l.take i ++ l.drop (i + 1)).length = l.length - 1 := by simp; omega
      refine .inr (.inr ⟨b, o, c, _, by rw [hlen2], by rw [hlen2]; omega, by simpa using hn1, set_f_eq, by rw [spl_length, hzl, hw, ho], ?_⟩)
      rw [hys]
      have := del_cells (E := EPr) (xs := xs) (z := [.string (mk []), .string (mk [])]) (o := o) (i := i) rfl hi (by rw [hw]; omega) (by rw [hw]; exact hx)
      exact this



end Go.Proofs.Ytlagijfkkpbbnaa
