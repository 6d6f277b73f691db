/-
  18 texts in one (merge.py): M1 M2 M3 M4 Ord M5 M6 P A F ME V Fr Bb Qb Ca Cb Cc.
  Conditions: none. By an AI agent.
-/
import Derived.Test.YtlkgfbcencoahaaDoorQc1

/-
  The plain map: strings compared; slices of pairs: Clone, Insert, Delete.
  Conditions: none. By an AI agent.
-/
set_option maxRecDepth 10000
set_option linter.unusedSimpArgs false
set_option linter.unusedVariables false
namespace Go.Proofs.YtlkgfbcencoahaaDoor
open Go Eng

theorem k_known (H : AHeap) : CC F.law_known [] H = some (.bool true, H) := D_prim (show prims1 F.law_known = some trueP by kernel_rfl) rfl
@[go_sem, go_sem ↓] theorem e_known {H : AHeap} {k : Value → AHeap → Res} : enterK CC F.law_known [] H k = k (.bool true) H := enterK_eq (k_known H)
@[go_sem] theorem bool_ne {ox oy : Operand} {a b : Bool} : xbin Tryd.prog .neq T.bool ox oy (.bool a) (.bool b) = some (.bool (a != b)) := by
  cases a <;> cases b <;> kernel_rfl
@[go_sem] theorem mp_nil {ox oy : Operand} : xbin Tryd.prog .eql T.p_model_Model ox oy (.pointer none) (.pointer none) = some (.bool true) := by kernel_rfl
@[go_sem] theorem mp_some {ox oy : Operand} {a : Addr} : xbin Tryd.prog .eql T.p_model_Model ox oy (.pointer (some a)) (.pointer none) = some (.bool false) := by kernel_rfl

/-- A pair. -/
structure Pr where
  key : ByteArray
  value : ByteArray

def EPr : Enc Pr := ⟨2, fun a => [.string a.key, .string a.value], fun _ => rfl, by decide, fun _ => rfl⟩
def EStr : Enc ByteArray := ⟨1, fun a => [.string a], fun _ => rfl, by decide, fun _ => rfl⟩

/-! Comparing -/
def cmpS (a b : ByteArray) : Int := Lib.compareBytes (bl a) (bl b)

theorem q_CompareString (a b : ByteArray) (H : AHeap) : CC F.internal_bytealg_CompareString [.string a, .string b] H = some (.int .i64 (cmpS a b), H) := by
  have h : ∀ H, xext Tryd.prog Tryd.f66 [.string a, .string b] H = some (.int .i64 (cmpS a b)) := fun H => by kernel_rfl
  apply pure_of _ (d_internal_bytealg_CompareString _ _ H) rfl
  rotate_left 2
  · simp (disch := first | with_reducible rfl | assumption | omega | rfl | (simp only [go_sem]; first | done | omega)) only [go_sem, ↓reduceIte, reduceCtorEq, Nat.reduceEqDiff, Nat.reduceAdd, Nat.reduceSub, Nat.reduceMul, Nat.reduceDiv, Nat.reduceMod, Nat.reduceLeDiff, Nat.reduceLT, Nat.reduceBEq, Int.reduceEq, Int.reduceBEq, Int.reduceBNe, Int.reduceLT, Int.reduceLE, Int.reduceAdd, Int.reduceSub, Int.reduceNeg, Int.reduceToNat, Int.reducePow, Nat.reducePow, Int.reduceMul, Int.reduceDiv, ↓s_internal_bytealg_CompareString, h]
    rfl
  · (repeat (first | exact Fr.refl _ | refine Fr.push ?_ _ | refine Fr.set ?_ _ _ (by intro h; first | omega | (simp only [go_sem] at h; omega))))
@[go_sem, go_sem ↓] theorem e_CompareString (a b : ByteArray) (H : AHeap) {k : Value → AHeap → Res} : enterK CC F.internal_bytealg_CompareString [.string a, .string b] H k = k (.int .i64 (cmpS a b)) H := enterK_eq (q_CompareString a b H)
theorem q_SCompare (a b : ByteArray) (H : AHeap) : CC F.strings_Compare [.string a, .string b] H = some (.int .i64 (cmpS a b), H) := by
  apply pure_of _ (d_strings_Compare _ _ H) rfl
  rotate_left 2
  · simp (disch := first | with_reducible rfl | assumption | omega | rfl | (simp only [go_sem]; first | done | omega)) only [go_sem, ↓reduceIte, reduceCtorEq, Nat.reduceEqDiff, Nat.reduceAdd, Nat.reduceSub, Nat.reduceMul, Nat.reduceDiv, Nat.reduceMod, Nat.reduceLeDiff, Nat.reduceLT, Nat.reduceBEq, Int.reduceEq, Int.reduceBEq, Int.reduceBNe, Int.reduceLT, Int.reduceLE, Int.reduceAdd, Int.reduceSub, Int.reduceNeg, Int.reduceToNat, Int.reducePow, Nat.reducePow, Int.reduceMul, Int.reduceDiv, ↓s_strings_Compare, e_CompareString]
    rfl
  · (repeat (first | exact Fr.refl _ | refine Fr.push ?_ _ | refine Fr.set ?_ _ _ (by intro h; first | omega | (simp only [go_sem] at h; omega))))
@[go_sem, go_sem ↓] theorem e_SCompare (a b : ByteArray) (H : AHeap) {k : Value → AHeap → Res} : enterK CC F.strings_Compare [.string a, .string b] H k = k (.int .i64 (cmpS a b)) H := enterK_eq (q_SCompare a b H)
theorem q_KCompare (a b : ByteArray) (H : AHeap) : CC F.keys_Compare [.string a, .string b] H = some (.int .i64 (cmpS a b), H) := by
  apply pure_of _ (d_keys_Compare _ _ H) rfl
  rotate_left 2
  · simp (disch := first | with_reducible rfl | assumption | omega | rfl | (simp only [go_sem]; first | done | omega)) only [go_sem, ↓reduceIte, reduceCtorEq, Nat.reduceEqDiff, Nat.reduceAdd, Nat.reduceSub, Nat.reduceMul, Nat.reduceDiv, Nat.reduceMod, Nat.reduceLeDiff, Nat.reduceLT, Nat.reduceBEq, Int.reduceEq, Int.reduceBEq, Int.reduceBNe, Int.reduceLT, Int.reduceLE, Int.reduceAdd, Int.reduceSub, Int.reduceNeg, Int.reduceToNat, Int.reducePow, Nat.reducePow, Int.reduceMul, Int.reduceDiv, ↓s_keys_Compare, e_SCompare]
    rfl
  · (repeat (first | exact Fr.refl _ | refine Fr.push ?_ _ | refine Fr.set ?_ _ _ (by intro h; first | omega | (simp only [go_sem] at h; omega))))
@[go_sem, go_sem ↓] theorem e_KCompare (a b : ByteArray) (H : AHeap) {k : Value → AHeap → Res} : enterK CC F.keys_Compare [.string a, .string b] H k = k (.int .i64 (cmpS a b)) H := enterK_eq (q_KCompare a b H)

@[go_sem] theorem sl_nil_Pair {ox oy : Operand} : xbin Tryd.prog .eql T.sl_api_Pair ox oy (.slice none 0 0) (.slice none 0 0) = some (.bool true) := by kernel_rfl
@[go_sem] theorem sl_some_Pair {ox oy : Operand} {a : Addr} {n c : Nat} : xbin Tryd.prog .eql T.sl_api_Pair ox oy (.slice (some a) n c) (.slice none 0 0) = some (.bool false) := by kernel_rfl

theorem q_clone_Pair (l : List Pr) (v : Value) (H : AHeap) (hr : Rd EPr H v l) (hl : l.length ≤ 1000000000000) :
    ∃ v' H', CC F.slices_Clone_Pair [v] H = some (v', H') ∧ Own EPr H' T.api_Pair v' l ∧ Still H H' ∧ ∀ b, blockOf v' = some b → H.n ≤ b := by
  have hsrc : ∀ H1, Still H H1 → srcS 2 v H1 = some (l.length, EPr.cells l) := fun H1 h => (hr.still h).src rfl
  have s1 : Still H (H.push (.cells [] T.api_Pair true)) := (Fr.refl H).push _
  have hs := hsrc _ s1
  by_cases hn : v = .slice none 0 0
  · have hl0 : l = [] := by
      rcases hr with h | h | ⟨b, o, c, h, _⟩
      · exact h.1
      · exact h.1
      · rw [hn] at h; cases h
    subst hn hl0
    refine ⟨.slice none 0 0, H, ?_, .inl ⟨rfl, rfl⟩, Fr.refl H, fun b h => by cases h⟩
    apply pure_of _ (d_slices_Clone_Pair _ H) rfl
    rotate_left 2
    · simp (disch := first | with_reducible rfl | assumption | omega | rfl | (simp only [go_sem]; first | done | omega)) only [go_sem, ↓reduceIte, reduceCtorEq, Nat.reduceEqDiff, Nat.reduceAdd, Nat.reduceSub, Nat.reduceMul, Nat.reduceDiv, Nat.reduceMod, Nat.reduceLeDiff, Nat.reduceLT, Nat.reduceBEq, Int.reduceEq, Int.reduceBEq, Int.reduceBNe, Int.reduceLT, Int.reduceLE, Int.reduceAdd, Int.reduceSub, Int.reduceNeg, Int.reduceToNat, Int.reducePow, Nat.reducePow, Int.reduceMul, Int.reduceDiv, ↓s_slices_Clone_Pair]
      rfl
    · (repeat (first | exact Fr.refl _ | refine Fr.push ?_ _ | refine Fr.set ?_ _ _ (by intro h; first | omega | (simp only [go_sem] at h; omega))))
  · obtain ⟨a, n, c, hv⟩ : ∃ a n c, v = .slice (some a) n c := by
      rcases hr with h | ⟨_, a, k, h, _⟩ | ⟨b, o, c, h, _⟩
      · exact absurd h.2 hn
      · exact ⟨_, _, _, h⟩
      · exact ⟨_, _, _, h⟩
    have hnil : ∀ ox oy, xbin Tryd.prog .eql T.sl_api_Pair ox oy v (.slice none 0 0) = some (.bool false) := fun ox oy => by rw [hv]; exact sl_some_Pair
    have ho : Own EPr (H.push (.cells [] T.api_Pair true)) T.api_Pair (.slice (some ⟨H.n, 0, none⟩) 0 0) [] := .inr (.inl ⟨rfl, _, rfl, rfl, by simp⟩)
    by_cases hl0 : l = []
    · subst hl0
      refine ⟨.slice (some ⟨H.n, 0, none⟩) 0 0, H.push (.cells [] T.api_Pair true), ?_, ho, s1, fun b h => by cases h; exact Nat.le_refl _⟩
      have happ : app T.api_Pair 2 32 (.slice (some ⟨H.n, 0, none⟩) 0 0) (srcS 2 v (H.push (.cells [] T.api_Pair true))) (H.push (.cells [] T.api_Pair true)) = some (.slice (some ⟨H.n, 0, none⟩) 0 0, H.push (.cells [] T.api_Pair true)) := by rw [hs]; rfl
      refine (d_slices_Clone_Pair _ H ?_).trans (congrArg some (tidy_mem (v := .slice (some ⟨H.n, 0, none⟩) 0 0) (H' := H.push (.cells [] T.api_Pair true)) rfl))
      simp (disch := first | with_reducible rfl | assumption | omega | rfl | (simp only [go_sem]; first | done | omega)) only [go_sem, ↓reduceIte, reduceCtorEq, Nat.reduceEqDiff, Nat.reduceAdd, Nat.reduceSub, Nat.reduceMul, Nat.reduceDiv, Nat.reduceMod, Nat.reduceLeDiff, Nat.reduceLT, Nat.reduceBEq, Int.reduceEq, Int.reduceBEq, Int.reduceBNe, Int.reduceLT, Int.reduceLE, Int.reduceAdd, Int.reduceSub, Int.reduceNeg, Int.reduceToNat, Int.reducePow, Nat.reducePow, Int.reduceMul, Int.reduceDiv, ↓s_slices_Clone_Pair, hnil, happ]
    · obtain ⟨v', H', happ, hown, hfr, hb, hg⟩ := ho.app (m := l) hl0 (sz := 2) (bytes := 32) rfl (by simp; omega) (by simp; omega) hs
      refine ⟨v', H', ?_, hown, ?_, ?_⟩
      · refine (d_slices_Clone_Pair _ H ?_).trans (congrArg some (tidy_mem (v := v') (H' := H') hg))
        simp (disch := first | with_reducible rfl | assumption | omega | rfl | (simp only [go_sem]; first | done | omega)) only [go_sem, ↓reduceIte, reduceCtorEq, Nat.reduceEqDiff, Nat.reduceAdd, Nat.reduceSub, Nat.reduceMul, Nat.reduceDiv, Nat.reduceMod, Nat.reduceLeDiff, Nat.reduceLT, Nat.reduceBEq, Int.reduceEq, Int.reduceBEq, Int.reduceBNe, Int.reduceLT, Int.reduceLE, Int.reduceAdd, Int.reduceSub, Int.reduceNeg, Int.reduceToNat, Int.reducePow, Nat.reducePow, Int.reduceMul, Int.reduceDiv, ↓s_slices_Clone_Pair, hnil, happ]
      · refine s1.then hfr fun b hb h => ?_
        unfold OnlyOf at h
        simp [blockOf] at h
        omega
      · intro b h
        rcases hb with hb | hb
        · rw [hb] at h
          simp [blockOf] at h
          omega
        · rw [hb] at h
          simp at h
          omega

/-! ### Insert -/
theorem ins_loop_Pair : noLoop (codeOf Tryd.prog hints F.slices_Insert_Pair) = true := by kernel_rfl

theorem q_insert_Pair (l : List Pr) (v : Value) (a : Pr) (bv i : Nat) (H : AHeap) (hr : Own EPr H T.api_Pair v l) (hl : l.length ≤ 1000000000000) (hi : i ≤ l.length) (hbn : bv < H.n) (hbv : H.f bv = .cells [.string a.key, .string a.value] T.api_Pair true) (hne : blockOf v ≠ some bv) :
    ∃ v' H', CC F.slices_Insert_Pair [v, .int .i64 (i : Int), .slice (some ⟨bv, 0, none⟩) 1 2] H = some (v', H') ∧ Own EPr H' T.api_Pair v' (l.take i ++ a :: l.drop i) ∧ Fr (OnlyOf v) H H' ∧
      (blockOf v' = blockOf v ∨ ∃ b, blockOf v' = some b ∧ H.n ≤ b) := by
  have hp : prims1 F.slices_Insert_Pair = some (insP Tryd.prog hints 46 43 zIns0) := by kernel_rfl
  have hsrc : srcS 2 (.slice (some ⟨bv, 0, none⟩) 1 2) H = some ([a].length, EPr.cells [a]) := by
    unfold srcS
    simp only [cut_b, hbv, Nat.one_ne_zero, if_false]
    rfl
  by_cases hin : i = l.length
  · subst hin
    obtain ⟨v', H', happ, hown, hfr, hb, hg⟩ := hr.app (m := [a]) (by simp) (sz := 2) (bytes := 32) rfl (by simp; omega) (by simp; omega) hsrc
    obtain ⟨w, hw, _, _⟩ := hr.drop (sz := 2) (q := .i64) rfl (Nat.le_refl l.length)
    have hlen := hr.rd.lenS
    refine ⟨v', H', ?_, by simpa using hown, hfr, hb.imp id fun h => ⟨_, h, Nat.le_refl _⟩⟩
    refine D_prim hp ?_
    have hbody : dBody Tryd.prog hints (fun _ _ _ => none) 1 F.slices_Insert_Pair [v, .int .i64 (l.length : Int), .slice (some ⟨bv, 0, none⟩) 1 2] H = some (v', H') := by
      rw [dBody_noLoop ins_loop_Pair, s_slices_Insert_Pair_eq]
      show s_slices_Insert_Pair guardK condL shareL Tryd.prog _ _ _ _ H _ = _
      simp (disch := first | with_reducible rfl | assumption | omega | rfl | (simp only [go_sem]; first | done | omega)) only [go_sem, ↓reduceIte, reduceCtorEq, Nat.reduceEqDiff, Nat.reduceAdd, Nat.reduceSub, Nat.reduceMul, Nat.reduceDiv, Nat.reduceMod, Nat.reduceLeDiff, Nat.reduceLT, Nat.reduceBEq, Int.reduceEq, Int.reduceBEq, Int.reduceBNe, Int.reduceLT, Int.reduceLE, Int.reduceAdd, Int.reduceSub, Int.reduceNeg, Int.reduceToNat, Int.reducePow, Nat.reducePow, Int.reduceMul, Int.reduceDiv, ↓s_slices_Insert_Pair, hw, hlen, happ]
    show (match dBody Tryd.prog hints (fun _ _ _ => none) 1 F.slices_Insert_Pair [v, .int .i64 (l.length : Int), .slice (some ⟨bv, 0, none⟩) 1 2] H with
      | some r => some r
      | none => _) = _
    rw [hbody]
  · have hilt : i < l.length := by omega
    rcases hr with ⟨h, _⟩ | ⟨h, _⟩ | ⟨b, o, c, xs, rfl, hlc, hb, hf, ho, hx⟩
    · subst h; simp at hilt
    · subst h; simp at hilt
    · have hneb : bv ≠ b := fun h => hne (by rw [h]; rfl)
      obtain ⟨v', H', hins, hown, hfr, hbl⟩ := insS_own (P := Tryd.prog) (E := EPr) (l := l) (el := T.api_Pair) (z := zIns0) (b := b) (o := o) (c := c) (i := i) (bv := bv) (ov := 0) (cv := 2) (m := [a]) rfl rfl hlc hb hf ho hx hilt (by simp) hbv hneb (by kernel_rfl) (show 0 + 1 * 2 ≤ 2 by decide) rfl
        (by rw [show Tryd.prog.bytesOf T.api_Pair = 32 by kernel_rfl]; simp; omega) (by simp; omega)
      refine ⟨v', H', ?_, hown, hfr.mono fun x _ h => by rw [h]; rfl, hbl.imp id fun h => ⟨_, h, Nat.le_refl _⟩⟩
      refine D_prim hp ?_
      have hlo : slS T.api_Pair 2 (.slice (some ⟨b, o, none⟩) l.length (2 * c + 1)) (some (.int .i64 (i : Int))) none none H = some (.slice (some ⟨b, o + i * 2, none⟩) (l.length - i) (2 * (c - i) + 1)) := sl_lo hf hi hlc
      have hne' : ¬ (i : Int) = (l.length : Int) := by omega
      have hbody : dBody Tryd.prog hints (fun _ _ _ => none) 1 F.slices_Insert_Pair [.slice (some ⟨b, o, none⟩) l.length (2 * c + 1), .int .i64 (i : Int), .slice (some ⟨bv, 0, none⟩) 1 2] H = none := by
        rw [dBody_noLoop ins_loop_Pair, s_slices_Insert_Pair_eq]
        show s_slices_Insert_Pair guardK condL shareL Tryd.prog _ _ _ _ H _ = _
        simp (disch := first | with_reducible rfl | assumption | omega | rfl | (simp only [go_sem]; first | done | omega)) only [go_sem, ↓reduceIte, reduceCtorEq, Nat.reduceEqDiff, Nat.reduceAdd, Nat.reduceSub, Nat.reduceMul, Nat.reduceDiv, Nat.reduceMod, Nat.reduceLeDiff, Nat.reduceLT, Nat.reduceBEq, Int.reduceEq, Int.reduceBEq, Int.reduceBNe, Int.reduceLT, Int.reduceLE, Int.reduceAdd, Int.reduceSub, Int.reduceNeg, Int.reduceToNat, Int.reducePow, Nat.reducePow, Int.reduceMul, Int.reduceDiv, ↓s_slices_Insert_Pair, hlo, hne', cap_odd]
      show (match dBody Tryd.prog hints (fun _ _ _ => none) 1 F.slices_Insert_Pair [.slice (some ⟨b, o, none⟩) l.length (2 * c + 1), .int .i64 (i : Int), .slice (some ⟨bv, 0, none⟩) 1 2] H with
        | some r => some r
        | none => _) = _
      rw [hbody]
      exact hins

/-! ### Delete -/
theorem zrow_Pair : zrow Tryd.prog T.api_Pair = some [.string (mk []), .string (mk [])] := by kernel_rfl
theorem clear_Pair {b o n c : Nat} {H : AHeap} (hn : n ≠ 0) : xclear Tryd.prog [T.sl_api_Pair] (.slice (some ⟨b, o, none⟩) n c) H = (setB H b (wrL (H.f b) o (zeros [.string (mk []), .string (mk [])] n))).map fun H' => (.tuple #[], H') := by
  have h : Tryd.prog.underlying T.sl_api_Pair = some (.slice T.api_Pair) := Tryd.underlying22
  unfold xclear
  simp only [h, hn, if_false, zrow_Pair, Option.bind_some, stL_b]

theorem q_delete_Pair (l : List Pr) (v : Value) (i : Nat) (H : AHeap) (hr : Own EPr H T.api_Pair v l) (hl : l.length ≤ 1000000000000) (hi : i < l.length) :
    ∃ v' H', CC F.slices_Delete_Pair [v, .int .i64 (i : Int), .int .i64 ((i : Int) + 1)] H = some (v', H') ∧ Own EPr H' T.api_Pair v' (l.take i ++ l.drop (i + 1)) ∧ Fr (OnlyOf v) H H' ∧ blockOf v' = blockOf v := by
  rcases hr with ⟨h, _⟩ | ⟨h, _⟩ | ⟨b, o, c, xs, rfl, hlc, hb, hf, ho, hx⟩
  · subst h; simp at hi
  · subst h; simp at hi
  · have hw : EPr.w = 2 := rfl
    rw [hw] at ho hx
    have hne : ¬ (i : Int) = (i : Int) + 1 := by omega
    have hmul : l.length * 2 ≤ c * 2 := Nat.mul_le_mul_right _ hlc
    have e1 : slS T.api_Pair 2 (.slice (some ⟨b, o, none⟩) l.length (2 * c + 1)) (some (.int .i64 (i : Int))) (some (.int .i64 ((i : Int) + 1))) (some (.int .i64 (l.length : Int))) H = some (.slice (some ⟨b, if l.length = i then o else o + i * 2, none⟩) (i + 1 - i) (2 * (l.length - i))) :=
      sl_three (H := H) (e := T.api_Pair) (sz := 2) (i := i) (j := i + 1) (by omega) hi hlc
    have e2 : slS T.api_Pair 2 (.slice (some ⟨b, o, none⟩) l.length (2 * c + 1)) none (some (.int .i64 (i : Int))) none H = some (.slice (some ⟨b, o, none⟩) i (2 * c + 1)) := sl_hi hf (by omega)
    have e3 : slS T.api_Pair 2 (.slice (some ⟨b, o, none⟩) l.length (2 * c + 1)) (some (.int .i64 ((i : Int) + 1))) none none H = some (.slice (some ⟨b, o + (i + 1) * 2, none⟩) (l.length - (i + 1)) (2 * (c - (i + 1)) + 1)) :=
      sl_lo (H := H) (e := T.api_Pair) (sz := 2) (i := i + 1) hf hi hlc
    -- what is appended
    obtain ⟨ys, hys, e4⟩ : ∃ ys, ys = spl xs (o + i * 2) (EPr.cells (l.drop (i + 1))) ∧ app T.api_Pair 2 32 (.slice (some ⟨b, o, none⟩) i (2 * c + 1)) (srcS 2 (.slice (some ⟨b, o + (i + 1) * 2, none⟩) (l.length - (i + 1)) (2 * (c - (i + 1)) + 1)) H) H =
        some (.slice (some ⟨b, o, none⟩) (l.length - 1) (2 * c + 1), if l.length = i + 1 then H else H.set b (.cells ys T.api_Pair true)) := by
      refine ⟨_, rfl, ?_⟩
      have hsrc : srcS 2 (.slice (some ⟨b, o + (i + 1) * 2, none⟩) (l.length - (i + 1)) (2 * (c - (i + 1)) + 1)) H = some (l.length - (i + 1), EPr.cells (l.drop (i + 1))) := by
        unfold srcS
        by_cases h0 : l.length - (i + 1) = 0
        · rw [List.drop_eq_nil_of_le (by omega)]
          simp only [h0, if_true]
          rfl
        · simp only [h0, if_false, cut_b, hf]
          have hd : (xs.drop (o + (i + 1) * 2)).take ((l.length - (i + 1)) * 2) = EPr.cells (l.drop (i + 1)) := by
            have := EPr.cells_drop l (i + 1)
            rw [hw] at this
            rw [← this, ← hx, List.drop_take, List.drop_drop, Nat.sub_mul]
          rw [cutB_c (by omega), hd]
          rfl
      rw [hsrc]
      by_cases h0 : l.length = i + 1
      · rw [if_pos h0]
        unfold app
        simp only [Option.bind_some, show l.length - (i + 1) = 0 by omega, if_true]
        rw [show l.length - 1 = i by omega]
      · rw [if_neg h0]
        unfold app
        have hlen : (EPr.cells (l.drop (i + 1))).length = (l.length - (i + 1)) * 2 := by rw [EPr.cells_len, List.length_drop, hw]
        simp only [Option.bind_some, show ¬ l.length - (i + 1) = 0 by omega, if_false, show ¬ ((i + (l.length - (i + 1))) * 32 > 140737488355328 ∨ i + (l.length - (i + 1)) > 140737488355328) by omega, show i + (l.length - (i + 1)) ≤ (2 * c + 1) / 2 by omega, if_true, stL_b, hf]
        rw [wrL_c (by rw [hlen]; omega) (EPr.cells_one _), setB_s]
        simp only [Option.map_some]
        rw [show i + (l.length - (i + 1)) = l.length - 1 by omega]
    have hysl : ys.length = xs.length := by rw [hys, spl_length]
    generalize hH1 : (if l.length = i + 1 then H else H.set b (.cells ys T.api_Pair true)) = H1 at e4
    obtain ⟨zs, hzs, hzl, f1⟩ : ∃ zs, (zs = ys) ∧ zs.length = xs.length ∧ H1.f b = .cells zs T.api_Pair true := by
      rw [← hH1]
      by_cases h0 : l.length = i + 1
      · rw [if_pos h0]
        refine ⟨xs, ?_, rfl, hf⟩
        rw [hys, List.drop_eq_nil_of_le (by omega)]
        rfl
      · rw [if_neg h0]
        exact ⟨ys, rfl, hysl, set_f_eq⟩
    subst hzs
    have fr1 : Fr (OnlyOf (.slice (some ⟨b, o, none⟩) l.length (2 * c + 1))) H H1 := by
      rw [← hH1]
      split
      · exact Fr.refl _
      · exact Fr.set (Fr.refl _) _ _ fun _ => rfl
    have e5 : slS T.api_Pair 2 (.slice (some ⟨b, o, none⟩) (l.length - 1) (2 * c + 1)) (some (.int .i64 ((l.length - 1 : Nat) : Int))) (some (.int .i64 (l.length : Int))) none H1 = some (.slice (some ⟨b, o + (l.length - 1) * 2, none⟩) (l.length - (l.length - 1)) (2 * (c - (l.length - 1)) + 1)) := sl_lohi f1 (by omega) hlc
    have e6 : l.length - (l.length - 1) = 1 := by omega
    have hn1 : b < H1.n := Nat.lt_of_lt_of_le hb fr1.n
    refine ⟨.slice (some ⟨b, o, none⟩) (l.length - 1) (2 * c + 1), H1.set b (.cells (spl zs (o + (l.length - 1) * 2) [.string (mk []), .string (mk [])]) T.api_Pair true), ?_, ?_, Fr.set fr1 _ _ fun _ => rfl, rfl⟩
    · refine (d_slices_Delete_Pair _ _ _ H (r := (.slice (some ⟨b, o, none⟩) (l.length - 1) (2 * c + 1), _)) ?_).trans (congrArg some (tidy_mem rfl))
      simp (disch := first | with_reducible rfl | assumption | omega | rfl | (simp only [go_sem]; first | done | omega)) only [go_sem, ↓reduceIte, reduceCtorEq, Nat.reduceEqDiff, Nat.reduceAdd, Nat.reduceSub, Nat.reduceMul, Nat.reduceDiv, Nat.reduceMod, Nat.reduceLeDiff, Nat.reduceLT, Nat.reduceBEq, Int.reduceEq, Int.reduceBEq, Int.reduceBNe, Int.reduceLT, Int.reduceLE, Int.reduceAdd, Int.reduceSub, Int.reduceNeg, Int.reduceToNat, Int.reducePow, Nat.reducePow, Int.reduceMul, Int.reduceDiv, ↓s_slices_Delete_Pair, e1, hne, e2, e3, e4]
      rw [e5, e6]
      simp (disch := first | with_reducible rfl | assumption | omega | rfl | (simp only [go_sem]; first | done | omega)) only [go_sem, ↓reduceIte, reduceCtorEq, Nat.reduceEqDiff, Nat.reduceAdd, Nat.reduceSub, Nat.reduceMul, Nat.reduceDiv, Nat.reduceMod, Nat.reduceLeDiff, Nat.reduceLT, Nat.reduceBEq, Int.reduceEq, Int.reduceBEq, Int.reduceBNe, Int.reduceLT, Int.reduceLE, Int.reduceAdd, Int.reduceSub, Int.reduceNeg, Int.reduceToNat, Int.reducePow, Nat.reducePow, Int.reduceMul, Int.reduceDiv, clear_Pair, f1]
    · have hlen2 : (l.take i ++ l.drop (i + 1)).length = l.length - 1 := by simp; omega
      refine .inr (.inr ⟨b, o, c, _, by rw [hlen2], by rw [hlen2]; omega, by simpa using hn1, set_f_eq, by rw [spl_length, hzl, hw, ho], ?_⟩)
      rw [hys]
      have := del_cells (E := EPr) (xs := xs) (z := [.string (mk []), .string (mk [])]) (o := o) (i := i) rfl hi (by rw [hw]; omega) (by rw [hw]; exact hx)
      exact this



end Go.Proofs.YtlkgfbcencoahaaDoor

/-
  The plain map: where a key is, the check of a key and values.
  Conditions: none. By an AI agent.
-/
set_option maxRecDepth 10000
set_option linter.unusedSimpArgs false
set_option linter.unusedVariables false
namespace Go.Proofs.YtlkgfbcencoahaaDoor
open Go Eng

theorem q_place_1 (a : Pr) (key : ByteArray) (H : AHeap) : CC F.model_Model_place_1 [.agg #[.string a.key, .string a.value], .string key] H = some (.int .i64 (cmpS a.key key), H) := by
  apply pure_of _ (d_model_Model_place_1 _ _ H) rfl
  rotate_left 2
  · simp (disch := first | with_reducible rfl | assumption | omega | rfl | (simp only [go_sem]; first | done | omega)) only [go_sem, ↓reduceIte, reduceCtorEq, Nat.reduceEqDiff, Nat.reduceAdd, Nat.reduceSub, Nat.reduceMul, Nat.reduceDiv, Nat.reduceMod, Nat.reduceLeDiff, Nat.reduceLT, Nat.reduceBEq, Int.reduceEq, Int.reduceBEq, Int.reduceBNe, Int.reduceLT, Int.reduceLE, Int.reduceAdd, Int.reduceSub, Int.reduceNeg, Int.reduceToNat, Int.reducePow, Nat.reducePow, Int.reduceMul, Int.reduceDiv, ↓s_model_Model_place_1, e_KCompare]
    rfl
  · (repeat (first | exact Fr.refl _ | refine Fr.push ?_ _ | refine Fr.set ?_ _ _ (by intro h; first | omega | (simp only [go_sem] at h; omega))))
@[go_sem, go_sem ↓] theorem e_place_1 (a : Pr) (key : ByteArray) (H : AHeap) {k : Value → AHeap → Res} : enterK CC F.model_Model_place_1 [.agg #[.string a.key, .string a.value], .string key] H k = k (.int .i64 (cmpS a.key key)) H := enterK_eq (q_place_1 a key H)

/-- p is where a key is, or would be. -/
def PosP (l : List Pr) (key : ByteArray) (p : Nat) : Prop :=
  p ≤ l.length ∧ (∀ (i : Nat) (h : i < l.length), i < p → cmpS l[i].key key < 0) ∧ (∀ (i : Nat) (h : i < l.length), p ≤ i → ¬ cmpS l[i].key key < 0)

/-- Is the key there? -/
def isP (l : List Pr) (key : ByteArray) (p : Nat) : Bool := match l[p]? with | some a => decide (cmpS a.key key = 0) | none => false

theorem l_bsP (l : List Pr) (v : Value) (key : ByteArray) (H : AHeap) (hr : Rd EPr H v l) (hl : l.length < 1152921504606846976)
    (p : Nat) (hp1 : ∀ (i : Nat) (h : i < l.length), i < p → cmpS l[i].key key < 0) (hp2 : ∀ (i : Nat) (h : i < l.length), p ≤ i → ¬ cmpS l[i].key key < 0) (K : K) : ∀ (d i j : Nat), j - i = d → i ≤ p → p ≤ j → j ≤ l.length →
    l_slices_BinarySearchFunc_string_0 v (.string key) (.func (.func F.model_Model_place_1) #[] #[]) (.int .i64 l.length) (.int .i64 i) (.int .i64 j) H K
      = K (.exit 0) [(17, .bool false), (16, .int .i64 p), (15, .int .i64 p), (0, v), (1, .string key), (2, .func (.func F.model_Model_place_1) #[] #[]), (8, .int .i64 l.length), (9, .int .i64 p), (10, .int .i64 p)] H := by
  intro d
  induction d using Nat.strongRecOn with
  | ind d ih =>
    intro i j hd hi hj hn
    by_cases hlt : i < j
    · have hlt' : (i : Int) < (j : Int) := by omega
      have hm : ((i : Int) + (j : Int)) / 2 = (((i + j) / 2 : Nat) : Int) := by omega
      generalize hh : (i + j) / 2 = m at hm
      have hm1 : i ≤ m := by omega
      have hm2 : m < j := by omega
      have hml : m < l.length := by omega
      obtain ⟨b, o, hix, hb, hc, _⟩ := hr.ix (q := .i64) hml
      have hix : ixS 2 v (.int .i64 m) = some (.pointer (some ⟨b, o, none⟩)) := hix
      have hc : cutB (H.f b) o 2 = some [.string l[m].key, .string l[m].value] := hc
      rw [r_slices_BinarySearchFunc_string_0]
      by_cases hp : m < p
      · have hcmp : decide (cmpS l[m].key key < 0) = true := decide_eq_true (hp1 m hml hp)
        have ih := ih (j - (m + 1)) (by omega) (m + 1) j rfl (by omega) hj hn
        rw [Int.natCast_add] at ih
        simp (disch := first | with_reducible rfl | assumption | omega | rfl | (simp only [go_sem]; first | done | omega)) only [go_sem, ↓reduceIte, reduceCtorEq, Nat.reduceEqDiff, Nat.reduceAdd, Nat.reduceSub, Nat.reduceMul, Nat.reduceDiv, Nat.reduceMod, Nat.reduceLeDiff, Nat.reduceLT, Nat.reduceBEq, Int.reduceEq, Int.reduceBEq, Int.reduceBNe, Int.reduceLT, Int.reduceLE, Int.reduceAdd, Int.reduceSub, Int.reduceNeg, Int.reduceToNat, Int.reducePow, Nat.reducePow, Int.reduceMul, Int.reduceDiv, ↓s_slices_BinarySearchFunc_string_b0, hlt', hm, hix, hc, c_model_Model_place_1, e_place_1, hcmp]
        exact ih
      · have hcmp : decide (cmpS l[m].key key < 0) = false := decide_eq_false (hp2 m hml (by omega))
        have ih := ih (m - i) (by omega) i m rfl hi (by omega) (by omega)
        simp (disch := first | with_reducible rfl | assumption | omega | rfl | (simp only [go_sem]; first | done | omega)) only [go_sem, ↓reduceIte, reduceCtorEq, Nat.reduceEqDiff, Nat.reduceAdd, Nat.reduceSub, Nat.reduceMul, Nat.reduceDiv, Nat.reduceMod, Nat.reduceLeDiff, Nat.reduceLT, Nat.reduceBEq, Int.reduceEq, Int.reduceBEq, Int.reduceBNe, Int.reduceLT, Int.reduceLE, Int.reduceAdd, Int.reduceSub, Int.reduceNeg, Int.reduceToNat, Int.reducePow, Nat.reducePow, Int.reduceMul, Int.reduceDiv, ↓s_slices_BinarySearchFunc_string_b0, hlt', hm, hix, hc, c_model_Model_place_1, e_place_1, hcmp]
        exact ih
    · have hip : i = p := by omega
      have hjp : j = p := by omega
      subst hip
      subst hjp
      have hlt' : ¬ (j : Int) < (j : Int) := by omega
      rw [r_slices_BinarySearchFunc_string_0]
      simp (disch := first | with_reducible rfl | assumption | omega | rfl | (simp only [go_sem]; first | done | omega)) only [go_sem, ↓reduceIte, reduceCtorEq, Nat.reduceEqDiff, Nat.reduceAdd, Nat.reduceSub, Nat.reduceMul, Nat.reduceDiv, Nat.reduceMod, Nat.reduceLeDiff, Nat.reduceLT, Nat.reduceBEq, Int.reduceEq, Int.reduceBEq, Int.reduceBNe, Int.reduceLT, Int.reduceLE, Int.reduceAdd, Int.reduceSub, Int.reduceNeg, Int.reduceToNat, Int.reducePow, Nat.reducePow, Int.reduceMul, Int.reduceDiv, ↓s_slices_BinarySearchFunc_string_b0, hlt']

theorem q_bsP (l : List Pr) (v : Value) (key : ByteArray) (H : AHeap) (hr : Rd EPr H v l) (hl : l.length < 1152921504606846976) (p : Nat) (hp : PosP l key p) :
    CC F.slices_BinarySearchFunc_string [v, .string key, .func (.func F.model_Model_place_1) #[] #[]] H = some (.tuple #[.int .i64 p, .bool (isP l key p)], H) := by
  obtain ⟨hpl, hp1, hp2⟩ := hp
  have hlen := hr.lenS
  have hloop := l_bsP l v key H hr hl p hp1 hp2
  have hz : Value.int IntKind.i64 0 = Value.int IntKind.i64 ((0 : Nat) : Int) := rfl
  by_cases hlt : p < l.length
  · obtain ⟨b, o, hix, hb, hc, _⟩ := hr.ix (q := .i64) hlt
    have hix : ixS 2 v (.int .i64 p) = some (.pointer (some ⟨b, o, none⟩)) := hix
    have hc : cutB (H.f b) o 2 = some [.string l[p].key, .string l[p].value] := hc
    have hlt' : (p : Int) < (l.length : Int) := by omega
    have his : isP l key p = decide (cmpS l[p].key key = 0) := by unfold isP; rw [List.getElem?_eq_getElem hlt]
    rw [his]
    apply pure_of _ (d_slices_BinarySearchFunc_string _ _ _ H) rfl
    rotate_left 2
    · simp (disch := first | with_reducible rfl | assumption | omega | rfl | (simp only [go_sem]; first | done | omega)) only [go_sem, ↓reduceIte, reduceCtorEq, Nat.reduceEqDiff, Nat.reduceAdd, Nat.reduceSub, Nat.reduceMul, Nat.reduceDiv, Nat.reduceMod, Nat.reduceLeDiff, Nat.reduceLT, Nat.reduceBEq, Int.reduceEq, Int.reduceBEq, Int.reduceBNe, Int.reduceLT, Int.reduceLE, Int.reduceAdd, Int.reduceSub, Int.reduceNeg, Int.reduceToNat, Int.reducePow, Nat.reducePow, Int.reduceMul, Int.reduceDiv, ↓s_slices_BinarySearchFunc_string, hlen]
      rw [hz, hloop _ (l.length - 0) 0 l.length rfl (by omega) hpl (by omega)]
      simp (disch := first | with_reducible rfl | assumption | omega | rfl | (simp only [go_sem]; first | done | omega)) only [go_sem, ↓reduceIte, reduceCtorEq, Nat.reduceEqDiff, Nat.reduceAdd, Nat.reduceSub, Nat.reduceMul, Nat.reduceDiv, Nat.reduceMod, Nat.reduceLeDiff, Nat.reduceLT, Nat.reduceBEq, Int.reduceEq, Int.reduceBEq, Int.reduceBNe, Int.reduceLT, Int.reduceLE, Int.reduceAdd, Int.reduceSub, Int.reduceNeg, Int.reduceToNat, Int.reducePow, Nat.reducePow, Int.reduceMul, Int.reduceDiv, hlt', hix, hc, c_model_Model_place_1, e_place_1]
      rfl
    · (repeat (first | exact Fr.refl _ | refine Fr.push ?_ _ | refine Fr.set ?_ _ _ (by intro h; first | omega | (simp only [go_sem] at h; omega))))
  · have hlt' : ¬ (p : Int) < (l.length : Int) := by omega
    have his : isP l key p = false := by unfold isP; rw [List.getElem?_eq_none (by omega)]
    rw [his]
    apply pure_of _ (d_slices_BinarySearchFunc_string _ _ _ H) rfl
    rotate_left 2
    · simp (disch := first | with_reducible rfl | assumption | omega | rfl | (simp only [go_sem]; first | done | omega)) only [go_sem, ↓reduceIte, reduceCtorEq, Nat.reduceEqDiff, Nat.reduceAdd, Nat.reduceSub, Nat.reduceMul, Nat.reduceDiv, Nat.reduceMod, Nat.reduceLeDiff, Nat.reduceLT, Nat.reduceBEq, Int.reduceEq, Int.reduceBEq, Int.reduceBNe, Int.reduceLT, Int.reduceLE, Int.reduceAdd, Int.reduceSub, Int.reduceNeg, Int.reduceToNat, Int.reducePow, Nat.reducePow, Int.reduceMul, Int.reduceDiv, ↓s_slices_BinarySearchFunc_string, hlen]
      rw [hz, hloop _ (l.length - 0) 0 l.length rfl (by omega) hpl (by omega)]
      simp (disch := first | with_reducible rfl | assumption | omega | rfl | (simp only [go_sem]; first | done | omega)) only [go_sem, ↓reduceIte, reduceCtorEq, Nat.reduceEqDiff, Nat.reduceAdd, Nat.reduceSub, Nat.reduceMul, Nat.reduceDiv, Nat.reduceMod, Nat.reduceLeDiff, Nat.reduceLT, Nat.reduceBEq, Int.reduceEq, Int.reduceBEq, Int.reduceBNe, Int.reduceLT, Int.reduceLE, Int.reduceAdd, Int.reduceSub, Int.reduceNeg, Int.reduceToNat, Int.reducePow, Nat.reducePow, Int.reduceMul, Int.reduceDiv, hlt']
      rfl
    · (repeat (first | exact Fr.refl _ | refine Fr.push ?_ _ | refine Fr.set ?_ _ _ (by intro h; first | omega | (simp only [go_sem] at h; omega))))

/-! ### The check -/
theorem q_check_1 (a : ByteArray) (H : AHeap) : CC F.model_check_1 [.string a] H = some (.bool (decide (40 < (bl a).length)), H) := by
  have e : decide ((40 : Int) < ((bl a).length : Int)) = decide (40 < (bl a).length) := decide_eq_decide.2 (by omega)
  apply pure_of _ (d_model_check_1 _ H) rfl
  rotate_left 2
  · simp (disch := first | with_reducible rfl | assumption | omega | rfl | (simp only [go_sem]; first | done | omega)) only [go_sem, ↓reduceIte, reduceCtorEq, Nat.reduceEqDiff, Nat.reduceAdd, Nat.reduceSub, Nat.reduceMul, Nat.reduceDiv, Nat.reduceMod, Nat.reduceLeDiff, Nat.reduceLT, Nat.reduceBEq, Int.reduceEq, Int.reduceBEq, Int.reduceBNe, Int.reduceLT, Int.reduceLE, Int.reduceAdd, Int.reduceSub, Int.reduceNeg, Int.reduceToNat, Int.reducePow, Nat.reducePow, Int.reduceMul, Int.reduceDiv, ↓s_model_check_1, e]
    rfl
  · (repeat (first | exact Fr.refl _ | refine Fr.push ?_ _ | refine Fr.set ?_ _ _ (by intro h; first | omega | (simp only [go_sem] at h; omega))))
@[go_sem, go_sem ↓] theorem e_check_1 (a : ByteArray) (H : AHeap) {k : Value → AHeap → Res} : enterK CC F.model_check_1 [.string a] H k = k (.bool (decide (40 < (bl a).length))) H := enterK_eq (q_check_1 a H)

def idxLong : List ByteArray → Nat → Int
  | [], _ => -1
  | a :: l, i => if 40 < (bl a).length then i else idxLong l (i + 1)

theorem l_indexS (l : List ByteArray) (v : Value) (H : AHeap) (hr : Rd EStr H v l) (hl : l.length < 4611686018427387904) (K : K) : ∀ (m : List ByteArray) (i : Nat), l.drop i = m → i ≤ l.length →
    l_slices_IndexFunc_string_0 v (.func (.func F.model_check_1) #[] #[]) (.int .i64 l.length) (.int .i64 i) H (blkK [] 0 (seqK (fun _ h2 => K .ret [(4, .int .i64 (-1))] h2) K)) = K .ret [(4, .int .i64 (idxLong m i))] H
  | [], i, hm, hi => by
    have h : l.length ≤ i := List.drop_eq_nil_iff.1 hm
    have hlt : ¬ (i : Int) < (l.length : Int) := by omega
    rw [r_slices_IndexFunc_string_0]
    simp (disch := first | with_reducible rfl | assumption | omega | rfl | (simp only [go_sem]; first | done | omega)) only [go_sem, ↓reduceIte, reduceCtorEq, Nat.reduceEqDiff, Nat.reduceAdd, Nat.reduceSub, Nat.reduceMul, Nat.reduceDiv, Nat.reduceMod, Nat.reduceLeDiff, Nat.reduceLT, Nat.reduceBEq, Int.reduceEq, Int.reduceBEq, Int.reduceBNe, Int.reduceLT, Int.reduceLE, Int.reduceAdd, Int.reduceSub, Int.reduceNeg, Int.reduceToNat, Int.reducePow, Nat.reducePow, Int.reduceMul, Int.reduceDiv, ↓s_slices_IndexFunc_string_b0, hlt, idxLong]
  | a :: m, i, hm, hi => by
    have h : i < l.length := by
      rcases Nat.lt_or_ge i l.length with h | h
      · exact h
      · rw [List.drop_eq_nil_of_le h] at hm; cases hm
    have hlt : (i : Int) < (l.length : Int) := by omega
    have ha : l[i] = a := by rw [List.drop_eq_getElem_cons h] at hm; exact (List.cons.inj hm).1
    have hm' : l.drop (i + 1) = m := by rw [List.drop_eq_getElem_cons h] at hm; exact (List.cons.inj hm).2
    have ih := l_indexS l v H hr hl K m (i + 1) hm' h
    obtain ⟨b, o, hix, hb, hc, _⟩ := hr.ix (q := .i64) h
    rw [ha] at hc
    have hix : ixS 1 v (.int .i64 i) = some (.pointer (some ⟨b, o, none⟩)) := hix
    have hc : cellB (H.f b) o = some (.string a) := cutB_cell hc (i := 0) (by decide)
    rw [Int.natCast_add] at ih
    rw [r_slices_IndexFunc_string_0]
    by_cases he : 40 < (bl a).length
    · have hd : decide (40 < (bl a).length) = true := decide_eq_true he
      rw [idxLong, if_pos he]
      simp (disch := first | with_reducible rfl | assumption | omega | rfl | (simp only [go_sem]; first | done | omega)) only [go_sem, ↓reduceIte, reduceCtorEq, Nat.reduceEqDiff, Nat.reduceAdd, Nat.reduceSub, Nat.reduceMul, Nat.reduceDiv, Nat.reduceMod, Nat.reduceLeDiff, Nat.reduceLT, Nat.reduceBEq, Int.reduceEq, Int.reduceBEq, Int.reduceBNe, Int.reduceLT, Int.reduceLE, Int.reduceAdd, Int.reduceSub, Int.reduceNeg, Int.reduceToNat, Int.reducePow, Nat.reducePow, Int.reduceMul, Int.reduceDiv, ↓s_slices_IndexFunc_string_b0, hlt, hix, hc, c_model_check_1, e_check_1, hd]
    · have hd : decide (40 < (bl a).length) = false := decide_eq_false he
      rw [idxLong, if_neg he]
      simp (disch := first | with_reducible rfl | assumption | omega | rfl | (simp only [go_sem]; first | done | omega)) only [go_sem, ↓reduceIte, reduceCtorEq, Nat.reduceEqDiff, Nat.reduceAdd, Nat.reduceSub, Nat.reduceMul, Nat.reduceDiv, Nat.reduceMod, Nat.reduceLeDiff, Nat.reduceLT, Nat.reduceBEq, Int.reduceEq, Int.reduceBEq, Int.reduceBNe, Int.reduceLT, Int.reduceLE, Int.reduceAdd, Int.reduceSub, Int.reduceNeg, Int.reduceToNat, Int.reducePow, Nat.reducePow, Int.reduceMul, Int.reduceDiv, ↓s_slices_IndexFunc_string_b0, hlt, hix, hc, c_model_check_1, e_check_1, hd]
      exact ih

theorem idxLong_iff : ∀ (l : List ByteArray) (i : Nat), (0 ≤ idxLong l i) = (∃ a, a ∈ l ∧ 40 < (bl a).length)
  | [], i => by simp [idxLong]
  | a :: l, i => by
    rw [idxLong]
    by_cases h : 40 < (bl a).length
    · rw [if_pos h]; simp [h]
    · rw [if_neg h, idxLong_iff l (i + 1)]; simp [h]

/-- The error of a key and values. -/
def chk (key : ByteArray) (vs : List ByteArray) : Int :=
  if bl key = [] then 2 else if 24 < (bl key).length ∨ (vs.any fun a => decide (40 < (bl a).length)) = true then 5 else 0

theorem q_contains (l : List ByteArray) (v : Value) (H : AHeap) (hr : Rd EStr H v l) (hl : l.length < 4611686018427387904) :
    CC F.slices_ContainsFunc_string [v, .func (.func F.model_check_1) #[] #[]] H = some (.bool (l.any fun a => decide (40 < (bl a).length)), H) := by
  have hlen := hr.lenS
  have hix : CC F.slices_IndexFunc_string [v, .func (.func F.model_check_1) #[] #[]] H = some (.int .i64 (idxLong l 0), H) := by
    apply pure_of _ (d_slices_IndexFunc_string _ _ H) rfl
    rotate_left 2
    · simp (disch := first | with_reducible rfl | assumption | omega | rfl | (simp only [go_sem]; first | done | omega)) only [go_sem, ↓reduceIte, reduceCtorEq, Nat.reduceEqDiff, Nat.reduceAdd, Nat.reduceSub, Nat.reduceMul, Nat.reduceDiv, Nat.reduceMod, Nat.reduceLeDiff, Nat.reduceLT, Nat.reduceBEq, Int.reduceEq, Int.reduceBEq, Int.reduceBNe, Int.reduceLT, Int.reduceLE, Int.reduceAdd, Int.reduceSub, Int.reduceNeg, Int.reduceToNat, Int.reducePow, Nat.reducePow, Int.reduceMul, Int.reduceDiv, ↓s_slices_IndexFunc_string, hlen]
      exact l_indexS l v H hr hl (endK Tryd.prog [.tmp 4]) l 0 (by simp) (by omega)
    · (repeat (first | exact Fr.refl _ | refine Fr.push ?_ _ | refine Fr.set ?_ _ _ (by intro h; first | omega | (simp only [go_sem] at h; omega))))
  have e : decide (0 ≤ idxLong l 0) = l.any fun a => decide (40 < (bl a).length) := by
    rw [Bool.eq_iff_iff, decide_eq_true_iff, idxLong_iff, List.any_eq_true]
    simp
  apply pure_of _ (d_slices_ContainsFunc_string _ _ H) rfl
  rotate_left 2
  · simp (disch := first | with_reducible rfl | assumption | omega | rfl | (simp only [go_sem]; first | done | omega)) only [go_sem, ↓reduceIte, reduceCtorEq, Nat.reduceEqDiff, Nat.reduceAdd, Nat.reduceSub, Nat.reduceMul, Nat.reduceDiv, Nat.reduceMod, Nat.reduceLeDiff, Nat.reduceLT, Nat.reduceBEq, Int.reduceEq, Int.reduceBEq, Int.reduceBNe, Int.reduceLT, Int.reduceLE, Int.reduceAdd, Int.reduceSub, Int.reduceNeg, Int.reduceToNat, Int.reducePow, Nat.reducePow, Int.reduceMul, Int.reduceDiv, ↓s_slices_ContainsFunc_string, ↓enterK_eq hix, enterK_eq hix, e]
    rfl
  · (repeat (first | exact Fr.refl _ | refine Fr.push ?_ _ | refine Fr.set ?_ _ _ (by intro h; first | omega | (simp only [go_sem] at h; omega))))

theorem q_check (key : ByteArray) (l : List ByteArray) (v : Value) (H : AHeap) (hr : Rd EStr H v l) (hl : l.length < 4611686018427387904) :
    CC F.model_check [.string key, v] H = some (.int .i64 (chk key l), H) := by
  have hcon := q_contains l v H hr hl
  unfold chk
  by_cases h1 : bl key = []
  · have hd : decide (bl key = []) = true := decide_eq_true h1
    rw [if_pos h1]
    apply pure_of _ (d_model_check _ _ H) rfl
    rotate_left 2
    · simp (disch := first | with_reducible rfl | assumption | omega | rfl | (simp only [go_sem]; first | done | omega)) only [go_sem, ↓reduceIte, reduceCtorEq, Nat.reduceEqDiff, Nat.reduceAdd, Nat.reduceSub, Nat.reduceMul, Nat.reduceDiv, Nat.reduceMod, Nat.reduceLeDiff, Nat.reduceLT, Nat.reduceBEq, Int.reduceEq, Int.reduceBEq, Int.reduceBNe, Int.reduceLT, Int.reduceLE, Int.reduceAdd, Int.reduceSub, Int.reduceNeg, Int.reduceToNat, Int.reducePow, Nat.reducePow, Int.reduceMul, Int.reduceDiv, ↓s_model_check, hd]
      rfl
    · (repeat (first | exact Fr.refl _ | refine Fr.push ?_ _ | refine Fr.set ?_ _ _ (by intro h; first | omega | (simp only [go_sem] at h; omega))))
  · have hd : decide (bl key = []) = false := decide_eq_false h1
    rw [if_neg h1]
    by_cases h2 : 24 < (bl key).length
    · have hd2 : decide ((24 : Int) < ((bl key).length : Int)) = true := decide_eq_true (by omega)
      rw [if_pos (.inl h2)]
      apply pure_of _ (d_model_check _ _ H) rfl
      rotate_left 2
      · simp (disch := first | with_reducible rfl | assumption | omega | rfl | (simp only [go_sem]; first | done | omega)) only [go_sem, ↓reduceIte, reduceCtorEq, Nat.reduceEqDiff, Nat.reduceAdd, Nat.reduceSub, Nat.reduceMul, Nat.reduceDiv, Nat.reduceMod, Nat.reduceLeDiff, Nat.reduceLT, Nat.reduceBEq, Int.reduceEq, Int.reduceBEq, Int.reduceBNe, Int.reduceLT, Int.reduceLE, Int.reduceAdd, Int.reduceSub, Int.reduceNeg, Int.reduceToNat, Int.reducePow, Nat.reducePow, Int.reduceMul, Int.reduceDiv, ↓s_model_check, hd, hd2]
        rfl
      · (repeat (first | exact Fr.refl _ | refine Fr.push ?_ _ | refine Fr.set ?_ _ _ (by intro h; first | omega | (simp only [go_sem] at h; omega))))
    · have hd2 : decide ((24 : Int) < ((bl key).length : Int)) = false := decide_eq_false (by omega)
      cases hany : l.any fun a => decide (40 < (bl a).length) with
      | true =>
        rw [hany] at hcon
        rw [if_pos (.inr rfl)]
        apply pure_of _ (d_model_check _ _ H) rfl
        rotate_left 2
        · simp (disch := first | with_reducible rfl | assumption | omega | rfl | (simp only [go_sem]; first | done | omega)) only [go_sem, ↓reduceIte, reduceCtorEq, Nat.reduceEqDiff, Nat.reduceAdd, Nat.reduceSub, Nat.reduceMul, Nat.reduceDiv, Nat.reduceMod, Nat.reduceLeDiff, Nat.reduceLT, Nat.reduceBEq, Int.reduceEq, Int.reduceBEq, Int.reduceBNe, Int.reduceLT, Int.reduceLE, Int.reduceAdd, Int.reduceSub, Int.reduceNeg, Int.reduceToNat, Int.reducePow, Nat.reducePow, Int.reduceMul, Int.reduceDiv, ↓s_model_check, hd, hd2, ↓enterK_eq hcon, enterK_eq hcon]
          rfl
        · (repeat (first | exact Fr.refl _ | refine Fr.push ?_ _ | refine Fr.set ?_ _ _ (by intro h; first | omega | (simp only [go_sem] at h; omega))))
      | false =>
        rw [hany] at hcon
        rw [if_neg (by simp; omega)]
        apply pure_of _ (d_model_check _ _ H) rfl
        rotate_left 2
        · simp (disch := first | with_reducible rfl | assumption | omega | rfl | (simp only [go_sem]; first | done | omega)) only [go_sem, ↓reduceIte, reduceCtorEq, Nat.reduceEqDiff, Nat.reduceAdd, Nat.reduceSub, Nat.reduceMul, Nat.reduceDiv, Nat.reduceMod, Nat.reduceLeDiff, Nat.reduceLT, Nat.reduceBEq, Int.reduceEq, Int.reduceBEq, Int.reduceBNe, Int.reduceLT, Int.reduceLE, Int.reduceAdd, Int.reduceSub, Int.reduceNeg, Int.reduceToNat, Int.reducePow, Nat.reducePow, Int.reduceMul, Int.reduceDiv, ↓s_model_check, hd, hd2, ↓enterK_eq hcon, enterK_eq hcon]
          rfl
        · (repeat (first | exact Fr.refl _ | refine Fr.push ?_ _ | refine Fr.set ?_ _ _ (by intro h; first | omega | (simp only [go_sem] at h; omega))))

/-! ### The map -/
def MdlT (t : TypeId) (H : AHeap) (b : Nat) (l : List Pr) : Prop := ∃ v, H.f b = .cells [v] t true ∧ b < H.n ∧ Own EPr H T.api_Pair v l ∧ blockOf v ≠ some b
abbrev Mdl := MdlT T.model_Model

theorem MdlT.keep {t : TypeId} {H H' : AHeap} {S : Nat → Prop} {b : Nat} {l : List Pr} (r : MdlT t H b l) (h : Fr S H H') (hb : ¬ S b) (hv : ∀ v, H.f b = .cells [v] t true → Off S v) : MdlT t H' b l := by
  obtain ⟨v, h1, h2, h3, h4⟩ := r
  exact ⟨v, by rw [h.f h2 hb]; exact h1, Nat.lt_of_lt_of_le h2 h.n, h3.keep h (hv v h1), h4⟩
theorem MdlT.still {t : TypeId} {H H' : AHeap} {b : Nat} {l : List Pr} (r : MdlT t H b l) (h : Still H H') : MdlT t H' b l := r.keep h (fun h => h) fun _ _ _ _ h => h

def Ok (H : AHeap) : Prop := ∀ b, H.ver b < H.clk
theorem Ok.fr {S : Nat → Prop} {H H' : AHeap} (h : Ok H) (f : Fr S H H') : Ok H' := f.ok h
theorem H0_ok : Ok H0 := fun _ => Nat.zero_lt_one

/-- The blocks of a map. -/
def MBT (t : TypeId) (H : AHeap) (b : Nat) : Nat → Prop := fun c => c = b ∨ ∃ v, H.f b = .cells [v] t true ∧ blockOf v = some c
abbrev MB := MBT T.model_Model

theorem q_place (b : Nat) (l : List Pr) (key : ByteArray) (H : AHeap) (r : Mdl H b l) (hl : l.length < 1152921504606846976) (p : Nat) (hp : PosP l key p) :
    CC F.model_Model_place [.pointer (some ⟨b, 0, none⟩), .string key] H = some (.tuple #[.int .i64 p, .bool (isP l key p)], H) := by
  obtain ⟨v, h1, h2, h3, h4⟩ := r
  have hbs := q_bsP l v key H h3.rd hl p hp
  apply pure_of _ (d_model_Model_place _ _ H) rfl
  rotate_left 2
  · simp (disch := first | with_reducible rfl | assumption | omega | rfl | (simp only [go_sem]; first | done | omega)) only [go_sem, ↓reduceIte, reduceCtorEq, Nat.reduceEqDiff, Nat.reduceAdd, Nat.reduceSub, Nat.reduceMul, Nat.reduceDiv, Nat.reduceMod, Nat.reduceLeDiff, Nat.reduceLT, Nat.reduceBEq, Int.reduceEq, Int.reduceBEq, Int.reduceBNe, Int.reduceLT, Int.reduceLE, Int.reduceAdd, Int.reduceSub, Int.reduceNeg, Int.reduceToNat, Int.reducePow, Nat.reducePow, Int.reduceMul, Int.reduceDiv, ↓s_model_Model_place, h1, ↓enterK_eq hbs, enterK_eq hbs]
    rfl
  · (repeat (first | exact Fr.refl _ | refine Fr.push ?_ _ | refine Fr.set ?_ _ _ (by intro h; first | omega | (simp only [go_sem] at h; omega))))

theorem q_at_bad (b : Nat) (key : ByteArray) (vs : List ByteArray) (v : Value) (H : AHeap) (hv : Rd EStr H v vs) (hvl : vs.length < 4611686018427387904) (hc : chk key vs ≠ 0) :
    CC F.model_Model_at [.pointer (some ⟨b, 0, none⟩), .string key, v] H = some (.tuple #[.int .i64 0, .bool false, .int .i64 (chk key vs)], H) := by
  have hck := q_check key vs v H hv hvl
  generalize chk key vs = e at hck hc
  apply pure_of _ (d_model_Model_at _ _ _ H) rfl
  rotate_left 2
  · simp (disch := first | with_reducible rfl | assumption | omega | rfl | (simp only [go_sem]; first | done | omega)) only [go_sem, ↓reduceIte, reduceCtorEq, Nat.reduceEqDiff, Nat.reduceAdd, Nat.reduceSub, Nat.reduceMul, Nat.reduceDiv, Nat.reduceMod, Nat.reduceLeDiff, Nat.reduceLT, Nat.reduceBEq, Int.reduceEq, Int.reduceBEq, Int.reduceBNe, Int.reduceLT, Int.reduceLE, Int.reduceAdd, Int.reduceSub, Int.reduceNeg, Int.reduceToNat, Int.reducePow, Nat.reducePow, Int.reduceMul, Int.reduceDiv, ↓s_model_Model_at, mp_some, ↓enterK_eq hck, enterK_eq hck, hc]
    rfl
  · (repeat (first | exact Fr.refl _ | refine Fr.push ?_ _ | refine Fr.set ?_ _ _ (by intro h; first | omega | (simp only [go_sem] at h; omega))))

theorem q_at (b : Nat) (l : List Pr) (key : ByteArray) (vs : List ByteArray) (v : Value) (H : AHeap) (r : Mdl H b l) (hl : l.length < 1152921504606846976) (p : Nat) (hp : PosP l key p) (hv : Rd EStr H v vs) (hvl : vs.length < 4611686018427387904) (hc : chk key vs = 0) :
    CC F.model_Model_at [.pointer (some ⟨b, 0, none⟩), .string key, v] H = some (.tuple #[.int .i64 p, .bool (isP l key p), .int .i64 0], H) := by
  have hck := q_check key vs v H hv hvl
  rw [hc] at hck
  have hpl := q_place b l key H r hl p hp
  apply pure_of _ (d_model_Model_at _ _ _ H) rfl
  rotate_left 2
  · simp (disch := first | with_reducible rfl | assumption | omega | rfl | (simp only [go_sem]; first | done | omega)) only [go_sem, ↓reduceIte, reduceCtorEq, Nat.reduceEqDiff, Nat.reduceAdd, Nat.reduceSub, Nat.reduceMul, Nat.reduceDiv, Nat.reduceMod, Nat.reduceLeDiff, Nat.reduceLT, Nat.reduceBEq, Int.reduceEq, Int.reduceBEq, Int.reduceBNe, Int.reduceLT, Int.reduceLE, Int.reduceAdd, Int.reduceSub, Int.reduceNeg, Int.reduceToNat, Int.reducePow, Nat.reducePow, Int.reduceMul, Int.reduceDiv, ↓s_model_Model_at, mp_some, ↓enterK_eq hck, enterK_eq hck, c_model_Model_place, ↓enterK_eq hpl, enterK_eq hpl]
    rfl
  · (repeat (first | exact Fr.refl _ | refine Fr.push ?_ _ | refine Fr.set ?_ _ _ (by intro h; first | omega | (simp only [go_sem] at h; omega))))

def getP (l : List Pr) (key : ByteArray) (p : Nat) : Value := if isP l key p = true then .tuple #[.string ((l[p]?).elim (mk []) Pr.value), .int .i64 0] else .tuple #[.string (mk []), .int .i64 9]
theorem q_Get_bad (b : Nat) (key : ByteArray) (H : AHeap) (hc : chk key [] ≠ 0) : CC F.model_Model_Get [.pointer (some ⟨b, 0, none⟩), .string key] H = some (.tuple #[.string (mk []), .int .i64 (chk key [])], H) := by
  have hat := q_at_bad b key [] (.slice none 0 0) H (.inl ⟨rfl, rfl⟩) (by simp) hc
  generalize chk key [] = e at hat hc
  apply pure_of _ (d_model_Model_Get _ _ H) rfl
  rotate_left 2
  · simp (disch := first | with_reducible rfl | assumption | omega | rfl | (simp only [go_sem]; first | done | omega)) only [go_sem, ↓reduceIte, reduceCtorEq, Nat.reduceEqDiff, Nat.reduceAdd, Nat.reduceSub, Nat.reduceMul, Nat.reduceDiv, Nat.reduceMod, Nat.reduceLeDiff, Nat.reduceLT, Nat.reduceBEq, Int.reduceEq, Int.reduceBEq, Int.reduceBNe, Int.reduceLT, Int.reduceLE, Int.reduceAdd, Int.reduceSub, Int.reduceNeg, Int.reduceToNat, Int.reducePow, Nat.reducePow, Int.reduceMul, Int.reduceDiv, ↓s_model_Model_Get, ↓enterK_eq hat, enterK_eq hat, hc]
    rfl
  · (repeat (first | exact Fr.refl _ | refine Fr.push ?_ _ | refine Fr.set ?_ _ _ (by intro h; first | omega | (simp only [go_sem] at h; omega))))

/-- What is gotten: the value and the error. -/

theorem q_Get (b : Nat) (l : List Pr) (key : ByteArray) (H : AHeap) (r : Mdl H b l) (hl : l.length < 1152921504606846976) (p : Nat) (hp : PosP l key p) (hc : chk key [] = 0) :
    CC F.model_Model_Get [.pointer (some ⟨b, 0, none⟩), .string key] H = some (getP l key p, H) := by
  have hat := q_at b l key [] (.slice none 0 0) H r hl p hp (.inl ⟨rfl, rfl⟩) (by simp) hc
  obtain ⟨v, h1, h2, h3, h4⟩ := r
  unfold getP
  cases his : isP l key p with
  | false =>
    rw [his] at hat
    simp only [Bool.false_eq_true, if_false]
    apply pure_of _ (d_model_Model_Get _ _ H) rfl
    rotate_left 2
    · simp (disch := first | with_reducible rfl | assumption | omega | rfl | (simp only [go_sem]; first | done | omega)) only [go_sem, ↓reduceIte, reduceCtorEq, Nat.reduceEqDiff, Nat.reduceAdd, Nat.reduceSub, Nat.reduceMul, Nat.reduceDiv, Nat.reduceMod, Nat.reduceLeDiff, Nat.reduceLT, Nat.reduceBEq, Int.reduceEq, Int.reduceBEq, Int.reduceBNe, Int.reduceLT, Int.reduceLE, Int.reduceAdd, Int.reduceSub, Int.reduceNeg, Int.reduceToNat, Int.reducePow, Nat.reducePow, Int.reduceMul, Int.reduceDiv, ↓s_model_Model_Get, ↓enterK_eq hat, enterK_eq hat]
      rfl
    · (repeat (first | exact Fr.refl _ | refine Fr.push ?_ _ | refine Fr.set ?_ _ _ (by intro h; first | omega | (simp only [go_sem] at h; omega))))
  | true =>
    rw [his] at hat
    have hlt : p < l.length := by
      rcases Nat.lt_or_ge p l.length with h | h
      · exact h
      · unfold isP at his; rw [List.getElem?_eq_none h] at his; cases his
    obtain ⟨bb, o, hix, hb, hcc, _⟩ := h3.rd.ix (q := .i64) hlt
    have hix : ixS 2 v (.int .i64 p) = some (.pointer (some ⟨bb, o, none⟩)) := hix
    have hcc : cellB (H.f bb) (o + 1) = some (.string l[p].value) := cutB_cell hcc (i := 1) (by decide)
    simp only [if_true, List.getElem?_eq_getElem hlt, Option.elim]
    apply pure_of _ (d_model_Model_Get _ _ H) rfl
    rotate_left 2
    · simp (disch := first | with_reducible rfl | assumption | omega | rfl | (simp only [go_sem]; first | done | omega)) only [go_sem, ↓reduceIte, reduceCtorEq, Nat.reduceEqDiff, Nat.reduceAdd, Nat.reduceSub, Nat.reduceMul, Nat.reduceDiv, Nat.reduceMod, Nat.reduceLeDiff, Nat.reduceLT, Nat.reduceBEq, Int.reduceEq, Int.reduceBEq, Int.reduceBNe, Int.reduceLT, Int.reduceLE, Int.reduceAdd, Int.reduceSub, Int.reduceNeg, Int.reduceToNat, Int.reducePow, Nat.reducePow, Int.reduceMul, Int.reduceDiv, ↓s_model_Model_Get, ↓enterK_eq hat, enterK_eq hat, h1, hix, hcc]
      rfl
    · (repeat (first | exact Fr.refl _ | refine Fr.push ?_ _ | refine Fr.set ?_ _ _ (by intro h; first | omega | (simp only [go_sem] at h; omega))))

end Go.Proofs.YtlkgfbcencoahaaDoor

/-
  The plain map: set, Put, Insert, Delete, Swap.
  Conditions: none. By an AI agent.
-/
set_option maxRecDepth 10000
set_option linter.unusedSimpArgs false
set_option linter.unusedVariables false
namespace Go.Proofs.YtlkgfbcencoahaaDoor
open Go Eng

theorem srcOne {a : Pr} {b : Nat} {H : AHeap} (h : H.f b = .cells [.string a.key, .string a.value] T.api_Pair true) : srcS 2 (.slice (some ⟨b, 0, none⟩) 1 2) H = some ([a].length, EPr.cells [a]) := by
  unfold srcS
  simp only [cut_b, h, Nat.one_ne_zero, if_false]
  rfl

/-- Writing an element of a list of its own. -/
theorem Own.write {l : List Pr} {v : Value} {H : AHeap} (r : Own EPr H T.api_Pair v l) {i : Nat} (hi : i < l.length) (a : Pr) :
    ∃ b o H', ixS 2 v (.int .i64 (i : Int)) = some (.pointer (some ⟨b, o, none⟩)) ∧ setB H b (wrL (H.f b) o [.string a.key, .string a.value]) = some H' ∧ Own EPr H' T.api_Pair v (l.set i a) ∧ blockOf v = some b ∧ b < H.n ∧
      H'.n = H.n ∧ Fr (fun c => c = b) H H' ∧ H'.ver b = H.clk := by
  rcases r with ⟨h, _⟩ | ⟨h, _⟩ | ⟨b, o, c, xs, rfl, hlc, hb, hf, ho, hx⟩
  · subst h; simp at hi
  · subst h; simp at hi
  · have hw : EPr.w = 2 := rfl
    rw [hw] at ho hx
    have hmul : l.length * 2 ≤ c * 2 := Nat.mul_le_mul_right _ hlc
    refine ⟨b, o + i * 2, H.set b (.cells (spl xs (o + i * 2) [.string a.key, .string a.value]) T.api_Pair true), ixS_nat hi, ?_, ?_, rfl, hb, rfl, Fr.set (Fr.refl H) _ _ fun _ => rfl, set_v_eq⟩
    · rw [hf, wrL_c (by simp; omega) rfl, setB_s]
    · refine .inr (.inr ⟨b, o, c, _, by simp, by simpa using hlc, by simpa using hb, set_f_eq, by rw [spl_length, hw, ho], ?_⟩)
      rw [List.length_set, hw]
      apply List.ext_getElem?
      intro j
      have hcell : ∀ (l : List Pr) (k m : Nat), m < 2 → (EPr.cells l)[k * 2 + m]? = (l[k]?).bind fun a => (EPr.enc a)[m]? := by
        intro l k m hm
        by_cases hk : k < l.length
        · have := EPr.cells_elem l k hk
          rw [hw] at this
          rw [List.getElem?_eq_getElem hk, Option.bind_some, ← this, List.getElem?_take_of_lt hm, List.getElem?_drop]
        · rw [List.getElem?_eq_none (by rw [EPr.cells_len, hw]; omega), List.getElem?_eq_none (by omega)]
          rfl
      by_cases hj : j < l.length * 2
      · rw [List.getElem?_take_of_lt hj, List.getElem?_drop, spl_get _ _ _ _ (by simp; omega)]
        have hdm : j = (j / 2) * 2 + j % 2 := by omega
        rw [hdm, hcell _ _ _ (by omega)]
        have hold : xs[o + j]? = (l[j / 2]?).bind fun a => (EPr.enc a)[j % 2]? := by
          rw [← hcell _ _ _ (by omega), ← hdm, ← hx, List.getElem?_take_of_lt hj, List.getElem?_drop]
        by_cases h1 : j / 2 = i
        · rw [if_pos (by simp; omega), ← h1, List.getElem?_set_self (by omega), Option.bind_some]
          rw [show o + (j / 2 * 2 + j % 2) - (o + j / 2 * 2) = j % 2 by omega]
          rfl
        · rw [if_neg (by simp; omega), List.getElem?_set_ne (by omega), ← hdm, hold]
      · rw [List.getElem?_eq_none (by simp only [List.length_take]; omega), List.getElem?_eq_none (by rw [EPr.cells_len, List.length_set, hw]; omega)]

/-- What a call may turn that works on a map: the map's blocks; and it has new ones at most. -/
structure UpT (t : TypeId) (H : AHeap) (b : Nat) (H' : AHeap) : Prop where
  fr : Fr (MBT t H b) H H'
  mb : ∀ c, MBT t H' b c → MBT t H b c ∨ H.n ≤ c
abbrev Up := UpT T.model_Model
theorem UpT.refl {t : TypeId} (H : AHeap) (b : Nat) : UpT t H b H := ⟨Fr.refl H, fun _ h => .inl h⟩
theorem Up.refl (H : AHeap) (b : Nat) : Up H b H := UpT.refl H b
/-- From the map's cell before and behind. -/
theorem UpT.of {t : TypeId} {H H' : AHeap} {b : Nat} {v v' : Value} (h1 : H.f b = .cells [v] t true) (f : Fr (MBT t H b) H H') (h2 : H'.f b = .cells [v'] t true) (h : ∀ c, blockOf v' = some c → blockOf v = some c ∨ H.n ≤ c) : UpT t H b H' := by
  refine ⟨f, fun c hc => ?_⟩
  rcases hc with hc | ⟨u, hu, hb⟩
  · exact .inl (.inl hc)
  · rw [h2] at hu
    cases hu
    exact (h c hb).imp (fun h => .inr ⟨v, h1, h⟩) id

/-- set, where the key is there. -/
theorem q_set_is (b : Nat) (l : List Pr) (i : Nat) (a : Pr) (H : AHeap) (ok : Ok H) (r : Mdl H b l) (hi : i < l.length) :
    ∃ H', CC F.model_Model_set [.pointer (some ⟨b, 0, none⟩), .int .i64 (i : Int), .bool true, .agg #[.string a.key, .string a.value]] H = some (.int .i64 0, H') ∧ Mdl H' b (l.set i a) ∧ Up H b H' := by
  obtain ⟨v, h1, h2, h3, h4⟩ := r
  let H1 : AHeap := H.push (.cells [.string a.key, .string a.value] T.api_Pair true)
  have s1 : Still H H1 := (Fr.refl H).push _
  have o1 : Own EPr H1 T.api_Pair v l := h3.still s1
  obtain ⟨bb, o, H2, hix, hw, o2, hbv, hb, hn2, hf2, hv2⟩ := Own.write o1 hi a
  have hbn : bb < H.n := h3.blk hbv
  have fbb : H1.f bb = H.f bb := s1.f hbn (fun h => h)
  have hw : setB (H.push (.cells [.string a.key, .string a.value] T.api_Pair true)) bb (wrL (H.f bb) o [.string a.key, .string a.value]) = some H2 := by rw [← fbb]; exact hw
  have hne : b ≠ bb := fun h => h4 (by rw [h]; exact hbv)
  have hfr : Fr (MB H b) H H2 := Fr.then (S := MB H b) s1.still hf2 fun c _ h => by subst h; exact .inr ⟨v, h1, hbv⟩
  have hfb : H2.f b = .cells [v] T.model_Model true := by rw [hf2.f (Nat.lt_of_lt_of_le h2 s1.n) hne, s1.f h2 (fun h => h), h1]
  refine ⟨H2, (d_model_Model_set _ _ _ _ H (r := (.int .i64 0, H2)) ?_).trans (congrArg some (tidy_turned hbn (ok bb) ?_)), ⟨v, hfb, by rw [hn2]; exact Nat.lt_of_lt_of_le h2 s1.n, o2, h4⟩, UpT.of h1 hfr hfb fun c h => .inl h⟩
  · simp (disch := first | with_reducible rfl | assumption | omega | rfl | (simp only [go_sem]; first | done | omega)) only [go_sem, ↓reduceIte, reduceCtorEq, Nat.reduceEqDiff, Nat.reduceAdd, Nat.reduceSub, Nat.reduceMul, Nat.reduceDiv, Nat.reduceMod, Nat.reduceLeDiff, Nat.reduceLT, Nat.reduceBEq, Int.reduceEq, Int.reduceBEq, Int.reduceBNe, Int.reduceLT, Int.reduceLE, Int.reduceAdd, Int.reduceSub, Int.reduceNeg, Int.reduceToNat, Int.reducePow, Nat.reducePow, Int.reduceMul, Int.reduceDiv, ↓s_model_Model_set, h1, hix, hw]
  · rw [hv2]; exact s1.clk

/-- set, where there is no room. -/
theorem q_set_full (b : Nat) (l : List Pr) (i : Nat) (a : Pr) (H : AHeap) (r : Mdl H b l) (hl : l.length = 20000) :
    CC F.model_Model_set [.pointer (some ⟨b, 0, none⟩), .int .i64 (i : Int), .bool false, .agg #[.string a.key, .string a.value]] H = some (.int .i64 7, H) := by
  obtain ⟨v, h1, h2, h3, h4⟩ := r
  have hlen := h3.rd.lenS
  have he : (l.length : Int) = 20000 := by omega
  rw [he] at hlen
  apply pure_of _ (d_model_Model_set _ _ _ _ H) rfl
  rotate_left 2
  · simp (disch := first | with_reducible rfl | assumption | omega | rfl | (simp only [go_sem]; first | done | omega)) only [go_sem, ↓reduceIte, reduceCtorEq, Nat.reduceEqDiff, Nat.reduceAdd, Nat.reduceSub, Nat.reduceMul, Nat.reduceDiv, Nat.reduceMod, Nat.reduceLeDiff, Nat.reduceLT, Nat.reduceBEq, Int.reduceEq, Int.reduceBEq, Int.reduceBNe, Int.reduceLT, Int.reduceLE, Int.reduceAdd, Int.reduceSub, Int.reduceNeg, Int.reduceToNat, Int.reducePow, Nat.reducePow, Int.reduceMul, Int.reduceDiv, ↓s_model_Model_set, h1, hlen]
    rfl
  · (repeat (first | exact Fr.refl _ | refine Fr.push ?_ _ | refine Fr.set ?_ _ _ (by intro h; first | omega | (simp only [go_sem] at h; omega))))

/-- set, where the key is not there. -/
theorem q_set_new (b : Nat) (l : List Pr) (i : Nat) (a : Pr) (H : AHeap) (ok : Ok H) (r : Mdl H b l) (hi : i ≤ l.length) (hl : l.length < 20000) :
    ∃ H', CC F.model_Model_set [.pointer (some ⟨b, 0, none⟩), .int .i64 (i : Int), .bool false, .agg #[.string a.key, .string a.value]] H = some (.int .i64 0, H') ∧ Mdl H' b (l.take i ++ a :: l.drop i) ∧ Up H b H' := by
  obtain ⟨v, h1, h2, h3, h4⟩ := r
  have hlen := h3.rd.lenS
  have hne : ¬ (l.length : Int) = 20000 := by omega
  generalize hH1 : H.push (.cells [.string a.key, .string a.value] T.api_Pair true) = H1
  have s1 : Still H H1 := by rw [← hH1]; exact (Fr.refl H).push _
  have n1 : H1.n = H.n + 1 := by rw [← hH1]; rfl
  have f1 : H1.f H.n = .cells [.string a.key, .string a.value] T.api_Pair true := by rw [← hH1]; exact push_f_eq rfl
  have fb1 : H1.f b = .cells [v] T.model_Model true := by rw [s1.f h2 (fun h => h), h1]
  generalize hH2 : H1.push (.cells [.string a.key, .string a.value] T.api_Pair true) = H2
  have s2 : Still H1 H2 := by rw [← hH2]; exact (Fr.refl H1).push _
  have n2 : H2.n = H1.n + 1 := by rw [← hH2]; rfl
  have f2 : H2.f H1.n = .cells [.string a.key, .string a.value] T.api_Pair true := by rw [← hH2]; exact push_f_eq rfl
  have fb2 : H2.f b = .cells [v] T.model_Model true := by rw [s2.f (by omega) (fun h => h), fb1]
  have hnb : ∀ c, blockOf v = some c → c < H.n := fun c h => h3.blk h
  obtain ⟨v6, H4, hins, ho6, fr4, hb6⟩ := q_insert_Pair l v a H1.n i H2 ((h3.still s1).still s2) (by omega) hi (by omega) f2 (fun h => by have := hnb _ h; omega)
  have hone6 : one v6 = true := ho6.cell
  have fb4 : H4.f b = .cells [v] T.model_Model true := by rw [fr4.f (by omega) h4, fb2]
  have n4 : H2.n ≤ H4.n := fr4.n
  generalize hH5 : H4.set b (.cells [v6] T.model_Model true) = H5
  have f5 : Fr (MB H b) H H5 := by
    rw [← hH5]
    refine Fr.set ?_ b _ (fun _ => .inl rfl)
    refine (s1.then s2 fun _ _ h => h).still.then (S := MB H b) fr4 fun c hc h => .inr ⟨v, h1, h⟩
  have hup : Up H b H5 := UpT.of h1 f5 (v' := v6) (by rw [← hH5]; exact set_f_eq) fun c hc => by
    rcases hb6 with h | ⟨x, h, hx⟩
    · exact .inl (by rw [← h]; exact hc)
    · rw [h] at hc; cases hc; exact .inr (by omega)
  refine ⟨H5, (d_model_Model_set _ _ _ _ H (r := (.int .i64 0, H5)) ?_).trans (congrArg some (tidy_turned h2 (ok b) ?_)), ?_, hup⟩
  · simp (disch := first | with_reducible rfl | assumption | omega | rfl | (simp only [go_sem]; first | done | omega)) only [go_sem, ↓reduceIte, reduceCtorEq, Nat.reduceEqDiff, Nat.reduceAdd, Nat.reduceSub, Nat.reduceMul, Nat.reduceDiv, Nat.reduceMod, Nat.reduceLeDiff, Nat.reduceLT, Nat.reduceBEq, Int.reduceEq, Int.reduceBEq, Int.reduceBNe, Int.reduceLT, Int.reduceLE, Int.reduceAdd, Int.reduceSub, Int.reduceNeg, Int.reduceToNat, Int.reducePow, Nat.reducePow, Int.reduceMul, Int.reduceDiv, ↓s_model_Model_set, hH1, fb1, f1, hlen, hne, hH2, ↓enterK_eq hins, enterK_eq hins, fb4, hH5]
  · rw [← hH5, set_v_eq]
    exact Nat.le_trans s1.clk (Nat.le_trans s2.clk fr4.clk)
  · have hb6' : blockOf v6 ≠ some b := by
      rcases hb6 with h | ⟨x, h, hx⟩
      · rw [h]; exact h4
      · rw [h]; intro h; cases h; omega
    refine ⟨v6, by rw [← hH5]; exact set_f_eq, by rw [← hH5]; simp; omega, ?_, hb6'⟩
    rw [← hH5]
    exact ho6.keep (S := fun x => x = b) (Fr.set (Fr.refl H4) b _ fun _ => rfl) fun c hc h => hb6' (h ▸ hc)

/-- The block of a new value: nothing of the map. -/
theorem rdOne (a : ByteArray) (H : AHeap) : Rd EStr (H.push (.cells [.string a] T.string true)) (.slice (some ⟨H.n, 0, none⟩) 1 2) [a] := by
  refine .inr (.inr ⟨H.n, 0, 2, rfl, by simp, by simp, ?_⟩)
  rw [push_f_eq rfl]
  rfl

theorem MB_still {t : TypeId} {H H1 : AHeap} {b : Nat} {v : Value} (h1 : H.f b = .cells [v] t true) (h2 : b < H.n) (s : Still H H1) : ∀ c, c < H.n → MBT t H1 b c → MBT t H b c := by
  intro c hc h
  rcases h with h | ⟨u, hu, hb⟩
  · exact .inl h
  · rw [s.f h2 (fun h => h)] at hu
    exact .inr ⟨u, hu, hb⟩

/-- What Put makes of a map: the error and the map. -/
def putP (l : List Pr) (a : Pr) (p : Nat) : Int × List Pr :=
  if isP l a.key p = true then (0, l.set p a) else if l.length = 20000 then (7, l) else (0, l.take p ++ a :: l.drop p)

theorem isP_lt {l : List Pr} {key : ByteArray} {p : Nat} (h : isP l key p = true) : p < l.length := by
  rcases Nat.lt_or_ge p l.length with h' | h'
  · exact h'
  · unfold isP at h; rw [List.getElem?_eq_none h'] at h; cases h

theorem q_set (b : Nat) (l : List Pr) (a : Pr) (p : Nat) (H : AHeap) (ok : Ok H) (r : Mdl H b l) (hp : p ≤ l.length) (hl : l.length ≤ 20000) :
    ∃ H', CC F.model_Model_set [.pointer (some ⟨b, 0, none⟩), .int .i64 (p : Int), .bool (isP l a.key p), .agg #[.string a.key, .string a.value]] H = some (.int .i64 (putP l a p).1, H') ∧ Mdl H' b (putP l a p).2 ∧ Up H b H' := by
  unfold putP
  cases his : isP l a.key p with
  | true => exact q_set_is b l p a H ok r (isP_lt his)
  | false =>
    simp only [Bool.false_eq_true, if_false]
    by_cases hf : l.length = 20000
    · rw [if_pos hf]; exact ⟨H, q_set_full b l p a H r hf, r, Up.refl H b⟩
    · rw [if_neg hf]; exact q_set_new b l p a H ok r hp (by omega)

theorem q_Put_bad (b : Nat) (l : List Pr) (a : Pr) (H : AHeap) (r : Mdl H b l) (hc : chk a.key [a.value] ≠ 0) :
    CC F.model_Model_Put [.pointer (some ⟨b, 0, none⟩), .string a.key, .string a.value] H = some (.int .i64 (chk a.key [a.value]), H) := by
  have hat := q_at_bad b a.key [a.value] _ _ (rdOne a.value H) (by simp) hc
  generalize chk a.key [a.value] = e at hat hc
  apply pure_of _ (d_model_Model_Put _ _ _ H) rfl
  rotate_left 2
  · simp (disch := first | with_reducible rfl | assumption | omega | rfl | (simp only [go_sem]; first | done | omega)) only [go_sem, ↓reduceIte, reduceCtorEq, Nat.reduceEqDiff, Nat.reduceAdd, Nat.reduceSub, Nat.reduceMul, Nat.reduceDiv, Nat.reduceMod, Nat.reduceLeDiff, Nat.reduceLT, Nat.reduceBEq, Int.reduceEq, Int.reduceBEq, Int.reduceBNe, Int.reduceLT, Int.reduceLE, Int.reduceAdd, Int.reduceSub, Int.reduceNeg, Int.reduceToNat, Int.reducePow, Nat.reducePow, Int.reduceMul, Int.reduceDiv, ↓s_model_Model_Put, ↓enterK_eq hat, enterK_eq hat, hc]
    rfl
  · (repeat (first | exact Fr.refl _ | refine Fr.push ?_ _ | refine Fr.set ?_ _ _ (by intro h; first | omega | (simp only [go_sem] at h; omega))))

/-- A call that turns the map, behind a new block. -/
theorem after_push {t : TypeId} {H H1 H' : AHeap} {b : Nat} {l : List Pr} (r : MdlT t H b l) (s : Still H H1) (f : UpT t H1 b H') : UpT t H b H' := by
  obtain ⟨v, h1, h2, h3, h4⟩ := r
  refine ⟨s.still.then (S := MBT t H b) f.fr fun c hc h => MB_still h1 h2 s c hc h, fun c hc => ?_⟩
  rcases f.mb c hc with h | h
  · rcases Nat.lt_or_ge c H.n with h' | h'
    · exact .inl (MB_still h1 h2 s c h' h)
    · exact .inr h'
  · exact .inr (Nat.le_trans s.n h)

/-- What is told of a map behind a call that may have turned it: where the call is forgotten, nothing was. -/
theorem Mdl.tidied {t : TypeId} {H H' : AHeap} {b : Nat} {l l' : List Pr} {v : Value} (ok : Ok H) (r : MdlT t H b l) (hm : MdlT t H' b l') (hfr : UpT t H b H') : ∃ H'', tidy H (v, H') = (v, H'') ∧ MdlT t H'' b l' ∧ UpT t H b H'' := by
  unfold tidy
  split
  · rename_i hg
    simp only [Bool.and_eq_true] at hg
    refine ⟨H, rfl, ?_, UpT.refl H b⟩
    obtain ⟨v, h1, h2, h3, h4⟩ := r
    obtain ⟨v', h1', h2', h3', h4'⟩ := hm
    have hsame : ∀ c, c < H.n → H'.f c = H.f c := by
      intro c hc
      rcases hfr.fr.old c hc with h | ⟨h, _⟩
      · exact h.2
      · have := List.all_eq_true.1 hg.2 c (by simpa using hc)
        have := ok c
        simp at *
        omega
    rw [hsame b h2, h1] at h1'
    cases h1'
    refine ⟨v, h1, h2, ?_, h4⟩
    rcases h3' with h | ⟨hl, x, hv, hs, hb⟩ | ⟨bb, o, c, xs, hv, hlc, hb, hff, ho, hx⟩
    · exact .inl h
    · exact .inr (.inl ⟨hl, x, hv, hs, h3.blk (by rw [hv]; rfl)⟩)
    · have hbb : bb < H.n := h3.blk (by rw [hv]; rfl)
      exact .inr (.inr ⟨bb, o, c, xs, hv, hlc, hbb, by rw [← hsame bb hbb]; exact hff, ho, hx⟩)
  · exact ⟨H', rfl, hm, hfr⟩

theorem q_Put (b : Nat) (l : List Pr) (a : Pr) (H : AHeap) (ok : Ok H) (r : Mdl H b l) (hl : l.length ≤ 20000) (p : Nat) (hp : PosP l a.key p) (hc : chk a.key [a.value] = 0) :
    ∃ H', CC F.model_Model_Put [.pointer (some ⟨b, 0, none⟩), .string a.key, .string a.value] H = some (.int .i64 (putP l a p).1, H') ∧ Mdl H' b (putP l a p).2 ∧ Up H b H' := by
  have s1 : Still H (H.push (.cells [.string a.value] T.string true)) := (Fr.refl H).push _
  have r1 := r.still s1
  have hat := q_at b l a.key [a.value] _ _ r1 (by omega) p hp (rdOne a.value H) (by simp) hc
  obtain ⟨H', hset, hm, hf⟩ := q_set b l a p _ (ok.fr s1) r1 hp.1 hl
  have hfr := after_push r s1 hf
  obtain ⟨H'', ht, hm', hf'⟩ := Mdl.tidied (v := .int .i64 (putP l a p).1) ok r hm hfr
  refine ⟨H'', (d_model_Model_Put _ _ _ H (r := (.int .i64 (putP l a p).1, H')) ?_).trans (congrArg some ht), hm', hf'⟩
  simp (disch := first | with_reducible rfl | assumption | omega | rfl | (simp only [go_sem]; first | done | omega)) only [go_sem, ↓reduceIte, reduceCtorEq, Nat.reduceEqDiff, Nat.reduceAdd, Nat.reduceSub, Nat.reduceMul, Nat.reduceDiv, Nat.reduceMod, Nat.reduceLeDiff, Nat.reduceLT, Nat.reduceBEq, Int.reduceEq, Int.reduceBEq, Int.reduceBNe, Int.reduceLT, Int.reduceLE, Int.reduceAdd, Int.reduceSub, Int.reduceNeg, Int.reduceToNat, Int.reducePow, Nat.reducePow, Int.reduceMul, Int.reduceDiv, ↓s_model_Model_Put, ↓enterK_eq hat, enterK_eq hat, ↓enterK_eq hset, enterK_eq hset]

/-- What Insert makes of a map. -/
def insertP (l : List Pr) (a : Pr) (p : Nat) : Int × List Pr :=
  if isP l a.key p = true then (11, l) else if l.length = 20000 then (7, l) else (0, l.take p ++ a :: l.drop p)

theorem q_Delete_bad (b : Nat) (key : ByteArray) (H : AHeap) (hc : chk key [] ≠ 0) : CC F.model_Model_Delete [.pointer (some ⟨b, 0, none⟩), .string key] H = some (.tuple #[.string (mk []), .int .i64 (chk key [])], H) := by
  have hg := q_Get_bad b key H hc
  generalize chk key [] = e at hg hc
  apply pure_of _ (d_model_Model_Delete _ _ H) rfl
  rotate_left 2
  · simp (disch := first | with_reducible rfl | assumption | omega | rfl | (simp only [go_sem]; first | done | omega)) only [go_sem, ↓reduceIte, reduceCtorEq, Nat.reduceEqDiff, Nat.reduceAdd, Nat.reduceSub, Nat.reduceMul, Nat.reduceDiv, Nat.reduceMod, Nat.reduceLeDiff, Nat.reduceLT, Nat.reduceBEq, Int.reduceEq, Int.reduceBEq, Int.reduceBNe, Int.reduceLT, Int.reduceLE, Int.reduceAdd, Int.reduceSub, Int.reduceNeg, Int.reduceToNat, Int.reducePow, Nat.reducePow, Int.reduceMul, Int.reduceDiv, ↓s_model_Model_Delete, ↓enterK_eq hg, enterK_eq hg, hc]
    rfl
  · (repeat (first | exact Fr.refl _ | refine Fr.push ?_ _ | refine Fr.set ?_ _ _ (by intro h; first | omega | (simp only [go_sem] at h; omega))))

theorem q_Delete (b : Nat) (l : List Pr) (key : ByteArray) (H : AHeap) (ok : Ok H) (r : Mdl H b l) (hl : l.length ≤ 20000) (p : Nat) (hp : PosP l key p) (hc : chk key [] = 0) :
    ∃ H', CC F.model_Model_Delete [.pointer (some ⟨b, 0, none⟩), .string key] H = some (getP l key p, H') ∧ Mdl H' b (if isP l key p = true then l.take p ++ l.drop (p + 1) else l) ∧ Up H b H' := by
  have hg := q_Get b l key H r (by omega) p hp hc
  unfold getP at hg ⊢
  cases his : isP l key p with
  | false =>
    rw [his] at hg
    simp only [Bool.false_eq_true, if_false] at hg ⊢
    refine ⟨H, ?_, r, Up.refl H b⟩
    apply pure_of _ (d_model_Model_Delete _ _ H) rfl
    rotate_left 2
    · simp (disch := first | with_reducible rfl | assumption | omega | rfl | (simp only [go_sem]; first | done | omega)) only [go_sem, ↓reduceIte, reduceCtorEq, Nat.reduceEqDiff, Nat.reduceAdd, Nat.reduceSub, Nat.reduceMul, Nat.reduceDiv, Nat.reduceMod, Nat.reduceLeDiff, Nat.reduceLT, Nat.reduceBEq, Int.reduceEq, Int.reduceBEq, Int.reduceBNe, Int.reduceLT, Int.reduceLE, Int.reduceAdd, Int.reduceSub, Int.reduceNeg, Int.reduceToNat, Int.reducePow, Nat.reducePow, Int.reduceMul, Int.reduceDiv, ↓s_model_Model_Delete, ↓enterK_eq hg, enterK_eq hg]
      rfl
    · (repeat (first | exact Fr.refl _ | refine Fr.push ?_ _ | refine Fr.set ?_ _ _ (by intro h; first | omega | (simp only [go_sem] at h; omega))))
  | true =>
    have hlt := isP_lt his
    have hpl := q_place b l key H r (by omega) p hp
    rw [his] at hg
    simp only [if_true] at hg ⊢
    generalize (l[p]?).elim (mk []) Pr.value = old at hg ⊢
    obtain ⟨v, h1, h2, h3, h4⟩ := r
    obtain ⟨v6, H4, hdel, ho6, fr4, hb6⟩ := q_delete_Pair l v p H h3 (by omega) hlt
    have hone6 : one v6 = true := ho6.cell
    have fb4 : H4.f b = .cells [v] T.model_Model true := by rw [fr4.f h2 h4, h1]
    have n4 : H.n ≤ H4.n := fr4.n
    generalize hH5 : H4.set b (.cells [v6] T.model_Model true) = H5
    have f5 : Fr (MB H b) H H5 := by
      rw [← hH5]
      refine Fr.set ?_ b _ (fun _ => .inl rfl)
      exact fr4.mono fun c _ h => .inr ⟨v, h1, h⟩
    have hup : Up H b H5 := UpT.of h1 f5 (v' := v6) (by rw [← hH5]; exact set_f_eq) fun c hc => .inl (by rw [← hb6]; exact hc)
    refine ⟨H5, (d_model_Model_Delete _ _ H (r := (.tuple #[.string old, .int .i64 0], H5)) ?_).trans (congrArg some (tidy_turned h2 (ok b) ?_)), ?_, hup⟩
    · simp (disch := first | with_reducible rfl | assumption | omega | rfl | (simp only [go_sem]; first | done | omega)) only [go_sem, ↓reduceIte, reduceCtorEq, Nat.reduceEqDiff, Nat.reduceAdd, Nat.reduceSub, Nat.reduceMul, Nat.reduceDiv, Nat.reduceMod, Nat.reduceLeDiff, Nat.reduceLT, Nat.reduceBEq, Int.reduceEq, Int.reduceBEq, Int.reduceBNe, Int.reduceLT, Int.reduceLE, Int.reduceAdd, Int.reduceSub, Int.reduceNeg, Int.reduceToNat, Int.reducePow, Nat.reducePow, Int.reduceMul, Int.reduceDiv, ↓s_model_Model_Delete, ↓enterK_eq hg, enterK_eq hg, ↓enterK_eq hpl, enterK_eq hpl, h1, ↓enterK_eq hdel, enterK_eq hdel, fb4, hH5]
    · rw [← hH5, set_v_eq]
      exact fr4.clk
    · refine ⟨v6, by rw [← hH5]; exact set_f_eq, by rw [← hH5]; simp; omega, ?_, by rw [hb6]; exact h4⟩
      rw [← hH5]
      refine ho6.keep (S := fun x => x = b) (Fr.set (Fr.refl H4) b _ fun _ => rfl) ?_
      intro c hc h
      rw [hb6, h] at hc
      exact h4 hc

end Go.Proofs.YtlkgfbcencoahaaDoor

/-
  The plain map: Swap, Range, Min, Max, Len, Pairs, Copy, Equal, Of.
  Conditions: none. By an AI agent.
-/
set_option maxRecDepth 10000
set_option linter.unusedSimpArgs false
set_option linter.unusedVariables false
namespace Go.Proofs.YtlkgfbcencoahaaDoor
open Go Eng

@[go_sem] theorem xload_Pair {a : Value} {H : AHeap} : xload Tryd.prog T.api_Pair a H = ldN 2 H a := by kernel_rfl
theorem pair_ne {ox oy : Operand} {a b : Pr} : xbin Tryd.prog .neq T.api_Pair ox oy (.agg #[.string a.key, .string a.value]) (.agg #[.string b.key, .string b.value]) = some (.bool (!(decide (bl a.key = bl b.key) && decide (bl a.value = bl b.value)))) := by
  have h := agg_ne (P := Tryd.prog) (t := T.api_Pair) (xs := [.string a.key, .string a.value]) (ys := [.string b.key, .string b.value]) (ox := ox) (oy := oy) Tryd.underlying43 (by kernel_rfl) (by kernel_rfl) (by kernel_rfl) rfl rfl
  rw [h]
  simp [ceqs, ceq]
theorem pair_eq {ox oy : Operand} {a b : Pr} : xbin Tryd.prog .eql T.api_Pair ox oy (.agg #[.string a.key, .string a.value]) (.agg #[.string b.key, .string b.value]) = some (.bool (decide (bl a.key = bl b.key) && decide (bl a.value = bl b.value))) := by
  have h := agg_eq (P := Tryd.prog) (t := T.api_Pair) (xs := [.string a.key, .string a.value]) (ys := [.string b.key, .string b.value]) (ox := ox) (oy := oy) Tryd.underlying43 (by kernel_rfl) (by kernel_rfl) (by kernel_rfl) rfl rfl
  rw [h]
  simp [ceqs, ceq]
theorem pr_ext {a b : Pr} : a = b ↔ bl a.key = bl b.key ∧ bl a.value = bl b.value := by
  constructor
  · rintro rfl; exact ⟨rfl, rfl⟩
  · rintro ⟨h1, h2⟩
    cases a; cases b
    simp only at h1 h2
    rw [bl_inj h1, bl_inj h2]

/-! ### Swap -/
theorem rdTwo (a c : ByteArray) (H : AHeap) : Rd EStr (H.push (.cells [.string a, .string c] T.string true)) (.slice (some ⟨H.n, 0, none⟩) 2 4) [a, c] := by
  refine .inr (.inr ⟨H.n, 0, 4, rfl, by simp, by simp, ?_⟩)
  rw [push_f_eq rfl]
  rfl

/-- What Swap makes of a map. -/
def swapP (l : List Pr) (key old new : ByteArray) (p : Nat) : Int × List Pr :=
  if isP l key p = true then (if bl ((l[p]?).elim (mk []) Pr.value) = bl old then (0, l.set p ⟨key, new⟩) else (11, l)) else (9, l)

/-! ### Len, Pairs, Copy, Min, Max -/
/-- A slice whose block, if it has one, is new. -/
def New (H : AHeap) (v : Value) : Prop := ∀ b, blockOf v = some b → H.n ≤ b

theorem own_tidied {H H' : AHeap} {v : Value} {l : List Pr} (ho : Own EPr H' T.api_Pair v l) (hs : Still H H') (hn : New H v) {x : Res} (hx : x = some (tidy H (v, H'))) :
    ∃ H'', x = some (v, H'') ∧ Own EPr H'' T.api_Pair v l ∧ Still H H'' ∧ New H v := by
  unfold tidy at hx
  split at hx
  · rename_i hg
    simp only [Bool.and_eq_true] at hg
    refine ⟨H, hx, ?_, Fr.refl _, hn⟩
    rcases ho with h | ⟨_, a, h, _⟩ | ⟨b, o, c, xs, h, _⟩
    · exact .inl h
    · rw [h] at hg; exact absurd hg.1 (by simp [gr])
    · rw [h] at hg; exact absurd hg.1 (by simp [gr])
  · exact ⟨H', hx, ho, hs, hn⟩

theorem q_Pairs (b : Nat) (l : List Pr) (H : AHeap) (r : Mdl H b l) (hl : l.length ≤ 1000000000000) :
    ∃ v' H', CC F.model_Model_Pairs [.pointer (some ⟨b, 0, none⟩)] H = some (v', H') ∧ Own EPr H' T.api_Pair v' l ∧ Still H H' ∧ New H v' := by
  obtain ⟨v, h1, h2, h3, h4⟩ := r
  obtain ⟨v', H', hcl, ho, hs, hn⟩ := q_clone_Pair l v H h3.rd hl
  obtain ⟨H'', h⟩ := own_tidied ho hs hn (d_model_Model_Pairs (.pointer (some ⟨b, 0, none⟩)) H (r := (v', H')) (by simp (disch := first | with_reducible rfl | assumption | omega | rfl | (simp only [go_sem]; first | done | omega)) only [go_sem, ↓reduceIte, reduceCtorEq, Nat.reduceEqDiff, Nat.reduceAdd, Nat.reduceSub, Nat.reduceMul, Nat.reduceDiv, Nat.reduceMod, Nat.reduceLeDiff, Nat.reduceLT, Nat.reduceBEq, Int.reduceEq, Int.reduceBEq, Int.reduceBNe, Int.reduceLT, Int.reduceLE, Int.reduceAdd, Int.reduceSub, Int.reduceNeg, Int.reduceToNat, Int.reducePow, Nat.reducePow, Int.reduceMul, Int.reduceDiv, ↓s_model_Model_Pairs, mp_some, h1, ↓enterK_eq hcl, enterK_eq hcl]))
  exact ⟨v', H'', h⟩

/-- The first pair, the last pair. -/
def endV (a : Option Pr) : Value := match a with | some a => .tuple #[.agg #[.string a.key, .string a.value], .int .i64 0] | none => .tuple #[.agg #[.string (mk []), .string (mk [])], .int .i64 9]

end Go.Proofs.YtlkgfbcencoahaaDoor

/-
  The order of strings.
  Conditions: none. By an AI agent.
-/
set_option maxRecDepth 10000
set_option linter.unusedSimpArgs false
set_option linter.unusedVariables false
namespace Go.Proofs.YtlkgfbcencoahaaDoor
open Go Eng

theorem u8_lt {a b : UInt8} : a < b ↔ a.toNat < b.toNat := UInt8.lt_iff_toNat_lt
theorem u8_eq {a b : UInt8} : a = b ↔ a.toNat = b.toNat := UInt8.toNat_inj.symm

theorem cb_eq : ∀ {a b : List UInt8}, Lib.compareBytes a b = 0 ↔ a = b
  | [], [] => by simp [Lib.compareBytes]
  | [], _ :: _ => by simp [Lib.compareBytes]
  | _ :: _, [] => by simp [Lib.compareBytes]
  | a :: x, b :: y => by
    unfold Lib.compareBytes
    by_cases h1 : a < b
    · have := u8_lt.1 h1
      simp only [if_pos h1]
      constructor
      · intro h; cases h
      · intro h; cases h; omega
    · by_cases h2 : b < a
      · have := u8_lt.1 h2
        simp only [if_neg h1, if_pos h2]
        constructor
        · intro h; cases h
        · intro h; cases h; omega
      · have h3 : a = b := u8_eq.2 (by rw [u8_lt] at h1 h2; omega)
        subst h3
        simp only [if_neg h1]
        rw [cb_eq]
        simp
theorem cb_lt : ∀ {a b : List UInt8}, Op.bytesLess a b = true ↔ Lib.compareBytes a b < 0
  | [], [] => by simp [Lib.compareBytes, Op.bytesLess]
  | [], _ :: _ => by simp [Lib.compareBytes, Op.bytesLess]
  | _ :: _, [] => by simp [Lib.compareBytes, Op.bytesLess]
  | a :: x, b :: y => by
    unfold Lib.compareBytes
    rw [Op.bytesLess, Bool.or_eq_true, Bool.and_eq_true, cb_lt]
    by_cases h1 : a < b
    · simp [h1]
    · by_cases h2 : b < a
      · have h3 : ¬ a = b := fun h => by subst h; exact h1 h2
        simp [h1, h2, h3]
      · have h3 : a = b := u8_eq.2 (by rw [u8_lt] at h1 h2; omega)
        subst h3
        simp [h1]
theorem cb_swap : ∀ {a b : List UInt8}, Lib.compareBytes b a = - Lib.compareBytes a b
  | [], [] => by simp [Lib.compareBytes]
  | [], _ :: _ => by simp [Lib.compareBytes]
  | _ :: _, [] => by simp [Lib.compareBytes]
  | a :: x, b :: y => by
    unfold Lib.compareBytes
    by_cases h1 : a < b
    · have h2 : ¬ b < a := by rw [u8_lt] at h1 ⊢; omega
      simp [h1, h2]
    · by_cases h2 : b < a
      · simp [h1, h2]
      · simp only [if_neg h1, if_neg h2]
        exact cb_swap
theorem cb_trans : ∀ {a b c : List UInt8}, Lib.compareBytes a b < 0 → Lib.compareBytes b c < 0 → Lib.compareBytes a c < 0
  | _, b, [], _, h => by cases b <;> simp [Lib.compareBytes] at h
  | a, [], _ :: _, h, _ => by cases a <;> simp [Lib.compareBytes] at h
  | [], _ :: _, _ :: _, _, _ => by simp [Lib.compareBytes]
  | a :: x, b :: y, c :: z, h1, h2 => by
    rw [Lib.compareBytes] at h1 h2 ⊢
    by_cases p : a < b
    · by_cases q : b < c
      · have : a < c := by rw [u8_lt] at p q ⊢; omega
        rw [if_pos this]; decide
      · rw [if_neg q] at h2
        by_cases q' : c < b
        · rw [if_pos q'] at h2; cases h2
        · have : a < c := by rw [u8_lt] at p q q' ⊢; omega
          rw [if_pos this]; decide
    · rw [if_neg p] at h1
      by_cases p' : b < a
      · rw [if_pos p'] at h1; cases h1
      · rw [if_neg p'] at h1
        have e : a = b := u8_eq.2 (by rw [u8_lt] at p p'; omega)
        subst e
        by_cases q : a < c
        · rw [if_pos q]; decide
        · rw [if_neg q] at h2 ⊢
          by_cases q' : c < a
          · rw [if_pos q'] at h2; cases h2
          · rw [if_neg q'] at h2 ⊢
            exact cb_trans h1 h2

theorem cmpS_self (a : ByteArray) : cmpS a a = 0 := cb_eq.2 rfl
theorem bl_inj {a b : ByteArray} (h : bl a = bl b) : a = b := by
  cases a; cases b; unfold bl at h
  congr 1
  exact Array.toList_inj.1 h
theorem cmpS_eq {a b : ByteArray} : cmpS a b = 0 ↔ a = b := ⟨fun h => bl_inj (cb_eq.1 h), fun h => by subst h; exact cmpS_self a⟩
theorem cmpS_swap (a b : ByteArray) : cmpS b a = - cmpS a b := cb_swap
theorem cmpS_trans {a b c : ByteArray} : cmpS a b < 0 → cmpS b c < 0 → cmpS a c < 0 := cb_trans
theorem less_cmpS (a b : ByteArray) : Op.bytesLess (bl a) (bl b) = decide (cmpS a b < 0) := by
  rw [Bool.eq_iff_iff, cb_lt, decide_eq_true_iff]; rfl
theorem leq_cmpS (a b : ByteArray) : (Op.bytesLess (bl a) (bl b) || bl a == bl b) = decide (cmpS a b ≤ 0) := by
  rw [Bool.eq_iff_iff, Bool.or_eq_true, cb_lt, decide_eq_true_iff, beq_iff_eq, ← cb_eq]
  show (cmpS a b < 0 ∨ cmpS a b = 0) ↔ _
  omega

end Go.Proofs.YtlkgfbcencoahaaDoor

/-
  The plain map: Range, Equal, Of.
  Conditions: none. By an AI agent.
-/
set_option maxRecDepth 10000
set_option linter.unusedSimpArgs false
set_option linter.unusedVariables false
namespace Go.Proofs.YtlkgfbcencoahaaDoor
open Go Eng

/-- A part in the middle that is only read. -/
theorem Own.mid {α : Type} {E : Enc α} {H : AHeap} {e : TypeId} {v : Value} {l : List α} (r : Own E H e v l) {sz : Nat} (hsz : sz = E.w) {i j : Nat} (hi : i ≤ j) (hj : j ≤ l.length) {q q' : IntKind} :
    ∃ v', slS e sz v (some (.int q (i : Int))) (some (.int q' (j : Int))) none H = some v' ∧ Rd E H v' ((l.drop i).take (j - i)) := by
  subst hsz
  rcases r with ⟨rfl, rfl⟩ | ⟨rfl, ⟨b, o, s⟩, rfl, hs, hbb⟩ | ⟨b, o, c, xs, rfl, hl, hbn, hf, ho, hx⟩
  · simp only [List.length_nil, Nat.le_zero_eq] at hj
    subst hj
    simp only [Nat.le_zero_eq] at hi
    subst hi
    exact ⟨.slice none 0 0, rfl, .inl ⟨by simp, rfl⟩⟩
  · simp only at hs
    subst hs
    simp only [List.length_nil, Nat.le_zero_eq] at hj
    subst hj
    simp only [Nat.le_zero_eq] at hi
    subst hi
    exact ⟨.slice (some ⟨b, o, none⟩) 0 0, by simp [slS, lowOf, highOf, bnd], .inr (.inl ⟨by simp, _, _, rfl, rfl⟩)⟩
  · have hmul := Nat.mul_le_mul_right E.w hl
    have hmj := Nat.mul_le_mul_right E.w hj
    have hmi := Nat.mul_le_mul_right E.w hi
    refine ⟨_, sl_lohi hf hi (Nat.le_trans hj hl), ?_⟩
    have hlen : ((l.drop i).take (j - i)).length = j - i := by simp; omega
    by_cases h0 : j - i = 0
    · rw [h0]; exact .inr (.inl ⟨by simp, _, _, rfl, rfl⟩)
    · refine .inr (.inr ⟨b, _, _, by rw [hlen], fun h => h0 (by rw [← hlen, h]; rfl), hbn, ?_⟩)
      have hsub : (j - i) * E.w = j * E.w - i * E.w := Nat.sub_mul _ _ _
      rw [hlen, hf, cutB_c (by omega), ← E.cells_take, ← E.cells_drop, ← hx, List.drop_take, List.take_take, List.drop_drop, Nat.min_eq_left (by omega)]

/-- The same where the value stands in a tuple behind a number. -/
theorem own_tidied2 {H H' : AHeap} {v : Value} {l : List Pr} {n : Int} (ho : Own EPr H' T.api_Pair v l) (hs : Still H H') (hn : New H v) {x : Res} (hx : x = some (tidy H (.tuple #[v, .int .i64 n], H'))) :
    ∃ H'', x = some (.tuple #[v, .int .i64 n], H'') ∧ Own EPr H'' T.api_Pair v l ∧ Still H H'' := by
  unfold tidy at hx
  split at hx
  · rename_i hg
    simp only [Bool.and_eq_true] at hg
    refine ⟨H, hx, ?_, Fr.refl _⟩
    rcases ho with h | ⟨_, a, h, _⟩ | ⟨b, o, c, xs, h, _⟩
    · exact .inl h
    · rw [h] at hg; exact absurd hg.1 (by simp [gr])
    · rw [h] at hg; exact absurd hg.1 (by simp [gr])
  · exact ⟨H', hx, ho, hs⟩

/-- What Range answers. -/
def rangeP (l : List Pr) (p q n : Nat) : List Pr := (l.drop p).take (min q (p + n) - p)

end Go.Proofs.YtlkgfbcencoahaaDoor

/-
  The plain map: Equal, Of.
  Conditions: none. By an AI agent.
-/
set_option maxRecDepth 10000
set_option linter.unusedSimpArgs false
set_option linter.unusedVariables false
namespace Go.Proofs.YtlkgfbcencoahaaDoor
open Go Eng

instance : DecidableEq Pr := fun a b => decidable_of_iff (bl a.key = bl b.key ∧ bl a.value = bl b.value) pr_ext.symm
theorem pair_ne' {ox oy : Operand} {a b : Pr} : xbin Tryd.prog .neq T.api_Pair ox oy (.agg #[.string a.key, .string a.value]) (.agg #[.string b.key, .string b.value]) = some (.bool (!decide (a = b))) := by
  rw [pair_ne, ← Bool.decide_and, decide_eq_decide.2 pr_ext]
theorem pair_eq' {ox oy : Operand} {a b : Pr} : xbin Tryd.prog .eql T.api_Pair ox oy (.agg #[.string a.key, .string a.value]) (.agg #[.string b.key, .string b.value]) = some (.bool (decide (a = b))) := by
  rw [pair_eq, ← Bool.decide_and, decide_eq_decide.2 pr_ext]

theorem drop_cons {α : Type} {l x : List α} {a : α} {i : Nat} (h : l.drop i = a :: x) : ∃ hi : i < l.length, l[i] = a ∧ l.drop (i + 1) = x := by
  have hi : i < l.length := by
    rcases Nat.lt_or_ge i l.length with h' | h'
    · exact h'
    · rw [List.drop_eq_nil_of_le h'] at h; cases h
  rw [List.drop_eq_getElem_cons hi] at h
  exact ⟨hi, (List.cons.inj h).1, (List.cons.inj h).2⟩

/-! ### Of -/
/-- The error of a list of pairs: of the pairs behind the one before. -/
def ofErr : Option Pr → List Pr → Int
  | _, [] => 0
  | o, a :: l => if chk a.key [a.value] ≠ 0 then chk a.key [a.value] else if (o.elim false fun b => decide (0 ≤ cmpS b.key a.key)) = true then 13 else ofErr (some a) l


theorem l_ofP (l : List Pr) (v : Value) (Hz : AHeap) (hr0 : Rd EPr Hz v l) (hl : l.length < 1152921504606846976) (K : K) : ∀ (x : List Pr) (i : Nat) (H : AHeap) (o : Option Pr), l.drop i = x → Still Hz H → i ≤ l.length → (if i = 0 then none else l[i - 1]?) = o → ∃ H', Still Hz H' ∧
    (l_model_Of_0 v v (.int .i64 l.length) (.int .i64 i) H (blkK [0] 0 K) = if ofErr o x = 0 then K .normal [(0, v)] H' else K .ret [(2, .pointer none), (3, .int .i64 (ofErr o x))] H')
  | [], i, H, o, hx, hs, hi, ho => by
    have h : l.length ≤ i := List.drop_eq_nil_iff.1 hx
    have hlt : ¬ (i : Int) < (l.length : Int) := by omega
    refine ⟨H, hs, ?_⟩
    rw [r_model_Of_0]
    simp only [ofErr, if_true]
    simp (disch := first | with_reducible rfl | assumption | omega | rfl | (simp only [go_sem]; first | done | omega)) only [go_sem, ↓reduceIte, reduceCtorEq, Nat.reduceEqDiff, Nat.reduceAdd, Nat.reduceSub, Nat.reduceMul, Nat.reduceDiv, Nat.reduceMod, Nat.reduceLeDiff, Nat.reduceLT, Nat.reduceBEq, Int.reduceEq, Int.reduceBEq, Int.reduceBNe, Int.reduceLT, Int.reduceLE, Int.reduceAdd, Int.reduceSub, Int.reduceNeg, Int.reduceToNat, Int.reducePow, Nat.reducePow, Int.reduceMul, Int.reduceDiv, ↓s_model_Of_b0, hlt]
  | a :: x, i, H, o, hx, hs, hi, ho => by
    obtain ⟨h, hxa, hx'⟩ := drop_cons hx
    have hlt : (i : Int) < (l.length : Int) := by omega
    obtain ⟨b1, o1, hix1, hb1, hc1, _⟩ := (hr0.still hs).ix (q := .i64) h
    rw [hxa] at hc1
    have hix1 : ixS 2 v (.int .i64 i) = some (.pointer (some ⟨b1, o1, none⟩)) := hix1
    have hc1 : cutB (H.f b1) o1 2 = some [.string a.key, .string a.value] := hc1
    generalize hH1 : (H.push (.cells [.string (mk []), .string (mk [])] T.api_Pair true)).set H.n (.cells [.string a.key, .string a.value] T.api_Pair true) = H1
    have s1 : Still H H1 := by rw [← hH1]; exact Fr.set ((Fr.refl H).push _) _ _ (fun h => by omega)
    have n1 : H1.n = H.n + 1 := by rw [← hH1]; rfl
    have f1 : H1.f H.n = .cells [.string a.key, .string a.value] T.api_Pair true := by rw [← hH1]; exact set_f_eq
    generalize hH2 : H1.push (.cells [.string a.value] T.string true) = H2
    have s2 : Still H1 H2 := by rw [← hH2]; exact (Fr.refl H1).push _
    have hck := q_check a.key [a.value] _ _ (rdOne a.value H1) (by simp)
    rw [hH2] at hck
    have f2 : H2.f H.n = .cells [.string a.key, .string a.value] T.api_Pair true := by rw [s2.f (by omega) (fun h => h), f1]
    have st : Still Hz H2 := (hs.then s1 fun _ _ h => h).still.then s2 fun _ _ h => h
    by_cases hchk : chk a.key [a.value] = 0
    · rw [hchk] at hck
      cases i with
      | zero =>
        have ho' : o = none := by rw [← ho]; rfl
        subst ho'
        obtain ⟨H', hs', ih⟩ := l_ofP l v Hz hr0 hl K x 1 H2 (some a) hx' st (by omega) (by simp [← hxa])
        refine ⟨H', hs', ?_⟩
        have e : ofErr none (a :: x) = ofErr (some a) x := by simp [ofErr, hchk]
        have hlt : (0 : Int) < (l.length : Int) := hlt
        have hix1 : ixS 2 v (.int .i64 0) = some (.pointer (some ⟨b1, o1, none⟩)) := hix1
        rw [e, r_model_Of_0]
        simp (disch := first | with_reducible rfl | assumption | omega | rfl | (simp only [go_sem]; first | done | omega)) only [go_sem, ↓reduceIte, reduceCtorEq, Nat.reduceEqDiff, Nat.reduceAdd, Nat.reduceSub, Nat.reduceMul, Nat.reduceDiv, Nat.reduceMod, Nat.reduceLeDiff, Nat.reduceLT, Nat.reduceBEq, Int.reduceEq, Int.reduceBEq, Int.reduceBNe, Int.reduceLT, Int.reduceLE, Int.reduceAdd, Int.reduceSub, Int.reduceNeg, Int.reduceToNat, Int.reducePow, Nat.reducePow, Int.reduceMul, Int.reduceDiv, ↓s_model_Of_b0, hlt, hix1, hc1, hH1, f1, hH2, ↓enterK_eq hck, enterK_eq hck]
        exact ih
      | succ k =>
        have hk : k < l.length := by omega
        have ho' : o = some l[k] := by rw [← ho]; simp [hk]
        subst ho'
        obtain ⟨b2, o2, hix2, hb2, hc2, _⟩ := (hr0.still hs).ix (q := .i64) hk
        have hix2 : ixS 2 v (.int .i64 k) = some (.pointer (some ⟨b2, o2, none⟩)) := hix2
        have hc2 : cellB (H.f b2) o2 = some (.string l[k].key) := cutB_cell hc2 (i := 0) (by decide)
        have fb2 : H2.f b2 = H.f b2 := by rw [s2.f (by omega) (fun h => h), s1.f hb2 (fun h => h)]
        obtain ⟨H', hs', ih⟩ := l_ofP l v Hz hr0 hl K x (k + 1 + 1) H2 (some a) hx' st (by omega) (by simp [← hxa])
        have hsub : ((k : Int) + 1 - 1) = (k : Int) := by omega
        have hlt : (k : Int) + 1 < (l.length : Int) := by omega
        have hpos : (0 : Int) < (k : Int) + 1 := by omega
        have hix1 : ixS 2 v (.int .i64 ((k : Int) + 1)) = some (.pointer (some ⟨b1, o1, none⟩)) := hix1
        rw [Int.natCast_add, Int.natCast_add] at ih
        by_cases hge : 0 ≤ cmpS l[k].key a.key
        · have hd : decide (0 ≤ cmpS l[k].key a.key) = true := decide_eq_true hge
          have e : ofErr (some l[k]) (a :: x) = 13 := by simp [ofErr, hchk, hge]
          refine ⟨H2, st, ?_⟩
          rw [e, r_model_Of_0, Int.natCast_add]
          simp (disch := first | with_reducible rfl | assumption | omega | rfl | (simp only [go_sem]; first | done | omega)) only [go_sem, ↓reduceIte, reduceCtorEq, Nat.reduceEqDiff, Nat.reduceAdd, Nat.reduceSub, Nat.reduceMul, Nat.reduceDiv, Nat.reduceMod, Nat.reduceLeDiff, Nat.reduceLT, Nat.reduceBEq, Int.reduceEq, Int.reduceBEq, Int.reduceBNe, Int.reduceLT, Int.reduceLE, Int.reduceAdd, Int.reduceSub, Int.reduceNeg, Int.reduceToNat, Int.reducePow, Nat.reducePow, Int.reduceMul, Int.reduceDiv, ↓s_model_Of_b0, hlt, hix1, hc1, hH1, f1, hH2, ↓enterK_eq hck, enterK_eq hck, hpos, hsub, hix2, fb2, hc2, f2, e_KCompare, hd]
        · have hd : decide (0 ≤ cmpS l[k].key a.key) = false := decide_eq_false hge
          have e : ofErr (some l[k]) (a :: x) = ofErr (some a) x := by simp [ofErr, hchk, hge]
          refine ⟨H', hs', ?_⟩
          rw [e, r_model_Of_0, Int.natCast_add]
          simp (disch := first | with_reducible rfl | assumption | omega | rfl | (simp only [go_sem]; first | done | omega)) only [go_sem, ↓reduceIte, reduceCtorEq, Nat.reduceEqDiff, Nat.reduceAdd, Nat.reduceSub, Nat.reduceMul, Nat.reduceDiv, Nat.reduceMod, Nat.reduceLeDiff, Nat.reduceLT, Nat.reduceBEq, Int.reduceEq, Int.reduceBEq, Int.reduceBNe, Int.reduceLT, Int.reduceLE, Int.reduceAdd, Int.reduceSub, Int.reduceNeg, Int.reduceToNat, Int.reducePow, Nat.reducePow, Int.reduceMul, Int.reduceDiv, ↓s_model_Of_b0, hlt, hix1, hc1, hH1, f1, hH2, ↓enterK_eq hck, enterK_eq hck, hpos, hsub, hix2, fb2, hc2, f2, e_KCompare, hd]
          exact ih
    · have e : ofErr o (a :: x) = chk a.key [a.value] := by simp [ofErr, hchk]
      refine ⟨H2, st, ?_⟩
      rw [e, if_neg hchk]
      generalize chk a.key [a.value] = y at hchk hck
      rw [r_model_Of_0]
      simp (disch := first | with_reducible rfl | assumption | omega | rfl | (simp only [go_sem]; first | done | omega)) only [go_sem, ↓reduceIte, reduceCtorEq, Nat.reduceEqDiff, Nat.reduceAdd, Nat.reduceSub, Nat.reduceMul, Nat.reduceDiv, Nat.reduceMod, Nat.reduceLeDiff, Nat.reduceLT, Nat.reduceBEq, Int.reduceEq, Int.reduceBEq, Int.reduceBNe, Int.reduceLT, Int.reduceLE, Int.reduceAdd, Int.reduceSub, Int.reduceNeg, Int.reduceToNat, Int.reducePow, Nat.reducePow, Int.reduceMul, Int.reduceDiv, ↓s_model_Of_b0, hlt, hix1, hc1, hH1, f1, hH2, ↓enterK_eq hck, enterK_eq hck, hchk]

/-- What Of answers. -/
theorem q_Of_err (l : List Pr) (v : Value) (H : AHeap) (hr : Rd EPr H v l) (hl : l.length < 1152921504606846976) (h : ofErr none l ≠ 0) : CC F.model_Of [v] H = some (.tuple #[.pointer none, .int .i64 (ofErr none l)], H) := by
  have hlen := hr.lenS
  obtain ⟨H', hs, hloop⟩ := l_ofP l v H hr hl (seqK (fun tT h2 => bareK (lenS (get tT 0)) h2 fun t39 h3 =>
    bareK (xbin Tryd.prog .gtr T.int (.tmp 39) (.const (.int .i64 20000)) t39 (.int .i64 20000)) h3 fun t40 h4 =>
    condL t40 (fun k2 => k2 .ret [(2, (.pointer none)), (3, (.int .i64 7))] h4) (fun k2 =>
    k2 .normal [(0, (get tT 0))] h4) (seqK (fun tT_1 h5 =>
    enterK CC F.slices_Clone_Pair [(get tT_1 0)] h5 fun t42 h6 =>
    bareK (bldS #[(.slice none 0 0)] [(0, 1)] [(0, t42)]) h6 fun t43 h7 =>
    bothK (newv T.model_Model t43 h7) fun t44 h8 =>
    endK Tryd.prog [.tmp 2, .tmp 3] .ret [(2, t44), (3, (.int .i64 0))] h8) (endK Tryd.prog [.tmp 2, .tmp 3]))) (endK Tryd.prog [.tmp 2, .tmp 3])) l 0 H none rfl (Fr.refl H) (by omega) rfl
  rw [if_neg h] at hloop
  generalize ofErr none l = e at hloop h
  apply pure_of _ (d_model_Of _ H) rfl
  rotate_left 2
  · simp (disch := first | with_reducible rfl | assumption | omega | rfl | (simp only [go_sem]; first | done | omega)) only [go_sem, ↓reduceIte, reduceCtorEq, Nat.reduceEqDiff, Nat.reduceAdd, Nat.reduceSub, Nat.reduceMul, Nat.reduceDiv, Nat.reduceMod, Nat.reduceLeDiff, Nat.reduceLT, Nat.reduceBEq, Int.reduceEq, Int.reduceBEq, Int.reduceBNe, Int.reduceLT, Int.reduceLE, Int.reduceAdd, Int.reduceSub, Int.reduceNeg, Int.reduceToNat, Int.reducePow, Nat.reducePow, Int.reduceMul, Int.reduceDiv, ↓s_model_Of, hlen]
    exact hloop
  · exact hs

theorem q_Of_full (l : List Pr) (v : Value) (H : AHeap) (hr : Rd EPr H v l) (hl : l.length < 1152921504606846976) (h : ofErr none l = 0) (hf : 20000 < l.length) : CC F.model_Of [v] H = some (.tuple #[.pointer none, .int .i64 7], H) := by
  have hlen := hr.lenS
  have hgt : (20000 : Int) < (l.length : Int) := by omega
  obtain ⟨H', hs, hloop⟩ := l_ofP l v H hr hl (seqK (fun tT h2 => bareK (lenS (get tT 0)) h2 fun t39 h3 =>
    bareK (xbin Tryd.prog .gtr T.int (.tmp 39) (.const (.int .i64 20000)) t39 (.int .i64 20000)) h3 fun t40 h4 =>
    condL t40 (fun k2 => k2 .ret [(2, (.pointer none)), (3, (.int .i64 7))] h4) (fun k2 =>
    k2 .normal [(0, (get tT 0))] h4) (seqK (fun tT_1 h5 =>
    enterK CC F.slices_Clone_Pair [(get tT_1 0)] h5 fun t42 h6 =>
    bareK (bldS #[(.slice none 0 0)] [(0, 1)] [(0, t42)]) h6 fun t43 h7 =>
    bothK (newv T.model_Model t43 h7) fun t44 h8 =>
    endK Tryd.prog [.tmp 2, .tmp 3] .ret [(2, t44), (3, (.int .i64 0))] h8) (endK Tryd.prog [.tmp 2, .tmp 3]))) (endK Tryd.prog [.tmp 2, .tmp 3])) l 0 H none rfl (Fr.refl H) (by omega) rfl
  rw [if_pos h] at hloop
  apply pure_of _ (d_model_Of _ H) rfl
  rotate_left 2
  · simp (disch := first | with_reducible rfl | assumption | omega | rfl | (simp only [go_sem]; first | done | omega)) only [go_sem, ↓reduceIte, reduceCtorEq, Nat.reduceEqDiff, Nat.reduceAdd, Nat.reduceSub, Nat.reduceMul, Nat.reduceDiv, Nat.reduceMod, Nat.reduceLeDiff, Nat.reduceLT, Nat.reduceBEq, Int.reduceEq, Int.reduceBEq, Int.reduceBNe, Int.reduceLT, Int.reduceLE, Int.reduceAdd, Int.reduceSub, Int.reduceNeg, Int.reduceToNat, Int.reducePow, Nat.reducePow, Int.reduceMul, Int.reduceDiv, ↓s_model_Of, hlen]
    refine hloop.trans ?_
    simp (disch := first | with_reducible rfl | assumption | omega | rfl | (simp only [go_sem]; first | done | omega)) only [go_sem, ↓reduceIte, reduceCtorEq, Nat.reduceEqDiff, Nat.reduceAdd, Nat.reduceSub, Nat.reduceMul, Nat.reduceDiv, Nat.reduceMod, Nat.reduceLeDiff, Nat.reduceLT, Nat.reduceBEq, Int.reduceEq, Int.reduceBEq, Int.reduceBNe, Int.reduceLT, Int.reduceLE, Int.reduceAdd, Int.reduceSub, Int.reduceNeg, Int.reduceToNat, Int.reducePow, Nat.reducePow, Int.reduceMul, Int.reduceDiv, hlen, decide_eq_true hgt]
    rfl
  · exact hs

theorem q_Of (l : List Pr) (v : Value) (H : AHeap) (hr : Rd EPr H v l) (h : ofErr none l = 0) (hf : l.length ≤ 20000) :
    ∃ b H', CC F.model_Of [v] H = some (.tuple #[.pointer (some ⟨b, 0, none⟩), .int .i64 0], H') ∧ Mdl H' b l ∧ Still H H' ∧ H.n ≤ b ∧ (∀ c, MB H' b c → H.n ≤ c) := by
  have hlen := hr.lenS
  have hgt : ¬ (20000 : Int) < (l.length : Int) := by omega
  obtain ⟨H1, hs, hloop⟩ := l_ofP l v H hr (by omega) (seqK (fun tT h2 => bareK (lenS (get tT 0)) h2 fun t39 h3 =>
    bareK (xbin Tryd.prog .gtr T.int (.tmp 39) (.const (.int .i64 20000)) t39 (.int .i64 20000)) h3 fun t40 h4 =>
    condL t40 (fun k2 => k2 .ret [(2, (.pointer none)), (3, (.int .i64 7))] h4) (fun k2 =>
    k2 .normal [(0, (get tT 0))] h4) (seqK (fun tT_1 h5 =>
    enterK CC F.slices_Clone_Pair [(get tT_1 0)] h5 fun t42 h6 =>
    bareK (bldS #[(.slice none 0 0)] [(0, 1)] [(0, t42)]) h6 fun t43 h7 =>
    bothK (newv T.model_Model t43 h7) fun t44 h8 =>
    endK Tryd.prog [.tmp 2, .tmp 3] .ret [(2, t44), (3, (.int .i64 0))] h8) (endK Tryd.prog [.tmp 2, .tmp 3]))) (endK Tryd.prog [.tmp 2, .tmp 3])) l 0 H none rfl (Fr.refl H) (by omega) rfl
  rw [if_pos h] at hloop
  obtain ⟨v5, H2, hcl, ho5, s2, hn5⟩ := q_clone_Pair l v H1 (hr.still hs) (by omega)
  have n1 : H.n ≤ H1.n := hs.n
  have n2 : H1.n ≤ H2.n := s2.n
  have s12 : Still H H2 := hs.still.then s2 fun _ _ h => h
  refine ⟨H2.n, H2.push (.cells [v5] T.model_Model true), (d_model_Of _ H (r := (.tuple #[.pointer (some ⟨H2.n, 0, none⟩), .int .i64 0], _)) ?_).trans (congrArg some (tidy_mem rfl)), ?_, s12.push _, by omega, ?_⟩
  · obtain ⟨a, n, c, hv5⟩ : ∃ a n c, v5 = .slice a n c := by
      rcases ho5 with ⟨_, h⟩ | ⟨_, a, h, _⟩ | ⟨b, o, c, xs, h, _⟩ <;> exact ⟨_, _, _, h⟩
    subst hv5
    simp (disch := first | with_reducible rfl | assumption | omega | rfl | (simp only [go_sem]; first | done | omega)) only [go_sem, ↓reduceIte, reduceCtorEq, Nat.reduceEqDiff, Nat.reduceAdd, Nat.reduceSub, Nat.reduceMul, Nat.reduceDiv, Nat.reduceMod, Nat.reduceLeDiff, Nat.reduceLT, Nat.reduceBEq, Int.reduceEq, Int.reduceBEq, Int.reduceBNe, Int.reduceLT, Int.reduceLE, Int.reduceAdd, Int.reduceSub, Int.reduceNeg, Int.reduceToNat, Int.reducePow, Nat.reducePow, Int.reduceMul, Int.reduceDiv, ↓s_model_Of, hlen]
    refine hloop.trans ?_
    simp (disch := first | with_reducible rfl | assumption | omega | rfl | (simp only [go_sem]; first | done | omega)) only [go_sem, ↓reduceIte, reduceCtorEq, Nat.reduceEqDiff, Nat.reduceAdd, Nat.reduceSub, Nat.reduceMul, Nat.reduceDiv, Nat.reduceMod, Nat.reduceLeDiff, Nat.reduceLT, Nat.reduceBEq, Int.reduceEq, Int.reduceBEq, Int.reduceBNe, Int.reduceLT, Int.reduceLE, Int.reduceAdd, Int.reduceSub, Int.reduceNeg, Int.reduceToNat, Int.reducePow, Nat.reducePow, Int.reduceMul, Int.reduceDiv, hlen, decide_eq_false hgt, ↓enterK_eq hcl, enterK_eq hcl]
  · refine ⟨v5, push_f_eq rfl, by simp, ho5.still ((Fr.refl _).push _), fun h => by have := ho5.blk h; omega⟩
  · intro c h
    rcases h with h | ⟨u, hu, hb⟩
    · omega
    · rw [push_f_eq rfl] at hu
      cases hu
      have := hn5 c hb
      omega

end Go.Proofs.YtlkgfbcencoahaaDoor

/-
  Sorted lists of pairs: where a key is.
  Conditions: none. By an AI agent.
-/
set_option maxRecDepth 10000
set_option linter.unusedSimpArgs false
set_option linter.unusedVariables false
namespace Go.Proofs.YtlkgfbcencoahaaDoor
open Go Eng

/-- Sorted, each key once. -/
def Srt (l : List Pr) : Prop := l.Pairwise fun a b => cmpS a.key b.key < 0

/-- Where a key is, or would be. -/
def posP : List Pr → ByteArray → Nat
  | [], _ => 0
  | a :: l, key => if cmpS a.key key < 0 then posP l key + 1 else 0

theorem posP_le : ∀ (l : List Pr) (key : ByteArray), posP l key ≤ l.length
  | [], _ => Nat.le_refl _
  | a :: l, key => by
    rw [posP]
    have := posP_le l key
    split <;> simp <;> omega

theorem cmpS_le_lt {a b c : ByteArray} (h1 : ¬ cmpS a b < 0) (h2 : cmpS a c < 0) : cmpS b c < 0 := by
  by_cases h : cmpS a b = 0
  · rw [← cmpS_eq.1 h]; exact h2
  · have h3 : cmpS b a < 0 := by rw [cmpS_swap]; omega
    exact cmpS_trans h3 h2

theorem posP_pos : ∀ {l : List Pr} (_ : Srt l) (key : ByteArray), PosP l key (posP l key)
  | [], _, key => ⟨Nat.le_refl _, fun i h => absurd h (by simp), fun i h => absurd h (by simp)⟩
  | a :: l, hs, key => by
    obtain ⟨ha, hl⟩ := List.pairwise_cons.1 hs
    obtain ⟨h1, h2, h3⟩ := posP_pos hl key
    rw [posP]
    by_cases h : cmpS a.key key < 0
    · rw [if_pos h]
      refine ⟨by simp; omega, fun i hi hp => ?_, fun i hi hp => ?_⟩
      · cases i with
        | zero => exact h
        | succ i => exact h2 i (by simpa using hi) (by omega)
      · cases i with
        | zero => omega
        | succ i => exact h3 i (by simpa using hi) (by omega)
    · rw [if_neg h]
      refine ⟨by simp, fun i hi hp => by omega, fun i hi hp => ?_⟩
      cases i with
      | zero => exact h
      | succ i =>
        intro hc
        have hb := ha _ (List.getElem_mem (by simpa using hi : i < l.length))
        exact h (cmpS_trans hb hc)

/-- Is a key there? -/
def hasP (l : List Pr) (key : ByteArray) : Bool := isP l key (posP l key)

theorem isP_eq {l : List Pr} {key : ByteArray} {p : Nat} (h : isP l key p = true) : ∃ hp : p < l.length, l[p].key = key := by
  unfold isP at h
  cases hg : l[p]? with
  | none => rw [hg] at h; cases h
  | some a =>
    rw [hg] at h
    obtain ⟨hp, rfl⟩ := List.getElem?_eq_some_iff.1 hg
    exact ⟨hp, cmpS_eq.1 (by simpa using h)⟩

theorem mem_pos {l : List Pr} (hs : Srt l) {i : Nat} (hi : i < l.length) : posP l l[i].key = i := by
  obtain ⟨h1, h2, h3⟩ := posP_pos hs l[i].key
  rcases Nat.lt_trichotomy (posP l l[i].key) i with h | h | h
  · have hlt : posP l l[i].key < l.length := by omega
    have := List.pairwise_iff_getElem.1 hs _ _ hlt hi h
    exact absurd this (h3 _ hlt (Nat.le_refl _))
  · exact h
  · have := h2 i hi h
    rw [cmpS_self] at this
    omega

theorem isP_self {l : List Pr} (hs : Srt l) {i : Nat} (hi : i < l.length) : isP l l[i].key (posP l l[i].key) = true := by
  rw [mem_pos hs hi]
  unfold isP
  rw [List.getElem?_eq_getElem hi]
  simp [cmpS_self]

/-- What a search for an equal key finds: on a sorted list, the place. -/
def findP : List Pr → ByteArray → Nat → Int
  | [], _, _ => -1
  | a :: l, key, i => if bl a.key = bl key then i else findP l key (i + 1)

theorem findP_none : ∀ (l : List Pr) (key : ByteArray) (i : Nat), (∀ a ∈ l, ¬ a.key = key) → findP l key i = -1
  | [], _, _, _ => rfl
  | a :: l, key, i, h => by
    rw [findP, if_neg fun he => h a (by simp) (bl_inj he), findP_none l key (i + 1) fun b hb => h b (by simp [hb])]

theorem findP_some : ∀ (l : List Pr) (key : ByteArray) (i k : Nat) (hk : k < l.length), l[k].key = key → (∀ (j : Nat) (hj : j < l.length), j < k → ¬ l[j].key = key) → findP l key i = ((i + k : Nat) : Int)
  | [], _, _, k, hk, _, _ => absurd hk (by simp)
  | a :: l, key, i, 0, _, h, _ => by
    rw [findP, if_pos (by rw [← h]; rfl)]
    simp
  | a :: l, key, i, k + 1, hk, h, hn => by
    rw [findP, if_neg fun he => hn 0 (by simp) (by omega) (bl_inj he), findP_some l key (i + 1) k (by simpa using hk) h fun j hj hjk => hn (j + 1) (by simpa using hj) (by omega)]
    omega

theorem findP_eq {l : List Pr} (hs : Srt l) (key : ByteArray) : findP l key 0 = if isP l key (posP l key) = true then (posP l key : Int) else -1 := by
  by_cases h : isP l key (posP l key) = true
  · rw [if_pos h]
    obtain ⟨hp, he⟩ := isP_eq h
    have := findP_some l key 0 (posP l key) hp he fun j hj hjk hej => by
      have := mem_pos hs hj
      rw [hej] at this
      omega
    rw [this]; simp
  · rw [if_neg h]
    refine findP_none l key 0 fun a ha hak => h ?_
    obtain ⟨i, hi, rfl⟩ := List.getElem_of_mem ha
    rw [← hak]
    exact isP_self hs hi

/-! ### What stays sorted -/
theorem srt_set {l : List Pr} (hs : Srt l) {p : Nat} {a : Pr} (h : isP l a.key p = true) : Srt (l.set p a) := by
  obtain ⟨hp, he⟩ := isP_eq h
  refine List.pairwise_iff_getElem.2 fun i j hi hj hij => ?_
  have hk : ∀ (i : Nat) (hi : i < (l.set p a).length), (l.set p a)[i].key = (l[i]'(by simpa using hi)).key := by
    intro i hi
    rw [List.getElem_set]
    split
    · rename_i h'; subst h'; exact he.symm
    · rfl
  rw [hk i hi, hk j hj]
  exact List.pairwise_iff_getElem.1 hs _ _ _ _ hij

theorem srt_ins {l : List Pr} (hs : Srt l) {a : Pr} (h : isP l a.key (posP l a.key) = false) : Srt (l.take (posP l a.key) ++ a :: l.drop (posP l a.key)) := by
  obtain ⟨h1, h2, h3⟩ := posP_pos hs a.key
  generalize hp : posP l a.key = p at h h1 h2 h3
  unfold Srt
  rw [List.pairwise_append]
  refine ⟨hs.sublist (List.take_sublist _ _), ?_, ?_⟩
  · rw [List.pairwise_cons]
    refine ⟨fun b hb => ?_, hs.sublist (List.drop_sublist _ _)⟩
    obtain ⟨i, hi, rfl⟩ := List.getElem_of_mem hb
    rw [List.getElem_drop]
    have hi' : p + i < l.length := by simp at hi; omega
    have hge := h3 (p + i) hi' (by omega)
    have hpl : p < l.length := by omega
    have hne0 : ¬ cmpS l[p].key a.key = 0 := by
      unfold isP at h
      rw [List.getElem?_eq_getElem hpl] at h
      simpa using h
    rw [cmpS_swap]
    by_cases hi0 : i = 0
    · subst hi0
      have := h3 p hpl (Nat.le_refl _)
      simp only [Nat.add_zero]
      omega
    · have hlt := List.pairwise_iff_getElem.1 hs p (p + i) hpl hi' (by omega)
      have hpp := h3 p hpl (Nat.le_refl _)
      have : cmpS a.key l[p].key < 0 := by rw [cmpS_swap]; omega
      have := cmpS_trans this hlt
      rw [cmpS_swap] at this
      omega
  · intro b hb c hc
    obtain ⟨i, hi, rfl⟩ := List.getElem_of_mem hb
    rw [List.getElem_take]
    have hi' : i < p := by simp at hi; omega
    have hlt := h2 i (by omega) hi'
    rcases List.mem_cons.1 hc with rfl | hc
    · exact hlt
    · obtain ⟨j, hj, rfl⟩ := List.getElem_of_mem hc
      rw [List.getElem_drop]
      exact List.pairwise_iff_getElem.1 hs _ _ _ _ (by omega)

theorem srt_del {l : List Pr} (hs : Srt l) (p : Nat) : Srt (l.take p ++ l.drop (p + 1)) := by
  rw [← List.eraseIdx_eq_take_drop_succ]
  exact hs.sublist (List.eraseIdx_sublist _ _)

theorem srt_put {l : List Pr} (hs : Srt l) (a : Pr) : Srt (putP l a (posP l a.key)).2 := by
  unfold putP
  split
  · rename_i h; exact srt_set hs h
  · rename_i h
    split
    · exact hs
    · exact srt_ins hs (by simpa using h)
theorem len_put {l : List Pr} (hl : l.length ≤ 20000) (a : Pr) : (putP l a (posP l a.key)).2.length ≤ 20000 := by
  unfold putP
  split
  · simpa using hl
  · split
    · exact hl
    · simp; have := posP_le l a.key; omega
theorem srt_insert {l : List Pr} (hs : Srt l) (a : Pr) : Srt (insertP l a (posP l a.key)).2 := by
  unfold insertP
  split
  · exact hs
  · rename_i h
    split
    · exact hs
    · exact srt_ins hs (by simpa using h)
theorem len_insert {l : List Pr} (hl : l.length ≤ 20000) (a : Pr) : (insertP l a (posP l a.key)).2.length ≤ 20000 := by
  unfold insertP
  split
  · exact hl
  · split
    · exact hl
    · simp; have := posP_le l a.key; omega
theorem srt_swap {l : List Pr} (hs : Srt l) (key old new : ByteArray) : Srt (swapP l key old new (posP l key)).2 := by
  unfold swapP
  split
  · rename_i h
    split
    · exact srt_set (a := ⟨key, new⟩) hs h
    · exact hs
  · exact hs
theorem len_swap {l : List Pr} (hl : l.length ≤ 20000) (key old new : ByteArray) : (swapP l key old new (posP l key)).2.length ≤ 20000 := by
  unfold swapP
  split
  · split
    · simpa using hl
    · exact hl
  · exact hl

end Go.Proofs.YtlkgfbcencoahaaDoor

/-
  Rows: appending where nothing may be appended; parts that are only read; one cell of a pair.
  Conditions: none. By an AI agent.
-/
set_option maxRecDepth 10000
set_option linter.unusedSimpArgs false
set_option linter.unusedVariables false
namespace Go.Proofs.YtlkgfbcencoahaaDoor
open Go Eng

variable {α : Type} {E : Enc α} {H : AHeap} {v : Value} {l m : List α} {e : TypeId}

theorem Eng.Own.nil : Own E H e (.slice none 0 0) [] := .inl ⟨rfl, rfl⟩

theorem Eng.Own.appE (r : Own E H e v l) {sz bytes : Nat} (hsz : sz = E.w) (hb : (l.length + m.length) * bytes ≤ 140737488355328) (hn : l.length + m.length ≤ 140737488355328)
    {src : Option (Nat × List Value)} (hsrc : src = some (m.length, E.cells m)) :
    ∃ v' H', Eng.app e sz bytes v src H = some (v', H') ∧ Own E H' e v' (l ++ m) ∧ Fr (OnlyOf v) H H' ∧ (blockOf v' = blockOf v ∨ blockOf v' = some H.n) := by
  by_cases hm : m = []
  · subst hm hsrc
    refine ⟨v, H, ?_, by simpa using r, Fr.refl H, .inl rfl⟩
    rcases r with ⟨rfl, rfl⟩ | ⟨rfl, a, rfl, _, _⟩ | ⟨b, o, c, xs, rfl, _⟩ <;> rfl
  · obtain ⟨v', H', h1, h2, h3, h4, _⟩ := r.app hm hsz hb hn hsrc
    exact ⟨v', H', h1, h2, h3, h4⟩

/-- Appending to a row whose capacity is its length. -/
theorem Eng.Rd.appX {a : Option Addr} {n : Nat} (r : Rd E H (.slice a n (2 * n)) l) {sz bytes : Nat} (hsz : sz = E.w) (hb : (l.length + m.length) * bytes ≤ 140737488355328) (hn : l.length + m.length ≤ 140737488355328)
    {src : Option (Nat × List Value)} (hsrc : src = some (m.length, E.cells m)) (h0 : l ≠ []) :
    ∃ v' H', Eng.app e sz bytes (.slice a n (2 * n)) src H = some (v', H') ∧ Rd E H' v' (l ++ m) ∧ Still H H' ∧ (blockOf v' = a.map (·.block) ∨ blockOf v' = some H.n) := by
  subst hsz
  by_cases hm : m = []
  · subst hm hsrc
    refine ⟨_, H, rfl, by simpa using r, Fr.refl H, ?_⟩
    rcases r with h | ⟨h, _⟩ | ⟨b, o, c, hv, _⟩
    · exact absurd h.1 h0
    · exact absurd h h0
    · cases hv; exact .inl rfl
  · have hm0 : m.length ≠ 0 := fun h => hm (List.length_eq_zero_iff.1 h)
    rcases r with h | ⟨h, _⟩ | ⟨b, o, c, hv, hl, hbn, hc⟩
    · exact absurd h.1 h0
    · exact absurd h h0
    · cases hv
      refine ⟨.slice (some ⟨H.n, 0, none⟩) (l.length + m.length) (2 * (l.length + m.length) + 1), H.push (.cells (E.cells l ++ E.cells m) e true), ?_, ?_, (Fr.refl H).push _, .inr rfl⟩
      · have hold : oldOf E.w l.length H (some ⟨b, o, none⟩) = some (E.cells l) := by
          unfold oldOf
          rw [if_neg fun h => hl (List.length_eq_zero_iff.1 h)]
          simp only [cut_b, hc]
        have hbig : ¬ ((l.length + m.length) * bytes > 140737488355328 ∨ l.length + m.length > 140737488355328) := by omega
        have hroom : ¬ (l.length + m.length ≤ 2 * l.length / 2) := by omega
        have hone := E.cells_one m
        subst hsrc
        simp only [Eng.app, Option.bind_some, hm0, if_false, hbig, hroom, hone, Bool.true_eq_false, hold, show 2 * l.length % 2 = 0 by omega, if_true, Option.map_some]
      · refine .inr (.inr ⟨H.n, 0, _, by rw [List.length_append], by simp [hm], by simp, ?_⟩)
        rw [push_f_eq rfl, cutB_c (by simp [Nat.add_mul]), E.cells_append]
        rw [List.drop_zero, List.take_of_length_le (by simp [Nat.add_mul])]

/-- The first elements. -/
theorem Eng.Own.hi (r : Own E H e v l) {sz : Nat} (hsz : sz = E.w) {i : Nat} (hi : i ≤ l.length) {q : IntKind} : ∃ v', slS e sz v none (some (.int q (i : Int))) none H = some v' ∧ Rd E H v' (l.take i) := by
  subst hsz
  rcases r with ⟨rfl, rfl⟩ | ⟨rfl, ⟨b, o, s⟩, rfl, hs, hbb⟩ | ⟨b, o, c, xs, rfl, hl, hbn, hf, ho, hx⟩
  · simp only [List.length_nil, Nat.le_zero_eq] at hi
    subst hi
    exact ⟨.slice none 0 0, rfl, .inl ⟨by simp, rfl⟩⟩
  · simp only at hs
    subst hs
    simp only [List.length_nil, Nat.le_zero_eq] at hi
    subst hi
    exact ⟨.slice (some ⟨b, o, none⟩) 0 0, by simp [slS, lowOf, highOf, bnd], .inr (.inl ⟨by simp, _, _, rfl, rfl⟩)⟩
  · have hmul := Nat.mul_le_mul_right E.w hl
    have hmi := Nat.mul_le_mul_right E.w hi
    refine ⟨_, sl_hi hf (Nat.le_trans hi hl), ?_⟩
    have hlen : (l.take i).length = i := by simp; omega
    by_cases h0 : i = 0
    · subst h0; exact .inr (.inl ⟨by simp, _, _, rfl, rfl⟩)
    · refine .inr (.inr ⟨b, o, _, by rw [hlen], fun h => h0 (by rw [← hlen, h]; rfl), hbn, ?_⟩)
      rw [hlen, hf, cutB_c (by omega), ← E.cells_take, ← hx, List.take_take, Nat.min_eq_left hmi]

/-- The second cell of a pair. -/
theorem wr1_two {k k' : Blk} {o : Nat} {x y : ByteArray} {w : Value} (hc : cutB k o 2 = some [.string x, w]) (h : wrL k o [.string x, .string y] = some k') : wr1 k (o + 1) (.string y) = some k' := by
  unfold cutB at hc
  unfold wrL at h
  unfold wr1
  cases k with
  | cells xs e rw =>
    cases rw with
    | false => cases h
    | true =>
      simp only at hc h ⊢
      split at hc
      · rename_i hle
        rw [if_pos (by simpa using hle)] at h
        have hx : xs[o]? = some (.string x) := by
          have := congrArg (fun z => z[0]?) (Option.some.inj hc)
          simp only [List.getElem?_take, List.getElem?_drop] at this
          simpa using this
        rw [if_pos (by omega)]
        have he : xs.set o (.string x) = xs := by
          apply List.ext_getElem?
          intro j
          by_cases hj : j = o
          · subst hj; rw [List.getElem?_set_self (by omega), hx]
          · rw [List.getElem?_set_ne (by omega)]
        simp only [List.all_cons, List.all_nil, one_s, Bool.and_self, if_true, spl, he] at h
        rw [if_pos (one_s)]
        simpa using h
      · cases hc
  | _ => cases h

theorem Eng.Own.writeV {l : List Pr} (r : Own EPr H T.api_Pair v l) {i : Nat} (hi : i < l.length) (x : ByteArray) :
    ∃ b o H', ixS 2 v (.int .i64 (i : Int)) = some (.pointer (some ⟨b, o, none⟩)) ∧ setB H b (wr1 (H.f b) (o + 1) (.string x)) = some H' ∧ Own EPr H' T.api_Pair v (l.set i ⟨l[i].key, x⟩) ∧ blockOf v = some b ∧ b < H.n ∧
      H'.n = H.n ∧ Fr (fun c => c = b) H H' := by
  obtain ⟨b, o, H', h1, h2, h3, h4, h5, h6, h7, _⟩ := Own.write r hi ⟨l[i].key, x⟩
  obtain ⟨b2, o2, g1, g2, g3, _⟩ := r.rd.ix (q := .i64) hi
  have g1 : ixS 2 v (.int .i64 (i : Int)) = some (.pointer (some ⟨b2, o2, none⟩)) := g1
  rw [h1] at g1
  cases g1
  refine ⟨b, o, H', h1, ?_, h3, h4, h5, h6, h7⟩
  unfold setB at h2 ⊢
  obtain ⟨k', hk, rfl⟩ := Option.map_eq_some_iff.1 h2
  rw [wr1_two g3 hk]
  rfl

end Go.Proofs.YtlkgfbcencoahaaDoor

/-
  Sorted lists of pairs: ranges; a part in the middle.
  Conditions: none. By an AI agent.
-/
set_option maxRecDepth 10000
set_option linter.unusedSimpArgs false
set_option linter.unusedVariables false
namespace Go.Proofs.YtlkgfbcencoahaaDoor
open Go Eng

/-- Is a key in a range? -/
def inR (sf st : ByteArray) (a : Pr) : Bool := !decide (cmpS a.key sf < 0) && (decide (bl st = []) || decide (cmpS a.key st < 0))
/-- Where a range ends. -/
def endP (l : List Pr) (st : ByteArray) : Nat := if bl st = [] then l.length else posP l st

theorem filter_ge : ∀ {l : List Pr} (_ : Srt l) (k : ByteArray), l.filter (fun a => !decide (cmpS a.key k < 0)) = l.drop (posP l k)
  | [], _, _ => rfl
  | a :: l, hs, k => by
    obtain ⟨ha, hl⟩ := List.pairwise_cons.1 hs
    rw [posP]
    by_cases h : cmpS a.key k < 0
    · rw [if_pos h, List.filter_cons_of_neg (by simp [h]), List.drop_succ_cons]
      exact filter_ge hl k
    · rw [if_neg h, List.drop_zero, List.filter_eq_self]
      intro b hb
      rcases List.mem_cons.1 hb with rfl | hb
      · simp [h]
      · have := ha b hb
        simp only [Bool.not_eq_true', decide_eq_false_iff_not]
        exact fun hc => h (cmpS_trans this hc)
theorem filter_lt : ∀ {l : List Pr} (_ : Srt l) (k : ByteArray), l.filter (fun a => decide (cmpS a.key k < 0)) = l.take (posP l k)
  | [], _, _ => rfl
  | a :: l, hs, k => by
    obtain ⟨ha, hl⟩ := List.pairwise_cons.1 hs
    rw [posP]
    by_cases h : cmpS a.key k < 0
    · rw [if_pos h, List.filter_cons_of_pos (by simp [h]), List.take_succ_cons, filter_lt hl k]
    · rw [if_neg h, List.take_zero, List.filter_eq_nil_iff]
      intro b hb
      rcases List.mem_cons.1 hb with rfl | hb
      · simp [h]
      · have := ha b hb
        simp only [decide_eq_true_eq]
        exact fun hc => h (cmpS_trans this hc)
theorem posP_take : ∀ (l : List Pr) (k : ByteArray) (q : Nat), posP (l.take q) k = min (posP l k) q
  | [], k, q => by simp [posP]
  | a :: l, k, 0 => by simp [posP]
  | a :: l, k, q + 1 => by
    rw [List.take_succ_cons, posP, posP, posP_take l k q]
    split <;> omega

theorem filter_inR {l : List Pr} (hs : Srt l) (sf st : ByteArray) : l.filter (inR sf st) = (l.drop (posP l sf)).take (endP l st - posP l sf) := by
  unfold inR endP
  by_cases h : bl st = []
  · simp only [h, decide_true, Bool.true_or, Bool.and_true, if_true]
    rw [filter_ge hs sf, List.take_of_length_le (by simp)]
  · simp only [h, decide_false, Bool.false_or, if_false]
    rw [← List.filter_filter, filter_lt hs st, filter_ge (hs.sublist (List.take_sublist _ _)) sf, posP_take, ← List.drop_take]
    by_cases hle : posP l sf ≤ posP l st
    · rw [Nat.min_eq_left hle]
    · rw [Nat.min_eq_right (by omega), List.drop_eq_nil_of_le (by simp; omega), List.drop_eq_nil_of_le (by simp; omega)]

theorem rdLit (a : Pr) (H : AHeap) : Rd EPr (H.push (.cells [.string a.key, .string a.value] T.api_Pair true)) (.slice (some ⟨H.n, 0, none⟩) 1 2) [a] := by
  refine .inr (.inr ⟨H.n, 0, 2, rfl, by simp, by simp, ?_⟩)
  rw [push_f_eq rfl]
  rfl


/-- A part in the middle that is the function's own. -/
theorem Eng.Own.midO {α : Type} {E : Enc α} {H : AHeap} {e : TypeId} {v : Value} {l : List α} (r : Own E H e v l) {sz : Nat} (hsz : sz = E.w) {i j : Nat} (hi : i ≤ j) (hj : j ≤ l.length) {q q' : IntKind} :
    ∃ v', slS e sz v (some (.int q (i : Int))) (some (.int q' (j : Int))) none H = some v' ∧ Own E H e v' ((l.drop i).take (j - i)) ∧ blockOf v' = blockOf v := by
  subst hsz
  rcases r with ⟨rfl, rfl⟩ | ⟨rfl, ⟨b, o, s⟩, rfl, hs, hbb⟩ | ⟨b, o, c, xs, rfl, hl, hbn, hf, ho, hx⟩
  · simp only [List.length_nil, Nat.le_zero_eq] at hj
    subst hj
    simp only [Nat.le_zero_eq] at hi
    subst hi
    exact ⟨.slice none 0 0, rfl, .inl ⟨by simp, rfl⟩, rfl⟩
  · simp only at hs
    subst hs
    simp only [List.length_nil, Nat.le_zero_eq] at hj
    subst hj
    simp only [Nat.le_zero_eq] at hi
    subst hi
    exact ⟨.slice (some ⟨b, o, none⟩) 0 0, by simp [slS, lowOf, highOf, bnd], .inr (.inl ⟨by simp, _, rfl, rfl, hbb⟩), rfl⟩
  · have hmul := Nat.mul_le_mul_right E.w hl
    have hmj := Nat.mul_le_mul_right E.w hj
    have hmi := Nat.mul_le_mul_right E.w hi
    have hmc := Nat.mul_le_mul_right E.w (Nat.le_trans hj hl)
    refine ⟨_, sl_lohi hf hi (Nat.le_trans hj hl), .inr (.inr ⟨b, o + i * E.w, c - i, xs, ?_, ?_, hbn, hf, ?_, ?_⟩), rfl⟩
    · rw [show ((l.drop i).take (j - i)).length = j - i by simp; omega]
    · simp; omega
    · rw [Nat.sub_mul]; omega
    · have hlen : ((l.drop i).take (j - i)).length = j - i := by simp; omega
      have hsub : (j - i) * E.w = j * E.w - i * E.w := Nat.sub_mul _ _ _
      rw [hlen, ← E.cells_take, ← E.cells_drop, ← hx, List.drop_take, List.take_take, List.drop_drop, Nat.min_eq_left (by omega)]

end Go.Proofs.YtlkgfbcencoahaaDoor

/-
  The plain map's methods for any key, right or not; and two blocks of which only one is turned.
  Conditions: none. By an AI agent.
-/
set_option maxRecDepth 10000
set_option linter.unusedSimpArgs false
set_option linter.unusedVariables false
namespace Go.Proofs.YtlkgfbcencoahaaDoor
open Go Eng

theorem MdlT.blk {t : TypeId} {H : AHeap} {b : Nat} {l : List Pr} (r : MdlT t H b l) {c : Nat} (h : MBT t H b c) : c < H.n := by
  obtain ⟨v, h1, h2, h3, h4⟩ := r
  rcases h with h | ⟨u, hu, hb⟩
  · omega
  · rw [h1] at hu; cases hu; exact h3.blk hb


/-- A call that works on one map leaves another one. -/
theorem sep {t1 t2 : TypeId} {H H' : AHeap} {b1 b2 : Nat} {l2 : List Pr} (r2 : MdlT t2 H b2 l2) (dis : ∀ c, MBT t1 H b1 c → ¬ MBT t2 H b2 c) (u : UpT t1 H b1 H') :
    MdlT t2 H' b2 l2 ∧ (∀ c, MBT t2 H' b2 c → MBT t2 H b2 c) ∧ ∀ c, MBT t1 H' b1 c → ¬ MBT t2 H' b2 c := by
  have hb2 : ¬ MBT t1 H b1 b2 := fun h => dis b2 h (.inl rfl)
  have hlt : b2 < H.n := r2.blk (.inl rfl)
  have hf : H'.f b2 = H.f b2 := u.fr.f hlt hb2
  have hm : ∀ c, MBT t2 H' b2 c → MBT t2 H b2 c := fun c h => h.imp id fun ⟨v, hv, hb⟩ => ⟨v, by rw [← hf]; exact hv, hb⟩
  refine ⟨r2.keep u.fr hb2 fun v hv c hc h => dis c h (.inr ⟨v, hv, hc⟩), hm, fun c h1 h2 => ?_⟩
  have h2 := hm c h2
  rcases u.mb c h1 with h | h
  · exact dis c h h2
  · have := r2.blk h2; omega


theorem MBT_still {t : TypeId} {H H' : AHeap} {b : Nat} {l : List Pr} (r : MdlT t H b l) (s : Still H H') {c : Nat} (h : MBT t H' b c) : MBT t H b c := by
  obtain ⟨v, h1, h2, _⟩ := r
  exact h.imp id fun ⟨u, hu, hb⟩ => ⟨u, by rw [← s.f h2 (fun h => h)]; exact hu, hb⟩


def putE (l : List Pr) (a : Pr) : Int × List Pr := if chk a.key [a.value] = 0 then putP l a (posP l a.key) else (chk a.key [a.value], l)
def insertE (l : List Pr) (a : Pr) : Int × List Pr := if chk a.key [a.value] = 0 then insertP l a (posP l a.key) else (chk a.key [a.value], l)
def swapE (l : List Pr) (key old new : ByteArray) : Int × List Pr := if chk key [old, new] = 0 then swapP l key old new (posP l key) else (chk key [old, new], l)
def getE (l : List Pr) (key : ByteArray) : Value := if chk key [] = 0 then getP l key (posP l key) else .tuple #[.string (mk []), .int .i64 (chk key [])]
def delE (l : List Pr) (key : ByteArray) : List Pr := if chk key [] = 0 then (if isP l key (posP l key) = true then l.take (posP l key) ++ l.drop (posP l key + 1) else l) else l

theorem getE_shape (l : List Pr) (key : ByteArray) : ∃ s e, getE l key = .tuple #[.string s, .int .i64 e] := by
  unfold getE getP
  split
  · split <;> exact ⟨_, _, rfl⟩
  · exact ⟨_, _, rfl⟩


theorem q_putM (b : Nat) (l : List Pr) (a : Pr) (H : AHeap) (ok : Ok H) (r : Mdl H b l) (hs : Srt l) (hl : l.length ≤ 20000) :
    ∃ H', CC F.model_Model_Put [.pointer (some ⟨b, 0, none⟩), .string a.key, .string a.value] H = some (.int .i64 (putE l a).1, H') ∧ Mdl H' b (putE l a).2 ∧ Up H b H' := by
  unfold putE
  split
  · rename_i h; exact q_Put b l a H ok r hl _ (posP_pos hs a.key) h
  · rename_i h; exact ⟨H, q_Put_bad b l a H r h, r, Up.refl H b⟩
theorem q_getM (b : Nat) (l : List Pr) (key : ByteArray) (H : AHeap) (r : Mdl H b l) (hs : Srt l) (hl : l.length ≤ 20000) : CC F.model_Model_Get [.pointer (some ⟨b, 0, none⟩), .string key] H = some (getE l key, H) := by
  unfold getE
  split
  · rename_i h; exact q_Get b l key H r (by omega) _ (posP_pos hs key) h
  · rename_i h; exact q_Get_bad b key H h
theorem q_delM (b : Nat) (l : List Pr) (key : ByteArray) (H : AHeap) (ok : Ok H) (r : Mdl H b l) (hs : Srt l) (hl : l.length ≤ 20000) :
    ∃ H', CC F.model_Model_Delete [.pointer (some ⟨b, 0, none⟩), .string key] H = some (getE l key, H') ∧ Mdl H' b (delE l key) ∧ Up H b H' := by
  unfold getE delE
  by_cases h : chk key [] = 0
  · rw [if_pos h, if_pos h]; exact q_Delete b l key H ok r hl _ (posP_pos hs key) h
  · rw [if_neg h, if_neg h]; exact ⟨H, q_Delete_bad b key H h, r, Up.refl H b⟩
theorem srt_putE {l : List Pr} (hs : Srt l) (a : Pr) : Srt (putE l a).2 := by
  unfold putE
  split
  · exact srt_put hs a
  · exact hs
theorem len_putE {l : List Pr} (hl : l.length ≤ 20000) (a : Pr) : (putE l a).2.length ≤ 20000 := by
  unfold putE
  split
  · exact len_put hl a
  · exact hl
theorem srt_insertE {l : List Pr} (hs : Srt l) (a : Pr) : Srt (insertE l a).2 := by
  unfold insertE
  split
  · exact srt_insert hs a
  · exact hs
theorem len_insertE {l : List Pr} (hl : l.length ≤ 20000) (a : Pr) : (insertE l a).2.length ≤ 20000 := by
  unfold insertE
  split
  · exact len_insert hl a
  · exact hl
theorem srt_swapE {l : List Pr} (hs : Srt l) (k o n : ByteArray) : Srt (swapE l k o n).2 := by
  unfold swapE
  split
  · exact srt_swap hs k o n
  · exact hs
theorem len_swapE {l : List Pr} (hl : l.length ≤ 20000) (k o n : ByteArray) : (swapE l k o n).2.length ≤ 20000 := by
  unfold swapE
  split
  · exact len_swap hl k o n
  · exact hl
theorem srt_delE {l : List Pr} (hs : Srt l) (k : ByteArray) : Srt (delE l k) := by
  unfold delE
  split
  · split
    · exact srt_del hs _
    · exact hs
  · exact hs
theorem len_delE {l : List Pr} (hl : l.length ≤ 20000) (k : ByteArray) : (delE l k).length ≤ 20000 := by
  unfold delE
  split
  · split
    · simp; omega
    · exact hl
  · exact hl

end Go.Proofs.YtlkgfbcencoahaaDoor

/-
  What a sorted list of pairs holds for a key, and how calls change it.
  Conditions: none. By an AI agent.
-/
set_option maxRecDepth 10000
set_option linter.unusedSimpArgs false
set_option linter.unusedVariables false
namespace Go.Proofs.YtlkgfbcencoahaaDoor
open Go Eng

/-- The value of a key. -/
def val (l : List Pr) (k : ByteArray) : Option ByteArray := (l.find? fun a => decide (a.key = k)).map Pr.value

theorem val_none {l : List Pr} {k : ByteArray} (h : ∀ a ∈ l, ¬ a.key = k) : val l k = none := by
  unfold val
  rw [List.find?_eq_none.2 (by simpa using h)]
  rfl
theorem val_cons (a : Pr) (l : List Pr) (k : ByteArray) : val (a :: l) k = if a.key = k then some a.value else val l k := by
  unfold val
  rw [List.find?_cons]
  by_cases h : a.key = k
  · simp [h]
  · simp [h]
theorem val_append (l m : List Pr) (k : ByteArray) : val (l ++ m) k = (val l k).or (val m k) := by
  unfold val
  rw [List.find?_append]
  cases List.find? (fun a => decide (a.key = k)) l <;> rfl
theorem val_mem : ∀ {l : List Pr} (_ : Srt l) {a : Pr}, a ∈ l → val l a.key = some a.value
  | [], _, _, h => by cases h
  | b :: l, hs, a, h => by
    obtain ⟨hb, hl⟩ := List.pairwise_cons.1 hs
    rw [val_cons]
    rcases List.mem_cons.1 h with rfl | h
    · rw [if_pos rfl]
    · have := hb a h
      rw [if_neg fun he => by rw [he, cmpS_self] at this; omega]
      exact val_mem hl h

theorem val_isP {l : List Pr} (hs : Srt l) (k : ByteArray) : val l k = if isP l k (posP l k) = true then some ((l[posP l k]?).elim (mk []) Pr.value) else none := by
  by_cases h : isP l k (posP l k) = true
  · obtain ⟨hp, he⟩ := isP_eq h
    rw [if_pos h, List.getElem?_eq_getElem hp]
    have := val_mem hs (List.getElem_mem hp)
    rw [he] at this
    exact this
  · rw [if_neg h]
    refine val_none fun a ha hk => h ?_
    obtain ⟨i, hi, rfl⟩ := List.getElem_of_mem ha
    rw [← hk]
    exact isP_self hs hi
theorem getP_val {l : List Pr} (hs : Srt l) (k : ByteArray) : getP l k (posP l k) = match val l k with | some v => .tuple #[.string v, .int .i64 0] | none => .tuple #[.string (mk []), .int .i64 9] := by
  rw [val_isP hs]
  unfold getP
  split <;> rfl

theorem val_set {a : Pr} {k : ByteArray} (hk : ¬ a.key = k) : ∀ (l : List Pr) (p : Nat), (∀ h : p < l.length, l[p].key = a.key) → val (l.set p a) k = val l k
  | [], _, _ => rfl
  | b :: l, 0, h => by
    have := h (by simp)
    rw [List.set_cons_zero, val_cons, val_cons, if_neg hk, if_neg (by rw [show b.key = a.key from this]; exact hk)]
  | b :: l, p + 1, h => by
    rw [List.set_cons_succ, val_cons, val_cons, val_set hk l p fun hp => h (by simpa using hp)]
theorem val_ins {a : Pr} {k : ByteArray} (hk : ¬ a.key = k) (l : List Pr) (p : Nat) : val (l.take p ++ a :: l.drop p) k = val l k := by
  rw [val_append, val_cons, if_neg hk, ← val_append, List.take_append_drop]
theorem val_del {l : List Pr} {k : ByteArray} {p : Nat} (hp : p < l.length) (hk : ¬ l[p].key = k) : val (l.take p ++ l.drop (p + 1)) k = val l k := by
  have e : l = l.take p ++ l[p] :: l.drop (p + 1) := by rw [← List.drop_eq_getElem_cons hp, List.take_append_drop]
  have h2 : val l k = val (l.take p ++ l[p] :: l.drop (p + 1)) k := by rw [← e]
  rw [h2, val_append, val_append, val_cons, if_neg hk]
theorem val_del_self {l : List Pr} (hs : Srt l) {p : Nat} (hp : p < l.length) : val (l.take p ++ l.drop (p + 1)) l[p].key = none := by
  refine val_none fun a ha hk => ?_
  rcases List.mem_append.1 ha with h | h
  · obtain ⟨i, hi, rfl⟩ := List.getElem_of_mem h
    rw [List.getElem_take] at hk
    have hi' : i < p := by simp at hi; omega
    have := List.pairwise_iff_getElem.1 hs i p (by omega) hp hi'
    rw [hk, cmpS_self] at this
    omega
  · obtain ⟨i, hi, rfl⟩ := List.getElem_of_mem h
    rw [List.getElem_drop] at hk
    have hi' : p + 1 + i < l.length := by simp at hi; omega
    have := List.pairwise_iff_getElem.1 hs p (p + 1 + i) hp hi' (by omega)
    rw [hk, cmpS_self] at this
    omega

/-- What a call makes of the value of a key: where there is no error, the key has the new value; nothing else is changed. -/
structure Eff (l l' : List Pr) (e : Int) (key : ByteArray) (v : Option ByteArray) : Prop where
  self : e = 0 → val l' key = v
  other : ∀ k, ¬ key = k → val l' k = val l k
  err : e ≠ 0 → l' = l

theorem eff_put {l : List Pr} (hs : Srt l) (a : Pr) : Eff l (putP l a (posP l a.key)).2 (putP l a (posP l a.key)).1 a.key (some a.value) := by
  have hs' := srt_put hs a
  unfold putP at hs' ⊢
  split
  · rename_i h
    rw [if_pos h] at hs'
    obtain ⟨hp, he⟩ := isP_eq h
    exact ⟨fun _ => val_mem hs' (List.mem_iff_getElem.2 ⟨posP l a.key, by simpa using hp, by simp⟩), fun k hk => val_set hk l _ fun _ => he, fun h => absurd rfl h⟩
  · rename_i h
    rw [if_neg h] at hs'
    split
    · exact ⟨fun h => (by simp at h), fun k _ => rfl, fun _ => rfl⟩
    · rename_i h2
      rw [if_neg h2] at hs'
      exact ⟨fun _ => val_mem hs' (by simp), fun k hk => val_ins hk l _, fun h => absurd rfl h⟩
theorem eff_insert {l : List Pr} (hs : Srt l) (a : Pr) : Eff l (insertP l a (posP l a.key)).2 (insertP l a (posP l a.key)).1 a.key (some a.value) := by
  have hs' := srt_insert hs a
  unfold insertP at hs' ⊢
  split
  · exact ⟨fun h => (by simp at h), fun k _ => rfl, fun _ => rfl⟩
  · rename_i h
    rw [if_neg h] at hs'
    split
    · exact ⟨fun h => (by simp at h), fun k _ => rfl, fun _ => rfl⟩
    · rename_i h2
      rw [if_neg h2] at hs'
      exact ⟨fun _ => val_mem hs' (by simp), fun k hk => val_ins hk l _, fun h => absurd rfl h⟩
theorem eff_swap {l : List Pr} (hs : Srt l) (key old new : ByteArray) : Eff l (swapP l key old new (posP l key)).2 (swapP l key old new (posP l key)).1 key (some new) := by
  have hs' := srt_swap hs key old new
  unfold swapP at hs' ⊢
  split
  · rename_i h
    rw [if_pos h] at hs'
    obtain ⟨hp, he⟩ := isP_eq h
    split
    · rename_i h2
      rw [if_pos h2] at hs'
      exact ⟨fun _ => val_mem (a := ⟨key, new⟩) hs' (List.mem_iff_getElem.2 ⟨posP l key, by simpa using hp, by simp⟩), fun k hk => val_set (a := ⟨key, new⟩) hk l _ fun _ => he, fun h => absurd rfl h⟩
    · exact ⟨fun h => (by simp at h), fun k _ => rfl, fun _ => rfl⟩
  · exact ⟨fun h => (by simp at h), fun k _ => rfl, fun _ => rfl⟩
theorem eff_delete {l : List Pr} (hs : Srt l) (key : ByteArray) : Eff l (if isP l key (posP l key) = true then l.take (posP l key) ++ l.drop (posP l key + 1) else l) (if isP l key (posP l key) = true then 0 else 9) key none := by
  split
  · rename_i h
    obtain ⟨hp, he⟩ := isP_eq h
    refine ⟨fun _ => ?_, fun k hk => val_del hp (by rw [he]; exact hk), fun h => absurd rfl h⟩
    have := val_del_self hs hp
    rw [he] at this
    exact this
  · exact ⟨fun h => (by simp at h), fun k _ => rfl, fun _ => rfl⟩

/-! ### Sorted lists with the same elements -/
theorem srt_ext : ∀ {c l : List Pr} (_ : Srt c) (_ : Srt l), (∀ a, a ∈ c ↔ a ∈ l) → c = l
  | [], [], _, _, _ => rfl
  | [], b :: l, _, _, h => by have := (h b).2 (by simp); cases this
  | a :: c, [], _, _, h => by have := (h a).1 (by simp); cases this
  | a :: c, b :: l, hc, hl, h => by
    obtain ⟨ha, hc'⟩ := List.pairwise_cons.1 hc
    obtain ⟨hb, hl'⟩ := List.pairwise_cons.1 hl
    have e : a = b := by
      rcases List.mem_cons.1 ((h a).1 (by simp)) with h1 | h1
      · exact h1
      · rcases List.mem_cons.1 ((h b).2 (by simp)) with h2 | h2
        · exact h2.symm
        · have := cmpS_trans (ha b h2) (hb a h1)
          rw [cmpS_self] at this
          omega
    subst e
    rw [srt_ext hc' hl' fun x => ?_]
    constructor
    · intro hx
      rcases List.mem_cons.1 ((h x).1 (List.mem_cons_of_mem _ hx)) with h1 | h1
      · have := ha x hx
        rw [h1, cmpS_self] at this
        omega
      · exact h1
    · intro hx
      rcases List.mem_cons.1 ((h x).2 (List.mem_cons_of_mem _ hx)) with h1 | h1
      · have := hb x hx
        rw [h1, cmpS_self] at this
        omega
      · exact h1

/-! ### Allowed pairs -/
def AllOk (l : List Pr) : Prop := ∀ a ∈ l, chk a.key [a.value] = 0
theorem ofErr_ok : ∀ {l : List Pr} (o : Option Pr), Srt l → AllOk l → (∀ b, o = some b → ∀ a ∈ l, cmpS b.key a.key < 0) → ofErr o l = 0
  | [], _, _, _, _ => rfl
  | a :: l, o, hs, hk, ho => by
    obtain ⟨ha, hl⟩ := List.pairwise_cons.1 hs
    have h1 : chk a.key [a.value] = 0 := hk a (by simp)
    have h2 : (o.elim false fun b => decide (0 ≤ cmpS b.key a.key)) = false := by
      cases o with
      | none => rfl
      | some b =>
        have := ho b rfl a (by simp)
        simp; omega
    rw [ofErr, if_neg (by simp [h1]), h2, if_neg (by simp)]
    exact ofErr_ok (some a) hl (fun b hb => hk b (by simp [hb])) fun b hb => by cases hb; exact ha
theorem allOk_put {l : List Pr} (h : AllOk l) {a : Pr} (ha : chk a.key [a.value] = 0) (p : Nat) : AllOk (putP l a p).2 := by
  unfold putP
  split
  · intro b hb
    rcases List.mem_or_eq_of_mem_set hb with hb | rfl
    · exact h b hb
    · exact ha
  · split
    · exact h
    · intro b hb
      rcases List.mem_append.1 hb with hb | hb
      · exact h b (List.mem_of_mem_take hb)
      · rcases List.mem_cons.1 hb with rfl | hb
        · exact ha
        · exact h b (List.mem_of_mem_drop hb)
theorem allOk_insert {l : List Pr} (h : AllOk l) {a : Pr} (ha : chk a.key [a.value] = 0) (p : Nat) : AllOk (insertP l a p).2 := by
  unfold insertP
  split
  · exact h
  · split
    · exact h
    · intro b hb
      rcases List.mem_append.1 hb with hb | hb
      · exact h b (List.mem_of_mem_take hb)
      · rcases List.mem_cons.1 hb with rfl | hb
        · exact ha
        · exact h b (List.mem_of_mem_drop hb)
theorem allOk_swap {l : List Pr} (h : AllOk l) {key old new : ByteArray} (ha : chk key [new] = 0) (p : Nat) : AllOk (swapP l key old new p).2 := by
  unfold swapP
  split
  · split
    · intro b hb
      rcases List.mem_or_eq_of_mem_set hb with hb | rfl
      · exact h b hb
      · exact ha
    · exact h
  · exact h
theorem allOk_sub {l m : List Pr} (h : AllOk l) (hm : ∀ a ∈ m, a ∈ l) : AllOk m := fun a ha => h a (hm a ha)

end Go.Proofs.YtlkgfbcencoahaaDoor

/-
  The plain map: pairs that are right; a map made since some moment; a pair of a slice.
  Conditions: none. By an AI agent.
-/
set_option maxRecDepth 10000
set_option linter.unusedSimpArgs false
set_option linter.unusedVariables false
namespace Go.Proofs.YtlkgfbcencoahaaDoor
open Go Eng

theorem rd_pair {H : AHeap} {v : Value} {l : List Pr} (hr : Rd EPr H v l) {i : Nat} (hi : i < l.length) {iv : Int} (hiv : iv = (i : Int)) :
    ∃ b o, ixS 2 v (.int .i64 iv) = some (.pointer (some ⟨b, o, none⟩)) ∧ cellB (H.f b) o = some (.string l[i].key) ∧ cellB (H.f b) (o + 1) = some (.string l[i].value) ∧ b < H.n := by
  obtain ⟨b1, o1, ix, hb, hc, _⟩ := hr.ix (q := .i64) hi
  have ix : ixS 2 v (.int .i64 (i : Int)) = some (.pointer (some ⟨b1, o1, none⟩)) := ix
  have hc : cutB (H.f b1) o1 2 = some [.string l[i].key, .string l[i].value] := hc
  have c0 := cutB_cell hc (i := 0) (by decide)
  have c1 := cutB_cell hc (i := 1) (by decide)
  subst hiv
  exact ⟨b1, o1, ix, c0, c1, hb⟩

def VOk (l : List Pr) : Prop := ∀ a ∈ l, chk a.key [a.value] = 0
theorem chk_len {k v : ByteArray} (h : chk k [v] = 0) : bl k ≠ [] ∧ (bl k).length ≤ 24 ∧ (bl v).length ≤ 40 := by
  unfold chk at h
  split at h
  · cases h
  · rename_i h1
    split at h
    · cases h
    · rename_i h2
      simp at h2
      exact ⟨h1, h2.1, h2.2⟩
theorem VOk.sz {l : List Pr} (h : VOk l) : ∀ a ∈ l, (bl a.key).length ≤ 1000 ∧ (bl a.value).length ≤ 1000 := fun a ha => by
  have := chk_len (h a ha); omega
theorem vok_ins {l : List Pr} (h : VOk l) {a : Pr} (ha : chk a.key [a.value] = 0) (p : Nat) : VOk (l.take p ++ a :: l.drop p) := fun x hx => by
  rcases List.mem_append.1 hx with hx | hx
  · exact h x (List.mem_of_mem_take hx)
  · rcases List.mem_cons.1 hx with rfl | hx
    · exact ha
    · exact h x (List.mem_of_mem_drop hx)
theorem vok_insertE {l : List Pr} (h : VOk l) (a : Pr) : VOk (insertE l a).2 := by
  unfold insertE
  split
  · rename_i hc
    unfold insertP
    split
    · exact h
    · split
      · exact h
      · exact vok_ins h hc _
  · exact h
theorem vok_putE {l : List Pr} (h : VOk l) (a : Pr) : VOk (putE l a).2 := by
  unfold putE
  split
  · rename_i hc
    unfold putP
    split
    · intro x hx
      rcases List.mem_or_eq_of_mem_set hx with hx | rfl
      · exact h x hx
      · exact hc
    · split
      · exact h
      · exact vok_ins h hc _
  · exact h

/-- A map made since H0. -/
structure Fresh (H0 H : AHeap) (bm : Nat) (l : List Pr) : Prop where
  still : Still H0 H
  ok : Ok H
  mdl : Mdl H bm l
  new : ∀ c, MB H bm c → H0.n ≤ c
  srt : Srt l
  len : l.length ≤ 20000
  vok : VOk l
theorem Fresh.start {H H1 : AHeap} (ok : Ok H) (h : H.push (.cells [.slice none 0 0] T.model_Model true) = H1) : Fresh H H1 H.n [] := by
  have s : Still H H1 := by rw [← h]; exact (Fr.refl H).push _
  have f : H1.f H.n = .cells [.slice none 0 0] T.model_Model true := by rw [← h]; exact push_f_eq rfl
  refine ⟨s, ok.fr s, ⟨_, f, by rw [← h]; exact Nat.lt_succ_self _, .inl ⟨rfl, rfl⟩, by simp [blockOf]⟩, fun c hc => ?_, List.Pairwise.nil, by simp, fun a ha => by simp at ha⟩
  have e : c = H.n := hc.elim id fun ⟨u, hu, hb⟩ => by rw [f] at hu; cases hu; cases hb
  omega
theorem Fresh.to {H0 H H' : AHeap} {bm : Nat} {l : List Pr} (r : Fresh H0 H bm l) (s : Still H H') : Fresh H0 H' bm l :=
  ⟨r.still.trans s, r.ok.fr s, r.mdl.still s, fun c h => r.new c (MBT_still r.mdl s h), r.srt, r.len, r.vok⟩
theorem Fresh.up {H0 H H' : AHeap} {bm : Nat} {l l' : List Pr} (r : Fresh H0 H bm l) (m : Mdl H' bm l') (u : Up H bm H') (h1 : Srt l') (h2 : l'.length ≤ 20000) (h3 : VOk l') : Fresh H0 H' bm l' :=
  ⟨r.still.then u.fr fun c hc h => by have := r.new c h; omega, r.ok.fr u.fr, m, fun c h => by
    rcases u.mb c h with h | h
    · exact r.new c h
    · have := r.still.n; omega, h1, h2, h3⟩
theorem Fresh.put {H0 H : AHeap} {bm : Nat} {l : List Pr} (r : Fresh H0 H bm l) (a : Pr) :
    ∃ H', CC F.model_Model_Put [.pointer (some ⟨bm, 0, none⟩), .string a.key, .string a.value] H = some (.int .i64 (putE l a).1, H') ∧ Fresh H0 H' bm (putE l a).2 ∧ Fr (MB H bm) H H' := by
  obtain ⟨H', e1, e2, e3⟩ := q_putM bm l a H r.ok r.mdl r.srt r.len
  exact ⟨H', e1, r.up e2 e3 (srt_putE r.srt a) (len_putE r.len a) (vok_putE r.vok a), e3.fr⟩

theorem vok_delE {l : List Pr} (h : VOk l) (k : ByteArray) : VOk (delE l k) := by
  unfold delE
  split
  · split
    · intro x hx
      rcases List.mem_append.1 hx with hx | hx
      · exact h x (List.mem_of_mem_take hx)
      · exact h x (List.mem_of_mem_drop hx)
    · exact h
  · exact h
theorem Fresh.del {H0 H : AHeap} {bm : Nat} {l : List Pr} (r : Fresh H0 H bm l) (k : ByteArray) :
    ∃ H', CC F.model_Model_Delete [.pointer (some ⟨bm, 0, none⟩), .string k] H = some (getE l k, H') ∧ Fresh H0 H' bm (delE l k) ∧ Fr (MB H bm) H H' := by
  obtain ⟨H', e1, e2, e3⟩ := q_delM bm l k H r.ok r.mdl r.srt r.len
  exact ⟨H', e1, r.up e2 e3 (srt_delE r.srt k) (len_delE r.len k) (vok_delE r.vok k), e3.fr⟩

end Go.Proofs.YtlkgfbcencoahaaDoor

/-
  Bytes: rows of them, appended to; strings of them.
  Conditions: none. By an AI agent.
-/
set_option maxRecDepth 10000
set_option linter.unusedSimpArgs false
set_option linter.unusedVariables false
namespace Go.Proofs.YtlkgfbcencoahaaDoor
open Go Eng

abbrev BR (H : AHeap) (v : Value) (l : List UInt8) : Prop := RdS EB T.uint8 H v l
theorem BR.str {H : AHeap} {v : Value} {l : List UInt8} (r : BR H v l) : xconv Tryd.prog T.sl_uint8 T.string v H = some (.string (mk l), H) :=
  conv_bs (P := Tryd.prog) (t := T.sl_uint8) (s := T.string) (e := T.uint8) Tryd.underlying34 Tryd.underlying5 Tryd.underlying9 r.1
theorem newB {H : AHeap} {l : List UInt8} {b : Nat} (hb : b < H.n) (hf : H.f b = .cells (EB.cells l) T.uint8 true) : RdS EB T.uint8 H (.slice (some ⟨b, 0, none⟩) l.length (2 * l.length)) l := by
  refine ⟨?_, .inr ⟨b, 0, _, _, rfl, by omega, .inl (by omega), hb⟩⟩
  by_cases h0 : l = []
  · subst h0; exact .inr (.inl ⟨rfl, _, _, rfl, rfl⟩)
  · refine .inr (.inr ⟨b, 0, _, rfl, h0, hb, ?_⟩)
    rw [hf, cutB_c (by simp), List.drop_zero, List.take_of_length_le (by simp)]
def by8 (n : Nat) : UInt8 := UInt8.ofNat n
theorem by8_cell (n : Nat) : byteCell (by8 n) = .int .u8 ((n : Int) % 256) := by
  unfold byteCell by8
  rw [UInt8.toNat_ofNat']
  rfl
theorem cells_one (a : Nat) : EB.cells [by8 a] = [.int .u8 ((a : Int) % 256)] := by
  rw [EB_cells]; simp only [List.map_cons, List.map_nil, by8_cell]

/-- In a heap in which nothing that was in H0 has turned, a row of its own made since. -/
structure Since (H0 H : AHeap) (v : Value) (l : List UInt8) : Prop where
  still : Still H0 H
  own : Own EB H T.uint8 v l
  new : ∀ b, blockOf v = some b → H0.n ≤ b
theorem Since.nil {H : AHeap} : Since H H (.slice none 0 0) [] := ⟨Fr.refl H, .inl ⟨rfl, rfl⟩, fun b h => by cases h⟩
theorem Since.app {H0 H : AHeap} {v : Value} {l : List UInt8} (r : Since H0 H v l) (m : List UInt8) {src : Option (Nat × List Value)} (hsrc : src = some (m.length, EB.cells m)) (hb : l.length + m.length ≤ 1000000000000) :
    ∃ v' H', Eng.app T.uint8 1 1 v src H = some (v', H') ∧ Since H0 H' v' (l ++ m) := by
  obtain ⟨v', H', e1, e2, e3, e4⟩ := r.own.appA m (sz := 1) (bytes := 1) rfl (by omega) (by omega) hsrc
  refine ⟨v', H', e1, r.still.then e3 fun b hb h => ?_, e2, fun b h => ?_⟩
  · unfold OnlyOf at h; have := r.new b h; omega
  · rcases e4 with h4 | h4
    · rw [h4] at h; exact r.new b h
    · rw [h4] at h; cases h; exact r.still.n
theorem Since.to {H0 H H' : AHeap} {v : Value} {l : List UInt8} (r : Since H0 H v l) (s : Still H H') : Since H0 H' v l := ⟨r.still.trans s, r.own.still s, r.new⟩
theorem Since.lit {H0 H : AHeap} {v : Value} {l : List UInt8} (r : Since H0 H v l) (m : List UInt8) {H1 : AHeap} (h1 : H.push (.cells (EB.cells m) T.uint8 true) = H1) (hb : l.length + m.length ≤ 1000000000000) :
    ∃ v' H', Eng.app T.uint8 1 1 v (srcS 1 (.slice (some ⟨H.n, 0, none⟩) m.length (2 * m.length)) H1) H1 = some (v', H') ∧ Since H0 H' v' (l ++ m) := by
  have s1 : Still H H1 := by rw [← h1]; exact (Fr.refl H).push _
  have n1 : H1.n = H.n + 1 := by rw [← h1]; rfl
  have f1 : H1.f H.n = .cells (EB.cells m) T.uint8 true := by rw [← h1]; exact push_f_eq rfl
  have rm : BR H1 (.slice (some ⟨H.n, 0, none⟩) m.length (2 * m.length)) m := newB (by omega) f1
  exact (r.to s1).app m (rm.1.src (sz := 1) rfl) hb
theorem str_add {t : TypeId} {ox oy : Operand} {a b : ByteArray} (h : (bl a).length + (bl b).length ≤ 4611686018427387904) : xbin Tryd.prog .add t ox oy (.string a) (.string b) = some (.string (mk (bl a ++ bl b))) := by
  show strOp .add a b = _
  unfold strOp
  simp only [if_pos h]
theorem str_add' {t : TypeId} {ox oy : Operand} {a b : List UInt8} (h : a.length + b.length ≤ 4611686018427387904) : xbin Tryd.prog .add t ox oy (.string (mk a)) (.string (mk b)) = some (.string (mk (a ++ b))) := by
  have := str_add (t := t) (ox := ox) (oy := oy) (a := mk a) (b := mk b) (by rw [bl_mk, bl_mk]; exact h)
  rwa [bl_mk, bl_mk] at this
theorem srcT_b (s : ByteArray) : srcT (.string s) = some ((bl s).length, EB.cells (bl s)) := by
  show some ((bl s).length, (bl s).map byteCell) = _
  rw [EB_cells]
/-- A string of one byte. -/
theorem one_str {H : AHeap} (a : Nat) {H1 : AHeap} (h1 : H.push (.cells [.int .u8 ((a : Int) % 256)] T.uint8 true) = H1) : Still H H1 ∧ xconv Tryd.prog T.sl_uint8 T.string (.slice (some ⟨H.n, 0, none⟩) 1 2) H1 = some (.string (mk [by8 a]), H1) := by
  have s1 : Still H H1 := by rw [← h1]; exact (Fr.refl H).push _
  have n1 : H1.n = H.n + 1 := by rw [← h1]; rfl
  have f1 : H1.f H.n = .cells (EB.cells [by8 a]) T.uint8 true := by rw [cells_one, ← h1]; exact push_f_eq rfl
  exact ⟨s1, BR.str (newB (l := [by8 a]) (by omega) f1)⟩

theorem xix {s : ByteArray} {i : Nat} (h : i < (bl s).length) : xindex Tryd.prog T.string (.string s) (.int .i64 (i : Int)) = some (.int .u8 ((bl s)[i].toNat : Int)) := by
  have e : xindex Tryd.prog T.string (.string s) (.int .i64 (i : Int)) = (if (0 : Int) ≤ (i : Int) then ((bl s)[(i : Int).toNat]?).map byteCell else none) := by
    have hu : Tryd.prog.underlying T.string = some .string := Tryd.underlying9
    unfold xindex; rw [hu]
  rw [e, if_pos (by omega), Int.toNat_natCast, List.getElem?_eq_getElem h]
  rfl
theorem x_sb (l : List UInt8) (H : AHeap) : xconv Tryd.prog T.string T.sl_uint8 (.string (mk l)) H = some (.slice (some ⟨H.n, 0, none⟩) l.length (2 * l.length + 1), H.push (.cells (EB.cells l) T.uint8 true)) := by
  have h1 : Tryd.prog.underlying T.string = some .string := Tryd.underlying9
  have h2 : Tryd.prog.underlying T.sl_uint8 = some (.slice T.uint8) := Tryd.underlying34
  have h3 : Tryd.prog.underlying T.uint8 = some (.int .u8) := Tryd.underlying5
  have h4 : Tryd.prog.cellsOf T.uint8 = 1 := by kernel_rfl
  unfold xconv
  simp only [h1, h2, h3, h4, if_true, bl_mk, EB_cells]
theorem own_sb {H : AHeap} {l : List UInt8} {b : Nat} (hb : b < H.n) (hf : H.f b = .cells (EB.cells l) T.uint8 true) : Own EB H T.uint8 (.slice (some ⟨b, 0, none⟩) l.length (2 * l.length + 1)) l := by
  refine .inr (.inr ⟨b, 0, l.length, _, rfl, Nat.le_refl _, hb, hf, ?_, ?_⟩)
  · rw [Enc.cells_len]; omega
  · rw [List.drop_zero, List.take_of_length_le (by rw [Enc.cells_len]; exact Nat.le_refl _)]
theorem slT_two {s : ByteArray} {q q' : IntKind} {i j : Nat} (h1 : i ≤ j) (h2 : j ≤ (bl s).length) : slT (.string s) (some (.int q (i : Int))) (some (.int q' (j : Int))) = some (.string (mk (((bl s).take j).drop i))) := by
  show ((highOf (bl s).length (bl s).length (some (.int q' (j : Int)))).bind fun h => (lowOf h (some (.int q (i : Int)))).map fun l => Value.string (mk (((bl s).take h).drop l))) = _
  rw [high_nat h2]
  show ((lowOf j (some (.int q (i : Int)))).map fun l => Value.string (mk (((bl s).take j).drop l))) = _
  rw [low_nat h1]
  rfl
theorem add_u8 {t : TypeId} {ox oy : Operand} {a b : Int} (h : 0 ≤ a + b ∧ a + b < 256) : xbin Tryd.prog .add t ox oy (.int .u8 a) (.int .u8 b) = some (.int .u8 (a + b)) := by
  rw [xbin_add, wrapU8, Int.emod_eq_of_lt h.1 h.2]
theorem sub_u8 {t : TypeId} {ox oy : Operand} {a b : Int} (h : 0 ≤ a - b ∧ a - b < 256) : xbin Tryd.prog .sub t ox oy (.int .u8 a) (.int .u8 b) = some (.int .u8 (a - b)) := by
  rw [xbin_sub, wrapU8, Int.emod_eq_of_lt h.1 h.2]

end Go.Proofs.YtlkgfbcencoahaaDoor

/-
  Chapter 44, plain: pages of a sorted list, one after the other, while it changes.
  Conditions: none. By an AI agent.
-/
set_option maxRecDepth 10000
set_option linter.unusedSimpArgs false
set_option linter.unusedVariables false
namespace Go.Proofs.YtlkgfbcencoahaaDoor
open Go Eng

/-- Is a pair behind a key (or at it), and before an end? -/
def inF (k : ByteArray) (w : Bool) (e : ByteArray) (a : Pr) : Bool :=
  (if w then !decide (cmpS a.key k < 0) else decide (0 < cmpS a.key k)) && (decide (bl e = []) || decide (cmpS a.key e < 0))

theorem Srt.filter {l : List Pr} (h : Srt l) (p : Pr → Bool) : Srt (l.filter p) := List.Pairwise.sublist List.filter_sublist h
theorem cmp_pos {a b : ByteArray} : 0 < cmpS a b ↔ cmpS b a < 0 := by rw [cmpS_swap a b]; omega
theorem filter_above : ∀ {G : List Pr} (_ : Srt G) (i : Nat) (h : i < G.length), G.filter (fun a => decide (0 < cmpS a.key G[i].key)) = G.drop (i + 1)
  | b :: G, hs, 0, _ => by
    obtain ⟨hb, hG⟩ := List.pairwise_cons.1 hs
    rw [List.filter_cons_of_neg (by simp [cmpS_self]), List.drop_succ_cons, List.drop_zero, List.filter_eq_self]
    intro x hx
    exact decide_eq_true (cmp_pos.2 (hb x hx))
  | b :: G, hs, i + 1, h => by
    obtain ⟨hb, hG⟩ := List.pairwise_cons.1 hs
    have hi : i < G.length := by simpa using h
    have := hb G[i] (List.getElem_mem hi)
    rw [List.getElem_cons_succ, List.filter_cons_of_neg (by simp; omega), List.drop_succ_cons]
    exact filter_above hG i hi

theorem inF_mem {k e : ByteArray} {w : Bool} {a : Pr} (h : inF k w e a = true) : ¬ cmpS a.key k < 0 := by
  unfold inF at h
  rw [Bool.and_eq_true] at h
  cases w with
  | true => simpa using h.1
  | false => have := of_decide_eq_true (by simpa using h.1 : decide (0 < cmpS a.key k) = true); omega
theorem inF_above {k e : ByteArray} {w : Bool} {a b : Pr} (hb : inF k w e b = true) : inF b.key false e a = (inF k w e a && decide (0 < cmpS a.key b.key)) := by
  have h1 := inF_mem hb
  by_cases h : 0 < cmpS a.key b.key
  · have h2 : cmpS b.key a.key < 0 := cmp_pos.1 h
    have h3 : cmpS k a.key < 0 := by
      rcases Int.lt_or_le (cmpS k b.key) 0 with h4 | h4
      · exact cmpS_trans h4 h2
      · have h5 : cmpS b.key k = 0 := by have := cmpS_swap b.key k; omega
        rw [← cmpS_eq.1 h5]; exact h2
    have h4 := cmp_pos.2 h3
    unfold inF
    cases w with
    | true => simp [h]; intro _; omega
    | false => simp [h, h4]
  · unfold inF
    simp [h]
/-- What is behind an element of a range. -/
theorem inF_step {L G : List Pr} (hs : Srt L) {k e : ByteArray} {w : Bool} (hG : G = L.filter (inF k w e)) (i : Nat) (h : i < G.length) : L.filter (inF G[i].key false e) = G.drop (i + 1) := by
  subst hG
  rw [← filter_above (hs.filter _) i h, List.filter_filter]
  have hb : inF k w e (L.filter (inF k w e))[i] = true := (List.mem_filter.1 (List.getElem_mem h)).2
  refine List.filter_congr fun a _ => ?_
  rw [inF_above hb, Bool.and_comm]

/-- The last key of a page. -/
def lastK (G : List Pr) (n : Nat) : ByteArray := (G[n - 1]?).elim (mk []) Pr.key
theorem lastK_eq {G : List Pr} {n : Nat} (h : n - 1 < G.length) : lastK G n = G[n - 1].key := by
  unfold lastK; rw [List.getElem?_eq_getElem h]; rfl
def marS (e k : ByteArray) : ByteArray := mk (marB (bl e) (bl k))
def pgL (G : List Pr) (n : Nat) : List Pr := G.take n
def pgM (G : List Pr) (n : Nat) (e : ByteArray) : ByteArray := if G.length ≤ n then mk [] else marS e (lastK G n)
/-- All pages. -/
def chunks (n : Nat) : Nat → List Pr → List (List Pr)
  | 0, _ => []
  | f + 1, l => if l = [] then [] else l.take n :: chunks n f (l.drop n)

/-! ### While the map changes -/
structure Chg where
  key : ByteArray
  value : ByteArray
  gone : Bool
def chgM (M : List Pr) (c : Chg) : List Pr := if c.gone then delE M c.key else (putE M ⟨c.key, c.value⟩).2
def chgs (M : List Pr) : List Chg → List Pr
  | [] => M
  | c :: _ => chgM M c
def nextG (M : List Pr) (ch : List Chg) (G : List Pr) (n : Nat) (e : ByteArray) : List Pr := (chgs M ch).filter (inF (lastK G n) false e)
def goP (n : Nat) (e : ByteArray) : Nat → List Pr → List Chg → List Pr → List Pr
  | 0, _, _, _ => []
  | f + 1, M, ch, G => if G.length ≤ n then G else G.take n ++ goP n e f (chgs M ch) ch.tail (nextG M ch G n e)
def goL (n : Nat) (e : ByteArray) : Nat → List Pr → List Chg → List Pr → List (List Pr)
  | 0, _, _, _ => []
  | f + 1, M, ch, G => if G.length ≤ n then (if G = [] then [] else [G]) else G.take n :: goL n e f (chgs M ch) ch.tail (nextG M ch G n e)
def goT (n : Nat) (e : ByteArray) : Nat → List Pr → List Chg → List Pr → List ByteArray
  | 0, _, _, _ => []
  | f + 1, M, ch, G => if G.length ≤ n then [] else (ch.head?.elim [] fun c => [c.key]) ++ goT n e f (chgs M ch) ch.tail (nextG M ch G n e)
/-- The map behind all pages. -/
def goM (n : Nat) (e : ByteArray) : Nat → List Pr → List Chg → List Pr → List Pr
  | 0, M, _, _ => M
  | f + 1, M, ch, G => if G.length ≤ n then M else goM n e f (chgs M ch) ch.tail (nextG M ch G n e)

theorem srt_chgM {M : List Pr} (h : Srt M) (c : Chg) : Srt (chgM M c) := by
  unfold chgM; split
  · exact srt_delE h _
  · exact srt_putE h _
theorem srt_chgs {M : List Pr} (h : Srt M) (ch : List Chg) : Srt (chgs M ch) := by
  cases ch with
  | nil => exact h
  | cons c _ => exact srt_chgM h c
theorem len_fput {M : List Pr} (p : Pr → Bool) (a : Pr) (i : Nat) : ((putP M a i).2.filter p).length ≤ (M.filter p).length + 1 := by
  have hins : ∀ (x : List Pr) (j : Nat), ((M.take i ++ a :: M.drop j).filter p).length ≤ ((M.take i).filter p).length + ((M.drop j).filter p).length + 1 := fun x j => by
    rw [List.filter_append, List.length_append, List.filter_cons]
    split
    · rw [List.length_cons]; omega
    · omega
  have hsum : ∀ j, i ≤ j → ((M.take i).filter p).length + ((M.drop j).filter p).length ≤ (M.filter p).length := fun j hj => by
    have h1 : (M.filter p).length = ((M.take i).filter p).length + ((M.drop i).filter p).length := by
      rw [← List.length_append, ← List.filter_append, List.take_append_drop]
    have h2 : ((M.drop j).filter p).length ≤ ((M.drop i).filter p).length := by
      refine List.Sublist.length_le (List.Sublist.filter p ?_)
      rw [show j = i + (j - i) by omega, ← List.drop_drop]
      exact List.drop_sublist _ _
    omega
  unfold putP
  split
  · rename_i h
    have hlt := isP_lt h
    have h1 := hins [] (i + 1)
    have h2 := hsum (i + 1) (by omega)
    show ((M.set i a).filter p).length ≤ _
    rw [List.set_eq_take_append_cons_drop, if_pos hlt]
    omega
  · split
    · exact Nat.le_succ _
    · have := hins [] i
      have := hsum i (Nat.le_refl _)
      show ((M.take i ++ a :: M.drop i).filter p).length ≤ _
      omega
theorem len_fchg {M : List Pr} (p : Pr → Bool) (c : Chg) : ((chgM M c).filter p).length ≤ (M.filter p).length + 1 := by
  unfold chgM
  split
  · unfold delE
    have hdel : ∀ i, ((M.take i ++ M.drop (i + 1)).filter p).length ≤ (M.filter p).length + 1 := fun i => by
      have h : (M.take i ++ M.drop (i + 1)).Sublist M := by
        conv => rhs; rw [← List.take_append_drop i M]
        refine List.Sublist.append (List.Sublist.refl _) ?_
        rw [← List.drop_drop]
        exact List.drop_sublist _ _
      have := (h.filter p).length_le
      omega
    split
    · split
      · exact hdel _
      · exact Nat.le_succ _
    · exact Nat.le_succ _
  · unfold putE
    split
    · exact len_fput p _ _
    · exact Nat.le_succ _
theorem mem_val {M : List Pr} {a : Pr} (h : val M a.key = some a.value) : a ∈ M := by
  unfold val at h
  obtain ⟨b, hb, hv⟩ := Option.map_eq_some_iff.1 h
  have hk : b.key = a.key := by simpa using List.find?_some hb
  have : b = a := by cases a; cases b; simp_all
  rw [← this]
  exact List.mem_of_find?_eq_some hb
theorem mem_chg {M : List Pr} (hs : Srt M) {a : Pr} (ha : a ∈ M) {c : Chg} (hc : ¬ c.key = a.key) : a ∈ chgM M c := by
  have hv := val_mem hs ha
  unfold chgM
  split
  · unfold delE
    split
    · exact mem_val (((eff_delete hs c.key).other a.key hc).trans hv)
    · exact ha
  · unfold putE
    split
    · exact mem_val (((eff_put hs ⟨c.key, c.value⟩).other a.key hc).trans hv)
    · exact ha

theorem goP_above (n : Nat) (e : ByteArray) : ∀ (f : Nat) (M : List Pr) (ch : List Chg) (G : List Pr) (k : ByteArray) (w : Bool), 1 ≤ n → (∀ x ∈ G, inF k w e x = true) → ∀ x ∈ goP n e f M ch G, inF k w e x = true
  | 0, _, _, _, _, _, _, _, x, hx => by cases hx
  | f + 1, M, ch, G, k, w, hn, hG, x, hx => by
    rw [goP] at hx
    split at hx
    · exact hG x hx
    · rename_i hlen
      rcases List.mem_append.1 hx with hx | hx
      · exact hG x (List.mem_of_mem_take hx)
      · have hlt : n - 1 < G.length := by omega
        have := goP_above n e f _ _ _ (lastK G n) false hn (fun y hy => (List.mem_filter.1 hy).2) x hx
        rw [lastK_eq hlt, inF_above (hG _ (List.getElem_mem hlt)), Bool.and_eq_true] at this
        exact this.1

theorem nodup_srt {l : List Pr} (h : Srt l) : l.Nodup := by
  refine List.Pairwise.imp ?_ h
  rintro a b hab rfl
  rw [cmpS_self] at hab
  cases hab

theorem count_one {l : List Pr} (h : l.Nodup) {a : Pr} (ha : a ∈ l) : l.count a = 1 := by
  have h1 := List.nodup_iff_count.1 h a
  have h2 := List.count_pos_iff.2 ha
  omega

theorem next_len {n : Nat} {e : ByteArray} {M : List Pr} {ch : List Chg} {G : List Pr} {k : ByteArray} {w : Bool} (hs : Srt M) (hG : G = M.filter (inF k w e)) (hn : 1 ≤ n) (hlen : n < G.length) :
    (nextG M ch G n e).length + ch.tail.length + 1 ≤ G.length + ch.length := by
  have hlt : n - 1 < G.length := by omega
  have h1 := inF_step hs hG (n - 1) hlt
  unfold nextG
  rw [lastK_eq hlt]
  cases ch with
  | nil =>
    show (M.filter _).length + 0 + 1 ≤ G.length + 0
    rw [h1, List.length_drop]; omega
  | cons c ch =>
    show ((chgM M c).filter _).length + ch.length + 1 ≤ G.length + (ch.length + 1)
    have := len_fchg (M := M) (inF G[n - 1].key false e) c
    rw [h1, List.length_drop] at this
    omega

/-- A pair that is not touched comes once. -/
theorem goP_one (n : Nat) (e : ByteArray) (hn : 1 ≤ n) (a : Pr) : ∀ (f : Nat) (M : List Pr) (ch : List Chg) (G : List Pr) (k : ByteArray) (w : Bool), Srt M → G = M.filter (inF k w e) → G.length + ch.length < f → a ∈ G → a.key ∉ goT n e f M ch G →
    (goP n e f M ch G).count a = 1
  | 0, _, _, _, _, _, _, _, h, _, _ => by omega
  | f + 1, M, ch, G, k, w, hs, hG, hf, ha, ht => by
    have hsG : Srt G := by rw [hG]; exact hs.filter _
    rw [goP]
    rw [goT] at ht
    by_cases hlen : G.length ≤ n
    · rw [if_pos hlen]
      exact count_one (nodup_srt hsG) ha
    · rw [if_neg hlen]
      rw [if_neg hlen] at ht
      have hlt : n - 1 < G.length := by omega
      have hne := next_len (ch := ch) hs hG hn (by omega)
      have habove := goP_above n e f (chgs M ch) ch.tail (nextG M ch G n e) (lastK G n) false hn fun y hy => (List.mem_filter.1 hy).2
      have hnd := nodup_srt hsG
      have hsplit := List.take_append_drop n G
      rw [← hsplit] at ha hnd
      rw [List.count_append]
      rcases List.mem_append.1 ha with h1 | h1
      · -- on this page
        have hc : (G.take n).count a = 1 := count_one (List.Nodup.sublist (List.sublist_append_left _ _) hnd) h1
        have h0 : (goP n e f (chgs M ch) ch.tail (nextG M ch G n e)).count a = 0 := by
          rw [List.count_eq_zero]
          intro hm
          have h2 := inF_mem (habove a hm)
          have h3 := habove a hm
          unfold inF at h3
          rw [Bool.and_eq_true] at h3
          have h3 : 0 < cmpS a.key (lastK G n) := by simpa using h3.1
          rw [lastK_eq hlt] at h3
          obtain ⟨i, hi, rfl⟩ := List.getElem_of_mem h1
          have hi' : i < n ∧ i < G.length := by simp at hi; omega
          rw [List.getElem_take] at h3
          rcases Nat.lt_or_ge i (n - 1) with h4 | h4
          · have := List.pairwise_iff_getElem.1 hsG i (n - 1) hi'.2 hlt h4
            omega
          · have : i = n - 1 := by omega
            subst this
            rw [cmpS_self] at h3; omega
        omega
      · -- behind it
        have hc : (G.take n).count a = 0 := by
          rw [List.count_eq_zero]
          intro hm
          exact (List.nodup_append.1 hnd).2.2 a hm a h1 rfl
        have hin : a ∈ M.filter (inF (lastK G n) false e) := by
          rw [lastK_eq hlt, inF_step hs hG (n - 1) hlt, show n - 1 + 1 = n by omega]
          exact h1
        have hmem : a ∈ nextG M ch G n e := by
          refine List.mem_filter.2 ⟨?_, (List.mem_filter.1 hin).2⟩
          cases ch with
          | nil => exact (List.mem_filter.1 hin).1
          | cons c ch =>
            refine mem_chg hs (List.mem_filter.1 hin).1 fun hk => ht ?_
            simp [hk]
        rw [hc, Nat.zero_add]
        exact goP_one n e hn a f _ _ _ (lastK G n) false (srt_chgs hs ch) rfl (by omega) hmem fun h => ht (List.mem_append_right _ h)

/-- Where nothing changes, the pages are the range. -/
theorem goP_still (n : Nat) (e : ByteArray) (hn : 1 ≤ n) {M : List Pr} (hs : Srt M) : ∀ (f : Nat) (G : List Pr) (k : ByteArray) (w : Bool), G = M.filter (inF k w e) → G.length < f → goP n e f M [] G = G ∧ goL n e f M [] G = chunks n f G ∧ goM n e f M [] G = M
  | 0, _, _, _, _, h => by omega
  | f + 1, G, k, w, hG, hf => by
    rw [goP, goL, goM, chunks]
    by_cases hlen : G.length ≤ n
    · rw [if_pos hlen, if_pos hlen, if_pos hlen]
      refine ⟨rfl, ?_, rfl⟩
      by_cases h0 : G = []
      · rw [if_pos h0, if_pos h0]
      · rw [if_neg h0, if_neg h0, List.take_of_length_le hlen, List.drop_eq_nil_of_le hlen]
        cases f with
        | zero => rfl
        | succ f => rw [chunks, if_pos rfl]
    · have hlt : n - 1 < G.length := by omega
      have h0 : G ≠ [] := fun h => by rw [h] at hlt; simp at hlt
      have hnx : nextG M [] G n e = G.drop n := by
        unfold nextG
        rw [lastK_eq hlt]
        show M.filter _ = _
        rw [inF_step hs hG (n - 1) hlt, show n - 1 + 1 = n by omega]
      rw [if_neg hlen, if_neg hlen, if_neg hlen, if_neg h0, hnx]
      have hnx' : G.drop n = M.filter (inF (lastK G n) false e) := by rw [← hnx]; rfl
      obtain ⟨i1, i2, i3⟩ := goP_still n e hn hs f (G.drop n) (lastK G n) false hnx' (by simp; omega)
      refine ⟨?_, ?_, i3⟩
      · show G.take n ++ goP n e f M [] (G.drop n) = G
        rw [i1, List.take_append_drop]
      · show G.take n :: goL n e f M [] (G.drop n) = _
        rw [i2]
theorem chunks_fuel (n : Nat) (hn : 1 ≤ n) : ∀ (f g : Nat) (l : List Pr), l.length ≤ f → l.length ≤ g → chunks n f l = chunks n g l
  | 0, 0, _, _, _ => rfl
  | 0, g + 1, l, h, _ => by
    have : l = [] := List.length_eq_zero_iff.1 (by omega)
    rw [this, chunks, chunks, if_pos rfl]
  | f + 1, 0, l, _, h => by
    have : l = [] := List.length_eq_zero_iff.1 (by omega)
    rw [this, chunks, chunks, if_pos rfl]
  | f + 1, g + 1, l, h1, h2 => by
    rw [chunks, chunks]
    by_cases h : l = []
    · rw [if_pos h, if_pos h]
    · rw [if_neg h, if_neg h]
      have : 0 < l.length := List.length_pos_iff.2 h
      rw [chunks_fuel n hn f g (l.drop n) (by simp; omega) (by simp; omega)]

end Go.Proofs.YtlkgfbcencoahaaDoor

/-
  Chapter 44: the law's hexed and marked; pages' check and marked.
  Conditions: none. By an AI agent.
-/
set_option maxRecDepth 10000
set_option linter.unusedSimpArgs false
set_option linter.unusedVariables false
namespace Go.Proofs.YtlkgfbcencoahaaDoor
open Go Eng

theorem Since.lit2 {H0 H : AHeap} {v : Value} {l : List UInt8} (r : Since H0 H v l) (m : List UInt8) {H1 : AHeap} (h1 : H.push (.cells (EB.cells m) T.uint8 true) = H1) (hb : l.length + m.length ≤ 1000000000000) :
    ∃ v' H', Eng.app T.uint8 1 1 v (srcS 1 (.slice (some ⟨H.n, 0, none⟩) m.length (2 * m.length)) H1) H1 = some (v', H') ∧ Since H0 H' v' (l ++ m) ∧ Fr (OnlyOf v) H H' ∧ (blockOf v' = blockOf v ∨ ∃ b, blockOf v' = some b ∧ H.n ≤ b) := by
  have s1 : Still H H1 := by rw [← h1]; exact (Fr.refl H).push _
  have n1 : H1.n = H.n + 1 := by rw [← h1]; rfl
  have f1 : H1.f H.n = .cells (EB.cells m) T.uint8 true := by rw [← h1]; exact push_f_eq rfl
  have rm : BR H1 (.slice (some ⟨H.n, 0, none⟩) m.length (2 * m.length)) m := newB (by omega) f1
  have r1 := r.to s1
  obtain ⟨v', H', e1, e2, e3, e4⟩ := r1.own.appA m (sz := 1) (bytes := 1) rfl (by omega) (by omega) (rm.1.src (sz := 1) rfl)
  refine ⟨v', H', e1, ⟨r1.still.then e3 fun b hb h => ?_, e2, fun b h => ?_⟩, s1.still.then e3 fun b _ h => h, ?_⟩
  · unfold OnlyOf at h; have := r1.new b h; omega
  · rcases e4 with h4 | h4
    · rw [h4] at h; exact r1.new b h
    · rw [h4] at h; cases h; exact r1.still.n
  · rcases e4 with h4 | h4
    · exact .inl h4
    · exact .inr ⟨_, h4, by omega⟩

theorem hx_lo {n : Nat} (h : n < 10) : byteCell (hx n) = .int .u8 (48 + (n : Int)) := by
  unfold byteCell hx
  rw [if_pos h, UInt8.toNat_ofNat']
  congr 1; omega
theorem hx_hi {n : Nat} (h : 10 ≤ n) (h2 : n < 16) : byteCell (hx n) = .int .u8 (97 + (n : Int) - 10) := by
  unfold byteCell hx
  rw [if_neg (by omega), UInt8.toNat_ofNat']
  congr 1; omega

/-! ### the law's hexed -/
theorem l_hex1 (v0 v4 : Value) (ns : List Nat) (h16 : ∀ n ∈ ns, n < 16) (hnl : ns.length ≤ 2) (bw : Nat) (H0 : AHeap) : ∀ (t : List Nat) (i : Nat) (H : AHeap) (v : Value) (o : List UInt8), ns.drop i = t →
    H.f bw = .cells (EB.cells (ns.map by8)) T.uint8 true → bw < H.n → blockOf v ≠ some bw → Since H0 H v o → o.length + t.length ≤ 1000000 →
    ∃ v' H', Since H0 H' v' (o ++ t.map hx) ∧ ∀ K : K, l_law_hexed_1 v0 v v4 (.slice (some ⟨bw, 0, none⟩) ns.length (2 * ns.length)) (.int .i64 (ns.length : Int)) (.int .i64 (i : Int)) H (blkK [0, 3, 4] 2 K) = K .normal [(0, v0), (3, v'), (4, v4)] H'
  | [], i, H, v, o, hd, hf, hb, hn, so, ho => by
    have h : ns.length ≤ i := List.drop_eq_nil_iff.1 hd
    have hlt : ¬ (i : Int) < (ns.length : Int) := by omega
    refine ⟨v, H, by simpa using so, fun K => ?_⟩
    rw [r_law_hexed_1]
    simp (disch := first | with_reducible rfl | assumption | omega | rfl | (simp only [go_sem]; first | done | omega)) only [go_sem, ↓reduceIte, reduceCtorEq, Nat.reduceEqDiff, Nat.reduceAdd, Nat.reduceSub, Nat.reduceMul, Nat.reduceDiv, Nat.reduceMod, Nat.reduceLeDiff, Nat.reduceLT, Nat.reduceBEq, Int.reduceEq, Int.reduceBEq, Int.reduceBNe, Int.reduceLT, Int.reduceLE, Int.reduceAdd, Int.reduceSub, Int.reduceNeg, Int.reduceToNat, Int.reducePow, Nat.reducePow, Int.reduceMul, Int.reduceDiv, ↓s_law_hexed_b1, hlt]
  | n :: t, i, H, v, o, hd, hf, hb, hn, so, ho => by
    obtain ⟨h, hx0, hd'⟩ := drop_cons hd
    have hlt : (i : Int) < (ns.length : Int) := by omega
    have hn16 : n < 16 := h16 n (by rw [← hx0]; exact List.getElem_mem h)
    have hix : ixS 1 (.slice (some ⟨bw, 0, none⟩) ns.length (2 * ns.length)) (.int .i64 (i : Int)) = some (.pointer (some ⟨bw, 0 + i * 1, none⟩)) := ixS_nat h
    have hc : cellB (H.f bw) (0 + i * 1) = some (.int .u8 (n : Int)) := by
      rw [hf]
      unfold cellB
      simp only [Nat.zero_add, Nat.mul_one]
      rw [EB_cells, List.map_map, List.getElem?_map, List.getElem?_eq_getElem h, hx0]
      show some (byteCell (by8 n)) = _
      rw [by8_cell]
      congr 2; omega
    rw [Nat.zero_add, Nat.mul_one] at hix hc
    by_cases h10 : n < 10
    · have hlt2 : (n : Int) < 10 := by omega
      have e1 : ∀ ox oy, xbin Tryd.prog .add T.uint8 ox oy (.int .u8 48) (.int .u8 (n : Int)) = some (.int .u8 (48 + (n : Int))) := fun ox oy => add_u8 (by omega)
      obtain ⟨H1, hH1⟩ : ∃ H1, H.push (.cells (EB.cells [hx n]) T.uint8 true) = H1 := ⟨_, rfl⟩
      obtain ⟨v1, H2, a1, so1, fr1, hb1⟩ := so.lit2 [hx n] hH1 (by simp at ho ⊢; omega)
      have hc1 : EB.cells [hx n] = [.int .u8 (48 + (n : Int))] := by rw [EB_cells, List.map_cons, List.map_nil, hx_lo h10]
      rw [hc1] at hH1
      have a1 : app T.uint8 1 1 v (srcS 1 (.slice (some ⟨H.n, 0, none⟩) 1 2) H1) H1 = some (v1, H2) := a1
      obtain ⟨v', H', so', e'⟩ := l_hex1 v0 v4 ns h16 hnl bw H0 t (i + 1) H2 v1 (o ++ [hx n]) hd' (by rw [fr1.f hb (fun e => hn e)]; exact hf) (Nat.lt_of_lt_of_le hb fr1.n) (by
        rcases hb1 with e | ⟨b, e, hle⟩
        · rw [e]; exact hn
        · rw [e]; intro e; cases e; omega) so1 (by simp at ho ⊢; omega)
      refine ⟨v', H', by simpa using so', fun K => ?_⟩
      have e' := e' K
      rw [Int.natCast_add] at e'
      rw [r_law_hexed_1]
      simp (disch := first | with_reducible rfl | assumption | omega | rfl | (simp only [go_sem]; first | done | omega)) only [go_sem, ↓reduceIte, reduceCtorEq, Nat.reduceEqDiff, Nat.reduceAdd, Nat.reduceSub, Nat.reduceMul, Nat.reduceDiv, Nat.reduceMod, Nat.reduceLeDiff, Nat.reduceLT, Nat.reduceBEq, Int.reduceEq, Int.reduceBEq, Int.reduceBNe, Int.reduceLT, Int.reduceLE, Int.reduceAdd, Int.reduceSub, Int.reduceNeg, Int.reduceToNat, Int.reducePow, Nat.reducePow, Int.reduceMul, Int.reduceDiv, ↓s_law_hexed_b1, hlt, hix, hc, hlt2, e1, hH1, a1]
      exact e'
    · have hlt2 : ¬ (n : Int) < 10 := by omega
      have e1 : ∀ ox oy, xbin Tryd.prog .add T.uint8 ox oy (.int .u8 97) (.int .u8 (n : Int)) = some (.int .u8 (97 + (n : Int))) := fun ox oy => add_u8 (by omega)
      have e2 : ∀ ox oy, xbin Tryd.prog .sub T.uint8 ox oy (.int .u8 (97 + (n : Int))) (.int .u8 10) = some (.int .u8 (97 + (n : Int) - 10)) := fun ox oy => sub_u8 (by omega)
      obtain ⟨H1, hH1⟩ : ∃ H1, H.push (.cells (EB.cells [hx n]) T.uint8 true) = H1 := ⟨_, rfl⟩
      obtain ⟨v1, H2, a1, so1, fr1, hb1⟩ := so.lit2 [hx n] hH1 (by simp at ho ⊢; omega)
      have hc1 : EB.cells [hx n] = [.int .u8 (97 + (n : Int) - 10)] := by rw [EB_cells, List.map_cons, List.map_nil, hx_hi (by omega) hn16]
      rw [hc1] at hH1
      have a1 : app T.uint8 1 1 v (srcS 1 (.slice (some ⟨H.n, 0, none⟩) 1 2) H1) H1 = some (v1, H2) := a1
      obtain ⟨v', H', so', e'⟩ := l_hex1 v0 v4 ns h16 hnl bw H0 t (i + 1) H2 v1 (o ++ [hx n]) hd' (by rw [fr1.f hb (fun e => hn e)]; exact hf) (Nat.lt_of_lt_of_le hb fr1.n) (by
        rcases hb1 with e | ⟨b, e, hle⟩
        · rw [e]; exact hn
        · rw [e]; intro e; cases e; omega) so1 (by simp at ho ⊢; omega)
      refine ⟨v', H', by simpa using so', fun K => ?_⟩
      have e' := e' K
      rw [Int.natCast_add] at e'
      rw [r_law_hexed_1]
      simp (disch := first | with_reducible rfl | assumption | omega | rfl | (simp only [go_sem]; first | done | omega)) only [go_sem, ↓reduceIte, reduceCtorEq, Nat.reduceEqDiff, Nat.reduceAdd, Nat.reduceSub, Nat.reduceMul, Nat.reduceDiv, Nat.reduceMod, Nat.reduceLeDiff, Nat.reduceLT, Nat.reduceBEq, Int.reduceEq, Int.reduceBEq, Int.reduceBNe, Int.reduceLT, Int.reduceLE, Int.reduceAdd, Int.reduceSub, Int.reduceNeg, Int.reduceToNat, Int.reducePow, Nat.reducePow, Int.reduceMul, Int.reduceDiv, ↓s_law_hexed_b1, hlt, hix, hc, hlt2, e1, e2, hH1, a1]
      exact e'

theorem l_hex0 (s : List UInt8) (hs : s.length ≤ 100000) (H0 : AHeap) : ∀ (t : List UInt8) (i : Nat) (H : AHeap) (v : Value) (o : List UInt8), s.drop i = t → Since H0 H v o → o.length ≤ 2 * i →
    ∃ v' H', Since H0 H' v' (o ++ hexB t) ∧ ∀ K : K, l_law_hexed_0 (.string (mk s)) v (.int .i64 (i : Int)) H (blkK [3] 0 K) = K .normal [(3, v')] H'
  | [], i, H, v, o, hd, so, ho => by
    have h : s.length ≤ i := List.drop_eq_nil_iff.1 hd
    have hlt : ¬ (i : Int) < (s.length : Int) := by omega
    refine ⟨v, H, by simpa [hexB_nil] using so, fun K => ?_⟩
    rw [r_law_hexed_0]
    simp (disch := first | with_reducible rfl | assumption | omega | rfl | (simp only [go_sem]; first | done | omega)) only [go_sem, ↓reduceIte, reduceCtorEq, Nat.reduceEqDiff, Nat.reduceAdd, Nat.reduceSub, Nat.reduceMul, Nat.reduceDiv, Nat.reduceMod, Nat.reduceLeDiff, Nat.reduceLT, Nat.reduceBEq, Int.reduceEq, Int.reduceBEq, Int.reduceBNe, Int.reduceLT, Int.reduceLE, Int.reduceAdd, Int.reduceSub, Int.reduceNeg, Int.reduceToNat, Int.reducePow, Nat.reducePow, Int.reduceMul, Int.reduceDiv, ↓s_law_hexed_b0, bl_mk, hlt]
  | c :: t, i, H, v, o, hd, so, ho => by
    obtain ⟨h, hx0, hd'⟩ := drop_cons hd
    have hlt : (i : Int) < (s.length : Int) := by omega
    have hc := c.toNat_lt
    have ix := xix (s := mk s) (i := i) (by rw [bl_mk]; exact h)
    simp only [bl_mk, hx0] at ix
    have e1 : ∀ ox oy, xbin Tryd.prog .quo T.uint8 ox oy (.int .u8 (c.toNat : Int)) (.int .u8 16) = some (.int .u8 ((c.toNat / 16 : Nat) : Int)) := fun ox oy => by
      rw [quoP (by omega) (by decide), wrapU8]
      congr 2
      omega
    have e2 : ∀ ox oy, xbin Tryd.prog .rem T.uint8 ox oy (.int .u8 (c.toNat : Int)) (.int .u8 16) = some (.int .u8 ((c.toNat % 16 : Nat) : Int)) := fun ox oy => remN (b := 16) (by decide)
    obtain ⟨H1, hH1⟩ : ∃ H1, H.push (.cells [.int .u8 ((c.toNat / 16 : Nat) : Int), .int .u8 ((c.toNat % 16 : Nat) : Int)] T.uint8 true) = H1 := ⟨_, rfl⟩
    have s1 : Still H H1 := by rw [← hH1]; exact (Fr.refl H).push _
    have n1 : H1.n = H.n + 1 := by rw [← hH1]; rfl
    have f1 : H1.f H.n = .cells (EB.cells ([c.toNat / 16, c.toNat % 16].map by8)) T.uint8 true := by
      rw [← hH1, push_f_eq rfl, EB_cells]
      simp only [List.map_cons, List.map_nil, by8_cell]
      congr 2
      · congr 1; omega
      · congr 2; omega
    obtain ⟨v1, H2, so1, e3⟩ := l_hex1 (.string (mk s)) (.int .i64 (i : Int)) [c.toNat / 16, c.toNat % 16] (by intro n hn; simp at hn; omega) (by simp) H.n H0 _ 0 H1 v o rfl f1 (by omega) (fun e => by have := so.own.blk e; omega) (so.to s1) (by simp; omega)
    have e3 : ∀ K : K, l_law_hexed_1 (.string (mk s)) v (.int .i64 (i : Int)) (.slice (some ⟨H.n, 0, none⟩) 2 4) (.int .i64 2) (.int .i64 0) H1 (blkK [0, 3, 4] 2 K) = K .normal [(0, .string (mk s)), (3, v1), (4, .int .i64 (i : Int))] H2 := e3
    have so1 : Since H0 H2 v1 (o ++ [hx (c.toNat / 16), hx (c.toNat % 16)]) := so1
    obtain ⟨v', H', so', e'⟩ := l_hex0 s hs H0 t (i + 1) H2 v1 _ hd' so1 (by simp at ho ⊢; omega)
    refine ⟨v', H', by rw [hexB_cons]; simpa using so', fun K => ?_⟩
    have e' := e' K
    rw [Int.natCast_add] at e'
    rw [r_law_hexed_0]
    simp (disch := first | with_reducible rfl | assumption | omega | rfl | (simp only [go_sem]; first | done | omega)) only [go_sem, ↓reduceIte, reduceCtorEq, Nat.reduceEqDiff, Nat.reduceAdd, Nat.reduceSub, Nat.reduceMul, Nat.reduceDiv, Nat.reduceMod, Nat.reduceLeDiff, Nat.reduceLT, Nat.reduceBEq, Int.reduceEq, Int.reduceBEq, Int.reduceBNe, Int.reduceLT, Int.reduceLE, Int.reduceAdd, Int.reduceSub, Int.reduceNeg, Int.reduceToNat, Int.reducePow, Nat.reducePow, Int.reduceMul, Int.reduceDiv, ↓s_law_hexed_b0, bl_mk, hlt, ix, e1, e2, hH1, e3]
    exact e'

theorem q_lhexed (s : List UInt8) (H : AHeap) (hs : s.length ≤ 100000) : CC F.law_hexed [.string (mk s)] H = some (.string (mk (hexB s)), H) := by
  obtain ⟨v', H', so, e⟩ := l_hex0 s hs H s 0 H _ [] rfl Since.nil (by simp)
  rw [List.nil_append] at so
  have e : ∀ K : K, l_law_hexed_0 (.string (mk s)) (.slice none 0 0) (.int .i64 0) H (blkK [3] 0 K) = K .normal [(3, v')] H' := e
  have st := BR.str so.own.sl
  apply pure_of _ (d_law_hexed _ H) rfl
  rotate_left 2
  · simp (disch := first | with_reducible rfl | assumption | omega | rfl | (simp only [go_sem]; first | done | omega)) only [go_sem, ↓reduceIte, reduceCtorEq, Nat.reduceEqDiff, Nat.reduceAdd, Nat.reduceSub, Nat.reduceMul, Nat.reduceDiv, Nat.reduceMod, Nat.reduceLeDiff, Nat.reduceLT, Nat.reduceBEq, Int.reduceEq, Int.reduceBEq, Int.reduceBNe, Int.reduceLT, Int.reduceLE, Int.reduceAdd, Int.reduceSub, Int.reduceNeg, Int.reduceToNat, Int.reducePow, Nat.reducePow, Int.reduceMul, Int.reduceDiv, ↓s_law_hexed, e, st]
    rfl
  · exact so.still

/-! ### the law's marked -/
theorem l_lmarked (s : List UInt8) (H : AHeap) : ∀ (t : List UInt8) (i n : Nat), s.drop i = t → s.length ≤ 100000 → n < 65521 → ∀ K : K,
    l_law_marked_0 (.string (mk s)) (.int .i64 (n : Int)) (.int .i64 (i : Int)) H (blkK [5, 6] 0 K) = K .normal [(5, .string (mk s)), (6, .int .i64 ((t.foldl (fun n c => (31 * n + c.toNat) % 65521) n : Nat) : Int))] H
  | [], i, n, hd, hs, hn, K => by
    have h : s.length ≤ i := List.drop_eq_nil_iff.1 hd
    have hlt : ¬ (i : Int) < (s.length : Int) := by omega
    rw [r_law_marked_0]
    simp (disch := first | with_reducible rfl | assumption | omega | rfl | (simp only [go_sem]; first | done | omega)) only [go_sem, ↓reduceIte, reduceCtorEq, Nat.reduceEqDiff, Nat.reduceAdd, Nat.reduceSub, Nat.reduceMul, Nat.reduceDiv, Nat.reduceMod, Nat.reduceLeDiff, Nat.reduceLT, Nat.reduceBEq, Int.reduceEq, Int.reduceBEq, Int.reduceBNe, Int.reduceLT, Int.reduceLE, Int.reduceAdd, Int.reduceSub, Int.reduceNeg, Int.reduceToNat, Int.reducePow, Nat.reducePow, Int.reduceMul, Int.reduceDiv, ↓s_law_marked_b0, bl_mk, hlt]
  | c :: t, i, n, hd, hs, hn, K => by
    obtain ⟨h, hx0, hd'⟩ := drop_cons hd
    have hlt : (i : Int) < (s.length : Int) := by omega
    have hc := c.toNat_lt
    have ix := xix (s := mk s) (i := i) (by rw [bl_mk]; exact h)
    simp only [bl_mk, hx0] at ix
    have e1 : ∀ ox oy, xbin Tryd.prog .mul T.int ox oy (.int .i64 31) (.int .i64 (n : Int)) = some (.int .i64 ((31 * n : Nat) : Int)) := fun ox oy => mulN (a := 31) (by omega)
    have e2 : ∀ ox oy, xbin Tryd.prog .add T.int ox oy (.int .i64 ((31 * n : Nat) : Int)) (.int .i64 (c.toNat : Int)) = some (.int .i64 ((31 * n + c.toNat : Nat) : Int)) := fun ox oy => by rw [add_i64 (by omega), Int.natCast_add]
    have e3 : ∀ ox oy, xbin Tryd.prog .rem T.int ox oy (.int .i64 ((31 * n + c.toNat : Nat) : Int)) (.int .i64 65521) = some (.int .i64 (((31 * n + c.toNat) % 65521 : Nat) : Int)) := fun ox oy => remN (b := 65521) (by decide)
    have e4 : ∀ H : AHeap, xconv Tryd.prog T.uint8 T.int (.int .u8 (c.toNat : Int)) H = some (.int .i64 (c.toNat : Int), H) := fun H => by rw [x_uint8_int, wrap_i64 (by omega)]
    have ih := l_lmarked s H t (i + 1) ((31 * n + c.toNat) % 65521) hd' hs (Nat.mod_lt _ (by decide)) K
    rw [Int.natCast_add i 1] at ih
    rw [r_law_marked_0]
    simp (disch := first | with_reducible rfl | assumption | omega | rfl | (simp only [go_sem]; first | done | omega)) only [go_sem, ↓reduceIte, reduceCtorEq, Nat.reduceEqDiff, Nat.reduceAdd, Nat.reduceSub, Nat.reduceMul, Nat.reduceDiv, Nat.reduceMod, Nat.reduceLeDiff, Nat.reduceLT, Nat.reduceBEq, Int.reduceEq, Int.reduceBEq, Int.reduceBNe, Int.reduceLT, Int.reduceLE, Int.reduceAdd, Int.reduceSub, Int.reduceNeg, Int.reduceToNat, Int.reducePow, Nat.reducePow, Int.reduceMul, Int.reduceDiv, ↓s_law_marked_b0, bl_mk, hlt, ix, e1, e2, e3, e4]
    exact ih

theorem hexB_le {l : List UInt8} (h : l.length ≤ 10000) : (hexB l).length ≤ 20000 := by rw [hexB_len]; omega
theorem preB_le {e k : List UInt8} (h : e.length ≤ 10000) (h2 : k.length ≤ 10000) : (preB e k).length ≤ 40002 := by
  unfold preB; simp only [List.length_append, hexB_len, List.length_cons, List.length_nil]; omega

theorem two_bytes {H : AHeap} (n : Nat) (hn : n < 65536) {H1 : AHeap} (h1 : H.push (.cells [.int .u8 ((n / 256 : Nat) : Int), .int .u8 ((n % 256 : Nat) : Int)] T.uint8 true) = H1) :
    Still H H1 ∧ xconv Tryd.prog T.sl_uint8 T.string (.slice (some ⟨H.n, 0, none⟩) 2 4) H1 = some (.string (mk [UInt8.ofNat (n / 256), UInt8.ofNat n]), H1) := by
  have s1 : Still H H1 := by rw [← h1]; exact (Fr.refl H).push _
  have n1 : H1.n = H.n + 1 := by rw [← h1]; rfl
  have f1 : H1.f H.n = .cells (EB.cells [by8 (n / 256), by8 n]) T.uint8 true := by
    rw [← h1, push_f_eq rfl, EB_cells]
    simp only [List.map_cons, List.map_nil, by8_cell]
    congr 2
    congr 1; omega
  exact ⟨s1, BR.str (newB (l := [by8 (n / 256), by8 n]) (by omega) f1)⟩

theorem q_lmarked (e k : List UInt8) (H : AHeap) (he : e.length ≤ 10000) (hk : k.length ≤ 10000) : CC F.law_marked [.string (mk e), .string (mk k)] H = some (.string (mk (marB e k)), H) := by
  have m1 := q_lhexed e H (by omega)
  have m2 := q_lhexed k H (by omega)
  have l1 := hexB_le he
  have l2 := hexB_le hk
  have l3 := preB_le he hk
  have a1 : ∀ ox oy, xbin Tryd.prog .add T.string ox oy (.string (mk (hexB e))) (.string (mk [46])) = some (.string (mk (hexB e ++ [46]))) := fun ox oy => str_add' (by simp; omega)
  have a2 : ∀ ox oy, xbin Tryd.prog .add T.string ox oy (.string (mk (hexB e ++ [46]))) (.string (mk (hexB k))) = some (.string (mk (hexB e ++ [46] ++ hexB k))) := fun ox oy => str_add' (by simp; omega)
  have a3 : ∀ ox oy, xbin Tryd.prog .add T.string ox oy (.string (mk (hexB e ++ [46] ++ hexB k))) (.string (mk [46])) = some (.string (mk (preB e k))) := fun ox oy => str_add' (by simp; omega)
  have lp := l_lmarked (preB e k) H (preB e k) 0 17 rfl (by omega) (by decide)
  have hc := chkB_lt (preB e k)
  have lp : ∀ K : K, l_law_marked_0 (.string (mk (preB e k))) (.int .i64 17) (.int .i64 0) H (blkK [5, 6] 0 K) = K .normal [(5, .string (mk (preB e k))), (6, .int .i64 (chkB (preB e k) : Int))] H := lp
  obtain ⟨n, hn⟩ : ∃ n, chkB (preB e k) = n := ⟨_, rfl⟩
  rw [hn] at lp hc
  have e1 : ∀ ox oy, xbin Tryd.prog .quo T.int ox oy (.int .i64 (n : Int)) (.int .i64 256) = some (.int .i64 ((n / 256 : Nat) : Int)) := fun ox oy => quoN (b := 256) (by decide) (by omega)
  have e2 : ∀ ox oy, xbin Tryd.prog .rem T.int ox oy (.int .i64 (n : Int)) (.int .i64 256) = some (.int .i64 ((n % 256 : Nat) : Int)) := fun ox oy => remN (b := 256) (by decide)
  have e3 : ∀ H : AHeap, xconv Tryd.prog T.int T.uint8 (.int .i64 ((n / 256 : Nat) : Int)) H = some (.int .u8 ((n / 256 : Nat) : Int), H) := fun H => by rw [x_int_uint8, wrapU8]; congr 3; omega
  have e4 : ∀ H : AHeap, xconv Tryd.prog T.int T.uint8 (.int .i64 ((n % 256 : Nat) : Int)) H = some (.int .u8 ((n % 256 : Nat) : Int), H) := fun H => by rw [x_int_uint8, wrapU8]; congr 3; omega
  obtain ⟨H1, hH1⟩ : ∃ H1, H.push (.cells [.int .u8 ((n / 256 : Nat) : Int), .int .u8 ((n % 256 : Nat) : Int)] T.uint8 true) = H1 := ⟨_, rfl⟩
  obtain ⟨s1, st⟩ := two_bytes n (by omega) hH1
  have m3 := q_lhexed [UInt8.ofNat (n / 256), UInt8.ofNat n] H1 (by simp)
  have a4 : ∀ ox oy, xbin Tryd.prog .add T.string ox oy (.string (mk (preB e k))) (.string (mk (hexB [UInt8.ofNat (n / 256), UInt8.ofNat n]))) = some (.string (mk (marB e k))) := fun ox oy => by
    rw [str_add' (by rw [hexB_len]; simp; omega)]
    unfold marB
    rw [hn]
  apply pure_of _ (d_law_marked _ _ H) rfl
  rotate_left 2
  · simp (disch := first | with_reducible rfl | assumption | omega | rfl | (simp only [go_sem]; first | done | omega)) only [go_sem, ↓reduceIte, reduceCtorEq, Nat.reduceEqDiff, Nat.reduceAdd, Nat.reduceSub, Nat.reduceMul, Nat.reduceDiv, Nat.reduceMod, Nat.reduceLeDiff, Nat.reduceLT, Nat.reduceBEq, Int.reduceEq, Int.reduceBEq, Int.reduceBNe, Int.reduceLT, Int.reduceLE, Int.reduceAdd, Int.reduceSub, Int.reduceNeg, Int.reduceToNat, Int.reducePow, Nat.reducePow, Int.reduceMul, Int.reduceDiv, ↓s_law_marked, ↓enterK_eq m1, enterK_eq m1, a1, ↓enterK_eq m2, enterK_eq m2, a2, a3, lp, e1, e2, e3, e4, hH1, st, ↓enterK_eq m3, enterK_eq m3, a4]
    rfl
  · exact s1

/-! ### pages -/
theorem q_hexed (s : ByteArray) (H : AHeap) (hs : (bl s).length ≤ 100000) : CC F.pages_hexed [.string s] H = some (.string (mk (hexB (bl s))), H) := by
  refine D_prim (show prims1 F.pages_hexed = some hexV by kernel_rfl) ?_
  show (if s.size ≤ 1000000 then some (Value.string (mk (hexB (bl s))), H) else none) = _
  rw [if_pos]
  have e : s.size = (bl s).length := by cases s; rfl
  omega

theorem l_check (s : List UInt8) (v : Value) (H : AHeap) (hr : Rd EB H v s) : ∀ (t : List UInt8) (i n : Nat), s.drop i = t → s.length ≤ 100000 → n < 65521 → ∀ K : K,
    l_pages_check_0 (.int .i64 (n : Int)) v (.int .i64 (s.length : Int)) (.int .i64 (i : Int)) H (blkK [3] 0 K) = K .normal [(3, .int .i64 ((t.foldl (fun n c => (31 * n + c.toNat) % 65521) n : Nat) : Int))] H
  | [], i, n, hd, hs, hn, K => by
    have h : s.length ≤ i := List.drop_eq_nil_iff.1 hd
    have hlt : ¬ (i : Int) < (s.length : Int) := by omega
    rw [r_pages_check_0]
    simp (disch := first | with_reducible rfl | assumption | omega | rfl | (simp only [go_sem]; first | done | omega)) only [go_sem, ↓reduceIte, reduceCtorEq, Nat.reduceEqDiff, Nat.reduceAdd, Nat.reduceSub, Nat.reduceMul, Nat.reduceDiv, Nat.reduceMod, Nat.reduceLeDiff, Nat.reduceLT, Nat.reduceBEq, Int.reduceEq, Int.reduceBEq, Int.reduceBNe, Int.reduceLT, Int.reduceLE, Int.reduceAdd, Int.reduceSub, Int.reduceNeg, Int.reduceToNat, Int.reducePow, Nat.reducePow, Int.reduceMul, Int.reduceDiv, ↓s_pages_check_b0, hlt]
  | c :: t, i, n, hd, hs, hn, K => by
    obtain ⟨h, hx0, hd'⟩ := drop_cons hd
    have hlt : (i : Int) < (s.length : Int) := by omega
    have hc := c.toNat_lt
    obtain ⟨b, o, hix, hcc, _⟩ := Rd.byte hr h
    rw [hx0] at hcc
    have e1 : ∀ ox oy, xbin Tryd.prog .mul T.int ox oy (.int .i64 31) (.int .i64 (n : Int)) = some (.int .i64 ((31 * n : Nat) : Int)) := fun ox oy => mulN (a := 31) (by omega)
    have e2 : ∀ ox oy, xbin Tryd.prog .add T.int ox oy (.int .i64 ((31 * n : Nat) : Int)) (.int .i64 (c.toNat : Int)) = some (.int .i64 ((31 * n + c.toNat : Nat) : Int)) := fun ox oy => by rw [add_i64 (by omega), Int.natCast_add]
    have e3 : ∀ ox oy, xbin Tryd.prog .rem T.int ox oy (.int .i64 ((31 * n + c.toNat : Nat) : Int)) (.int .i64 65521) = some (.int .i64 (((31 * n + c.toNat) % 65521 : Nat) : Int)) := fun ox oy => remN (b := 65521) (by decide)
    have e4 : ∀ H : AHeap, xconv Tryd.prog T.uint8 T.int (.int .u8 (c.toNat : Int)) H = some (.int .i64 (c.toNat : Int), H) := fun H => by rw [x_uint8_int, wrap_i64 (by omega)]
    have ih := l_check s v H hr t (i + 1) ((31 * n + c.toNat) % 65521) hd' hs (Nat.mod_lt _ (by decide)) K
    rw [Int.natCast_add i 1] at ih
    rw [r_pages_check_0]
    simp (disch := first | with_reducible rfl | assumption | omega | rfl | (simp only [go_sem]; first | done | omega)) only [go_sem, ↓reduceIte, reduceCtorEq, Nat.reduceEqDiff, Nat.reduceAdd, Nat.reduceSub, Nat.reduceMul, Nat.reduceDiv, Nat.reduceMod, Nat.reduceLeDiff, Nat.reduceLT, Nat.reduceBEq, Int.reduceEq, Int.reduceBEq, Int.reduceBNe, Int.reduceLT, Int.reduceLE, Int.reduceAdd, Int.reduceSub, Int.reduceNeg, Int.reduceToNat, Int.reducePow, Nat.reducePow, Int.reduceMul, Int.reduceDiv, ↓s_pages_check_b0, hlt, hix, hcc, e1, e2, e3, e4]
    exact ih

def chkS (s : List UInt8) : List UInt8 := hexB [UInt8.ofNat (chkB s / 256), UInt8.ofNat (chkB s)]
theorem q_pcheck (s : List UInt8) (H : AHeap) (hs : s.length ≤ 100000) : CC F.pages_check [.string (mk s)] H = some (.string (mk (chkS s)), H) := by
  have hcv := x_sb s H
  obtain ⟨H1, hH1⟩ : ∃ H1, H.push (.cells (EB.cells s) T.uint8 true) = H1 := ⟨_, rfl⟩
  rw [hH1] at hcv
  have s1 : Still H H1 := by rw [← hH1]; exact (Fr.refl H).push _
  have n1 : H1.n = H.n + 1 := by rw [← hH1]; rfl
  have f1 : H1.f H.n = .cells (EB.cells s) T.uint8 true := by rw [← hH1]; exact push_f_eq rfl
  have ro := own_sb (by omega) f1
  have lp := l_check s _ H1 ro.rd s 0 17 rfl hs (by decide)
  have hc := chkB_lt s
  have lp : ∀ K : K, l_pages_check_0 (.int .i64 17) (.slice (some ⟨H.n, 0, none⟩) s.length (2 * s.length + 1)) (.int .i64 (s.length : Int)) (.int .i64 0) H1 (blkK [3] 0 K) = K .normal [(3, .int .i64 (chkB s : Int))] H1 := lp
  unfold chkS
  obtain ⟨n, hn⟩ : ∃ n, chkB s = n := ⟨_, rfl⟩
  rw [hn] at lp hc ⊢
  have e1 : ∀ ox oy, xbin Tryd.prog .shr T.int ox oy (.int .i64 (n : Int)) (.int .u64 8) = some (.int .i64 ((n / 256 : Nat) : Int)) := fun ox oy => shrP (b := 8) (by decide)
  have e3 : ∀ H : AHeap, xconv Tryd.prog T.int T.uint8 (.int .i64 ((n / 256 : Nat) : Int)) H = some (.int .u8 ((n / 256 : Nat) : Int), H) := fun H => by rw [x_int_uint8, wrapU8]; congr 3; omega
  have e4 : ∀ H : AHeap, xconv Tryd.prog T.int T.uint8 (.int .i64 (n : Int)) H = some (.int .u8 ((n % 256 : Nat) : Int), H) := fun H => by rw [x_int_uint8, wrapU8]; rfl
  obtain ⟨H2, hH2⟩ : ∃ H2, H1.push (.cells [.int .u8 ((n / 256 : Nat) : Int), .int .u8 ((n % 256 : Nat) : Int)] T.uint8 true) = H2 := ⟨_, rfl⟩
  obtain ⟨s2, st⟩ := two_bytes n (by omega) hH2
  have m3 := q_hexed (mk [UInt8.ofNat (n / 256), UInt8.ofNat n]) H2 (by rw [bl_mk]; simp)
  rw [bl_mk] at m3
  apply pure_of _ (d_pages_check _ H) rfl
  rotate_left 2
  · simp (disch := first | with_reducible rfl | assumption | omega | rfl | (simp only [go_sem]; first | done | omega)) only [go_sem, ↓reduceIte, reduceCtorEq, Nat.reduceEqDiff, Nat.reduceAdd, Nat.reduceSub, Nat.reduceMul, Nat.reduceDiv, Nat.reduceMod, Nat.reduceLeDiff, Nat.reduceLT, Nat.reduceBEq, Int.reduceEq, Int.reduceBEq, Int.reduceBNe, Int.reduceLT, Int.reduceLE, Int.reduceAdd, Int.reduceSub, Int.reduceNeg, Int.reduceToNat, Int.reducePow, Nat.reducePow, Int.reduceMul, Int.reduceDiv, ↓s_pages_check, hcv, lp, e1, e3, e4, hH2, st, ↓enterK_eq m3, enterK_eq m3]
    rfl
  · exact s1.trans s2

theorem q_pmarked (e k : List UInt8) (H : AHeap) (he : e.length ≤ 10000) (hk : k.length ≤ 10000) : CC F.pages_marked [.string (mk e), .string (mk k)] H = some (.string (mk (marB e k)), H) := by
  have m1 := q_hexed (mk e) H (by rw [bl_mk]; omega)
  have m2 := q_hexed (mk k) H (by rw [bl_mk]; omega)
  rw [bl_mk] at m1 m2
  have l1 := hexB_le he
  have l2 := hexB_le hk
  have l3 := preB_le he hk
  have a1 : ∀ ox oy, xbin Tryd.prog .add T.string ox oy (.string (mk (hexB e))) (.string (mk [46])) = some (.string (mk (hexB e ++ [46]))) := fun ox oy => str_add' (by simp; omega)
  have a2 : ∀ ox oy, xbin Tryd.prog .add T.string ox oy (.string (mk (hexB e ++ [46]))) (.string (mk (hexB k))) = some (.string (mk (hexB e ++ [46] ++ hexB k))) := fun ox oy => str_add' (by simp; omega)
  have a3 : ∀ ox oy, xbin Tryd.prog .add T.string ox oy (.string (mk (hexB e ++ [46] ++ hexB k))) (.string (mk [46])) = some (.string (mk (preB e k))) := fun ox oy => str_add' (by simp; omega)
  have m3 := q_pcheck (preB e k) H (by omega)
  have a4 : ∀ ox oy, xbin Tryd.prog .add T.string ox oy (.string (mk (preB e k))) (.string (mk (chkS (preB e k)))) = some (.string (mk (marB e k))) := fun ox oy => str_add' (by unfold chkS; rw [hexB_len]; simp; omega)
  apply pure_of _ (d_pages_marked _ _ H) rfl
  rotate_left 2
  · simp (disch := first | with_reducible rfl | assumption | omega | rfl | (simp only [go_sem]; first | done | omega)) only [go_sem, ↓reduceIte, reduceCtorEq, Nat.reduceEqDiff, Nat.reduceAdd, Nat.reduceSub, Nat.reduceMul, Nat.reduceDiv, Nat.reduceMod, Nat.reduceLeDiff, Nat.reduceLT, Nat.reduceBEq, Int.reduceEq, Int.reduceBEq, Int.reduceBNe, Int.reduceLT, Int.reduceLE, Int.reduceAdd, Int.reduceSub, Int.reduceNeg, Int.reduceToNat, Int.reducePow, Nat.reducePow, Int.reduceMul, Int.reduceDiv, ↓s_pages_marked, ↓enterK_eq m1, enterK_eq m1, a1, ↓enterK_eq m2, enterK_eq m2, a2, a3, ↓enterK_eq m3, enterK_eq m3, a4]
    rfl
  · (repeat (first | exact Fr.refl _ | refine Fr.push ?_ _ | refine Fr.set ?_ _ _ (by intro h; first | omega | (simp only [go_sem] at h; omega))))

end Go.Proofs.YtlkgfbcencoahaaDoor

/-
  Chapter 44: numbers of two hexadecimal digits; pages.bytes, Read.
  Conditions: none. By an AI agent.
-/
set_option maxRecDepth 10000
set_option linter.unusedSimpArgs false
set_option linter.unusedVariables false
namespace Go.Proofs.YtlkgfbcencoahaaDoor
open Go Eng

theorem lowC_lt (c : UInt8) : lowC c < 256 := by
  unfold lowC
  exact Nat.or_lt_two_pow (n := 8) c.toNat_lt (by decide)
theorem q_lower (c : UInt8) (H : AHeap) : CC F.internal_strconv_lower [.int .u8 (c.toNat : Int)] H = some (.int .u8 (lowC c : Int), H) := by
  have h := lowC_lt c
  have e : ∀ ox oy, xbin Tryd.prog .or T.uint8 ox oy (.int .u8 (c.toNat : Int)) (.int .u8 32) = some (.int .u8 (lowC c : Int)) := fun ox oy => by
    have := orU (P := Tryd.prog) (t := T.uint8) (ox := ox) (oy := oy) (q := .u8) (a := c.toNat) (b := 32) c.toNat_lt (by decide)
    rw [wrapU8] at this
    unfold lowC at h ⊢
    rw [show (32 : Int) = ((32 : Nat) : Int) from rfl, this]
    congr 2
    omega
  apply pure_of _ (d_internal_strconv_lower _ H) rfl
  rotate_left 2
  · simp (disch := first | with_reducible rfl | assumption | omega | rfl | (simp only [go_sem]; first | done | omega)) only [go_sem, ↓reduceIte, reduceCtorEq, Nat.reduceEqDiff, Nat.reduceAdd, Nat.reduceSub, Nat.reduceMul, Nat.reduceDiv, Nat.reduceMod, Nat.reduceLeDiff, Nat.reduceLT, Nat.reduceBEq, Int.reduceEq, Int.reduceBEq, Int.reduceBNe, Int.reduceLT, Int.reduceLE, Int.reduceAdd, Int.reduceSub, Int.reduceNeg, Int.reduceToNat, Int.reducePow, Nat.reducePow, Int.reduceMul, Int.reduceDiv, ↓s_internal_strconv_lower, e]
    rfl
  · (repeat (first | exact Fr.refl _ | refine Fr.push ?_ _ | refine Fr.set ?_ _ _ (by intro h; first | omega | (simp only [go_sem] at h; omega))))
@[go_sem, go_sem ↓] theorem e_lower (c : UInt8) (H : AHeap) {k : Value → AHeap → Res} : enterK CC F.internal_strconv_lower [.int .u8 (c.toNat : Int)] H k = k (.int .u8 (lowC c : Int)) H := enterK_eq (q_lower c H)

def puN : Nat → List UInt8 → Option Nat
  | n, [] => some n
  | n, c :: t => match pvD c with | some d => puN (16 * n + d) t | none => none
abbrev errS : Value := .iface T.internal_strconv_Error (.int .i64 2)

theorem l_pu (s : List UInt8) (hs : s.length ≤ 2) (v9 v : Value) (H : AHeap) (hr : Rd EB H v s) : ∀ (t : List UInt8) (i n : Nat), s.drop i = t → n < 16 ^ i → ∀ K : K,
    l_internal_strconv_ParseUint_0 (.int .i64 16) (.bool false) v9 (.int .u64 1152921504606846976) (.int .u64 255) (.bool false) (.int .u64 (n : Int)) v (.int .i64 (s.length : Int)) (.int .i64 (i : Int)) H (blkK [9, 12, 13] 3 K)
      = match puN n t with
        | some m => K .normal [(9, v9), (12, .bool false), (13, .int .u64 (m : Int))] H
        | none => K .ret [(6, .int .u64 0), (7, errS)] H
  | [], i, n, hd, hn, K => by
    have h : s.length ≤ i := List.drop_eq_nil_iff.1 hd
    have hlt : ¬ (i : Int) < (s.length : Int) := by omega
    rw [r_internal_strconv_ParseUint_0]
    simp (disch := first | with_reducible rfl | assumption | omega | rfl | (simp only [go_sem]; first | done | omega)) only [go_sem, ↓reduceIte, reduceCtorEq, Nat.reduceEqDiff, Nat.reduceAdd, Nat.reduceSub, Nat.reduceMul, Nat.reduceDiv, Nat.reduceMod, Nat.reduceLeDiff, Nat.reduceLT, Nat.reduceBEq, Int.reduceEq, Int.reduceBEq, Int.reduceBNe, Int.reduceLT, Int.reduceLE, Int.reduceAdd, Int.reduceSub, Int.reduceNeg, Int.reduceToNat, Int.reducePow, Nat.reducePow, Int.reduceMul, Int.reduceDiv, ↓s_internal_strconv_ParseUint_b0, hlt, puN]
  | c :: t, i, n, hd, hn, K => by
    obtain ⟨h, hx0, hd'⟩ := drop_cons hd
    have hlt : (i : Int) < (s.length : Int) := by omega
    have hc := c.toNat_lt
    have hlw := lowC_lt c
    have hi1 : i ≤ 1 := by omega
    have hn16 : n < 16 := Nat.lt_of_lt_of_le hn (by
      have : i = 0 ∨ i = 1 := by omega
      rcases this with rfl | rfl <;> decide)
    obtain ⟨b, o, hix, hcc, _⟩ := Rd.byte hr h
    rw [hx0] at hcc
    have b16 : ∀ H : AHeap, xconv Tryd.prog T.int T.uint8 (.int .i64 16) H = some (.int .u8 16, H) := fun H => by rw [x_int_uint8, wrapU8]; rfl
    have q16 : ∀ H : AHeap, xconv Tryd.prog T.int T.uint64 (.int .i64 16) H = some (.int .u64 16, H) := fun H => by rw [x_int_uint64, wrap_u64 (by omega)]
    -- what a digit does
    have key : ∀ d : Nat, d < 16 → pvD c = some d → (∀ ox oy, xbin Tryd.prog .mul T.uint64 ox oy (.int .u64 (n : Int)) (.int .u64 16) = some (.int .u64 ((16 * n : Nat) : Int))) ∧ (∀ H : AHeap, xconv Tryd.prog T.uint8 T.uint64 (.int .u8 (d : Int)) H = some (.int .u64 (d : Int), H)) ∧
        (∀ ox oy, xbin Tryd.prog .add T.uint64 ox oy (.int .u64 ((16 * n : Nat) : Int)) (.int .u64 (d : Int)) = some (.int .u64 ((16 * n + d : Nat) : Int))) ∧ ¬ (16 : Int) ≤ (d : Int) ∧ ¬ (1152921504606846976 : Int) ≤ (n : Int) ∧ ¬ ((16 * n + d : Nat) : Int) < ((16 * n : Nat) : Int) ∧ ¬ (255 : Int) < ((16 * n + d : Nat) : Int) ∧
        16 * n + d < 16 ^ (i + 1) ∧ puN n (c :: t) = puN (16 * n + d) t := fun d hd16 hp => by
      refine ⟨fun ox oy => ?_, fun H => ?_, fun ox oy => ?_, by omega, by omega, by omega, by omega, by rw [Nat.pow_succ]; omega, by rw [puN, hp]⟩
      · rw [xbin_mul, wrap_u64 (by omega)]; congr 2; omega
      · rw [x_uint8_uint64, wrap_u64 (by omega)]
      · rw [xbin_add, wrap_u64 (by omega)]; congr 2
    by_cases h95 : c.toNat = 95
    · have hp : pvD c = none := by unfold pvD lowC; rw [h95]; rfl
      have hl : lowC c = 127 := by unfold lowC; rw [h95]; rfl
      have g1 : ((c.toNat : Int) = 95) := by omega
      have m1 := q_lower c H
      rw [hl, g1] at m1
      rw [g1] at hcc
      rw [puN, hp, r_internal_strconv_ParseUint_0]
      simp (disch := first | with_reducible rfl | assumption | omega | rfl | (simp only [go_sem]; first | done | omega)) only [go_sem, ↓reduceIte, reduceCtorEq, Nat.reduceEqDiff, Nat.reduceAdd, Nat.reduceSub, Nat.reduceMul, Nat.reduceDiv, Nat.reduceMod, Nat.reduceLeDiff, Nat.reduceLT, Nat.reduceBEq, Int.reduceEq, Int.reduceBEq, Int.reduceBNe, Int.reduceLT, Int.reduceLE, Int.reduceAdd, Int.reduceSub, Int.reduceNeg, Int.reduceToNat, Int.reducePow, Nat.reducePow, Int.reduceMul, Int.reduceDiv, ↓s_internal_strconv_ParseUint_b0, hlt, hix, hcc, ↓enterK_eq m1, enterK_eq m1]
    · have g1 : ¬ ((c.toNat : Int) = 95) := by omega
      by_cases hdig : 48 ≤ c.toNat ∧ c.toNat ≤ 57
      · have hp : pvD c = some (c.toNat - 48) := by unfold pvD; rw [if_pos hdig]
        obtain ⟨k1, k2, k3, k4, k5, k6, k7, k8, k9⟩ := key _ (by omega) hp
        have g2 : (48 : Int) ≤ (c.toNat : Int) := by omega
        have g3 : (c.toNat : Int) ≤ 57 := by omega
        have e1 : ∀ ox oy, xbin Tryd.prog .sub T.uint8 ox oy (.int .u8 (c.toNat : Int)) (.int .u8 48) = some (.int .u8 ((c.toNat - 48 : Nat) : Int)) := fun ox oy => by rw [sub_u8 (by omega)]; congr 2; omega
        have ih := l_pu s hs v9 v H hr t (i + 1) _ hd' k8 K
        rw [k9]
        generalize c.toNat - 48 = d at k1 k2 k3 k4 k5 k6 k7 k8 e1 ih ⊢
        generalize 16 * n + d = n' at k1 k3 k6 k7 k8 ih ⊢
        rw [Int.natCast_add i 1] at ih
        rw [r_internal_strconv_ParseUint_0]
        simp (disch := first | with_reducible rfl | assumption | omega | rfl | (simp only [go_sem]; first | done | omega)) only [go_sem, ↓reduceIte, reduceCtorEq, Nat.reduceEqDiff, Nat.reduceAdd, Nat.reduceSub, Nat.reduceMul, Nat.reduceDiv, Nat.reduceMod, Nat.reduceLeDiff, Nat.reduceLT, Nat.reduceBEq, Int.reduceEq, Int.reduceBEq, Int.reduceBNe, Int.reduceLT, Int.reduceLE, Int.reduceAdd, Int.reduceSub, Int.reduceNeg, Int.reduceToNat, Int.reducePow, Nat.reducePow, Int.reduceMul, Int.reduceDiv, ↓s_internal_strconv_ParseUint_b0, hlt, hix, hcc, g1, g2, g3, e1, b16, q16, k1, k2, k3, k4, k5, k6, k7]
        exact ih
      · have m1 := q_lower c H
        have ge : (¬ (48 : Int) ≤ (c.toNat : Int)) ∨ ((48 : Int) ≤ (c.toNat : Int) ∧ ¬ (c.toNat : Int) ≤ 57) := by omega
        by_cases hlow : 97 ≤ lowC c ∧ lowC c ≤ 122
        · have g2 : (97 : Int) ≤ (lowC c : Int) := by omega
          have g3 : (lowC c : Int) ≤ 122 := by omega
          have e1 : ∀ ox oy, xbin Tryd.prog .sub T.uint8 ox oy (.int .u8 (lowC c : Int)) (.int .u8 97) = some (.int .u8 ((lowC c - 97 : Nat) : Int)) := fun ox oy => by rw [sub_u8 (by omega)]; congr 2; omega
          have e2 : ∀ ox oy, xbin Tryd.prog .add T.uint8 ox oy (.int .u8 ((lowC c - 97 : Nat) : Int)) (.int .u8 10) = some (.int .u8 ((lowC c - 87 : Nat) : Int)) := fun ox oy => by rw [add_u8 (by omega)]; congr 2; omega
          by_cases h16 : lowC c - 87 < 16
          · have hp : pvD c = some (lowC c - 87) := by unfold pvD; rw [if_neg hdig, if_pos hlow, if_pos h16]
            obtain ⟨k1, k2, k3, k4, k5, k6, k7, k8, k9⟩ := key _ h16 hp
            have ih := l_pu s hs v9 v H hr t (i + 1) _ hd' k8 K
            rw [k9]
            generalize lowC c - 97 = d0 at e1 e2
            generalize lowC c - 87 = d at k1 k2 k3 k4 k5 k6 k7 k8 e2 ih ⊢
            generalize 16 * n + d = n' at k1 k3 k6 k7 k8 ih ⊢
            rw [Int.natCast_add i 1] at ih
            rw [r_internal_strconv_ParseUint_0]
            rcases ge with g4 | ⟨g4, g5⟩
            · simp (disch := first | with_reducible rfl | assumption | omega | rfl | (simp only [go_sem]; first | done | omega)) only [go_sem, ↓reduceIte, reduceCtorEq, Nat.reduceEqDiff, Nat.reduceAdd, Nat.reduceSub, Nat.reduceMul, Nat.reduceDiv, Nat.reduceMod, Nat.reduceLeDiff, Nat.reduceLT, Nat.reduceBEq, Int.reduceEq, Int.reduceBEq, Int.reduceBNe, Int.reduceLT, Int.reduceLE, Int.reduceAdd, Int.reduceSub, Int.reduceNeg, Int.reduceToNat, Int.reducePow, Nat.reducePow, Int.reduceMul, Int.reduceDiv, ↓s_internal_strconv_ParseUint_b0, hlt, hix, hcc, g1, g4, ↓enterK_eq m1, enterK_eq m1, g2, g3, e1, e2, b16, q16, k1, k2, k3, k4, k5, k6, k7]
              exact ih
            · simp (disch := first | with_reducible rfl | assumption | omega | rfl | (simp only [go_sem]; first | done | omega)) only [go_sem, ↓reduceIte, reduceCtorEq, Nat.reduceEqDiff, Nat.reduceAdd, Nat.reduceSub, Nat.reduceMul, Nat.reduceDiv, Nat.reduceMod, Nat.reduceLeDiff, Nat.reduceLT, Nat.reduceBEq, Int.reduceEq, Int.reduceBEq, Int.reduceBNe, Int.reduceLT, Int.reduceLE, Int.reduceAdd, Int.reduceSub, Int.reduceNeg, Int.reduceToNat, Int.reducePow, Nat.reducePow, Int.reduceMul, Int.reduceDiv, ↓s_internal_strconv_ParseUint_b0, hlt, hix, hcc, g1, g4, g5, ↓enterK_eq m1, enterK_eq m1, g2, g3, e1, e2, b16, q16, k1, k2, k3, k4, k5, k6, k7]
              exact ih
          · have hp : pvD c = none := by unfold pvD; rw [if_neg hdig, if_pos hlow, if_neg h16]
            have g6 : (16 : Int) ≤ ((lowC c - 87 : Nat) : Int) := by omega
            generalize lowC c - 97 = d0 at e1 e2
            generalize lowC c - 87 = d at e2 g6
            rw [puN, hp, r_internal_strconv_ParseUint_0]
            rcases ge with g4 | ⟨g4, g5⟩
            · simp (disch := first | with_reducible rfl | assumption | omega | rfl | (simp only [go_sem]; first | done | omega)) only [go_sem, ↓reduceIte, reduceCtorEq, Nat.reduceEqDiff, Nat.reduceAdd, Nat.reduceSub, Nat.reduceMul, Nat.reduceDiv, Nat.reduceMod, Nat.reduceLeDiff, Nat.reduceLT, Nat.reduceBEq, Int.reduceEq, Int.reduceBEq, Int.reduceBNe, Int.reduceLT, Int.reduceLE, Int.reduceAdd, Int.reduceSub, Int.reduceNeg, Int.reduceToNat, Int.reducePow, Nat.reducePow, Int.reduceMul, Int.reduceDiv, ↓s_internal_strconv_ParseUint_b0, hlt, hix, hcc, g1, g4, ↓enterK_eq m1, enterK_eq m1, g2, g3, e1, e2, b16, g6]
            · simp (disch := first | with_reducible rfl | assumption | omega | rfl | (simp only [go_sem]; first | done | omega)) only [go_sem, ↓reduceIte, reduceCtorEq, Nat.reduceEqDiff, Nat.reduceAdd, Nat.reduceSub, Nat.reduceMul, Nat.reduceDiv, Nat.reduceMod, Nat.reduceLeDiff, Nat.reduceLT, Nat.reduceBEq, Int.reduceEq, Int.reduceBEq, Int.reduceBNe, Int.reduceLT, Int.reduceLE, Int.reduceAdd, Int.reduceSub, Int.reduceNeg, Int.reduceToNat, Int.reducePow, Nat.reducePow, Int.reduceMul, Int.reduceDiv, ↓s_internal_strconv_ParseUint_b0, hlt, hix, hcc, g1, g4, g5, ↓enterK_eq m1, enterK_eq m1, g2, g3, e1, e2, b16, g6]
        · have hp : pvD c = none := by unfold pvD; rw [if_neg hdig, if_neg hlow]
          have gl : (¬ (97 : Int) ≤ (lowC c : Int)) ∨ ((97 : Int) ≤ (lowC c : Int) ∧ ¬ (lowC c : Int) ≤ 122) := by omega
          rw [puN, hp, r_internal_strconv_ParseUint_0]
          rcases ge with g4 | ⟨g4, g5⟩ <;> rcases gl with g6 | ⟨g6, g7⟩
          · simp (disch := first | with_reducible rfl | assumption | omega | rfl | (simp only [go_sem]; first | done | omega)) only [go_sem, ↓reduceIte, reduceCtorEq, Nat.reduceEqDiff, Nat.reduceAdd, Nat.reduceSub, Nat.reduceMul, Nat.reduceDiv, Nat.reduceMod, Nat.reduceLeDiff, Nat.reduceLT, Nat.reduceBEq, Int.reduceEq, Int.reduceBEq, Int.reduceBNe, Int.reduceLT, Int.reduceLE, Int.reduceAdd, Int.reduceSub, Int.reduceNeg, Int.reduceToNat, Int.reducePow, Nat.reducePow, Int.reduceMul, Int.reduceDiv, ↓s_internal_strconv_ParseUint_b0, hlt, hix, hcc, g1, g4, ↓enterK_eq m1, enterK_eq m1, g6]
          · simp (disch := first | with_reducible rfl | assumption | omega | rfl | (simp only [go_sem]; first | done | omega)) only [go_sem, ↓reduceIte, reduceCtorEq, Nat.reduceEqDiff, Nat.reduceAdd, Nat.reduceSub, Nat.reduceMul, Nat.reduceDiv, Nat.reduceMod, Nat.reduceLeDiff, Nat.reduceLT, Nat.reduceBEq, Int.reduceEq, Int.reduceBEq, Int.reduceBNe, Int.reduceLT, Int.reduceLE, Int.reduceAdd, Int.reduceSub, Int.reduceNeg, Int.reduceToNat, Int.reducePow, Nat.reducePow, Int.reduceMul, Int.reduceDiv, ↓s_internal_strconv_ParseUint_b0, hlt, hix, hcc, g1, g4, ↓enterK_eq m1, enterK_eq m1, g6, g7]
          · simp (disch := first | with_reducible rfl | assumption | omega | rfl | (simp only [go_sem]; first | done | omega)) only [go_sem, ↓reduceIte, reduceCtorEq, Nat.reduceEqDiff, Nat.reduceAdd, Nat.reduceSub, Nat.reduceMul, Nat.reduceDiv, Nat.reduceMod, Nat.reduceLeDiff, Nat.reduceLT, Nat.reduceBEq, Int.reduceEq, Int.reduceBEq, Int.reduceBNe, Int.reduceLT, Int.reduceLE, Int.reduceAdd, Int.reduceSub, Int.reduceNeg, Int.reduceToNat, Int.reducePow, Nat.reducePow, Int.reduceMul, Int.reduceDiv, ↓s_internal_strconv_ParseUint_b0, hlt, hix, hcc, g1, g4, g5, ↓enterK_eq m1, enterK_eq m1, g6]
          · simp (disch := first | with_reducible rfl | assumption | omega | rfl | (simp only [go_sem]; first | done | omega)) only [go_sem, ↓reduceIte, reduceCtorEq, Nat.reduceEqDiff, Nat.reduceAdd, Nat.reduceSub, Nat.reduceMul, Nat.reduceDiv, Nat.reduceMod, Nat.reduceLeDiff, Nat.reduceLT, Nat.reduceBEq, Int.reduceEq, Int.reduceBEq, Int.reduceBNe, Int.reduceLT, Int.reduceLE, Int.reduceAdd, Int.reduceSub, Int.reduceNeg, Int.reduceToNat, Int.reducePow, Nat.reducePow, Int.reduceMul, Int.reduceDiv, ↓s_internal_strconv_ParseUint_b0, hlt, hix, hcc, g1, g4, g5, ↓enterK_eq m1, enterK_eq m1, g6, g7]

end Go.Proofs.YtlkgfbcencoahaaDoor

/-
  Chapter 44: ParseUint of two digits; pages.bytes, Read.
  Conditions: none. By an AI agent.
-/
set_option maxRecDepth 10000
set_option linter.unusedSimpArgs false
set_option linter.unusedVariables false
namespace Go.Proofs.YtlkgfbcencoahaaDoor
open Go Eng

theorem q_iParse (a b : UInt8) (H : AHeap) : CC F.internal_strconv_ParseUint [.string (mk [a, b]), .int .i64 16, .int .i64 8] H = some ((match puN 0 [a, b] with | some m => .tuple #[.int .u64 (m : Int), .nilIface] | none => .tuple #[.int .u64 0, errS]), H) := by
  have hcv := x_sb [a, b] H
  obtain ⟨H1, hH1⟩ : ∃ H1, H.push (.cells (EB.cells [a, b]) T.uint8 true) = H1 := ⟨_, rfl⟩
  rw [hH1] at hcv
  have s1 : Still H H1 := by rw [← hH1]; exact (Fr.refl H).push _
  have n1 : H1.n = H.n + 1 := by rw [← hH1]; rfl
  have f1 : H1.f H.n = .cells (EB.cells [a, b]) T.uint8 true := by rw [← hH1]; exact push_f_eq rfl
  have ro := own_sb (by omega) f1
  have hcv : xconv Tryd.prog T.string T.sl_uint8 (.string (mk [a, b])) H = some (.slice (some ⟨H.n, 0, none⟩) 2 5, H1) := hcv
  have lp := l_pu [a, b] (by simp) (.string (mk [a, b])) _ H1 ro.rd [a, b] 0 0 rfl (by decide)
  have lp : ∀ K : K, l_internal_strconv_ParseUint_0 (.int .i64 16) (.bool false) (.string (mk [a, b])) (.int .u64 1152921504606846976) (.int .u64 255) (.bool false) (.int .u64 0) (.slice (some ⟨H.n, 0, none⟩) 2 5) (.int .i64 2) (.int .i64 0) H1 (blkK [9, 12, 13] 3 K)
      = match puN 0 [a, b] with
        | some m => K .normal [(9, .string (mk [a, b])), (12, .bool false), (13, .int .u64 (m : Int))] H1
        | none => K .ret [(6, .int .u64 0), (7, errS)] H1 := lp
  have hne : ¬ ([a, b] : List UInt8) = [] := by simp
  have c1 : ∀ H : AHeap, xconv Tryd.prog T.int T.uint (.int .i64 8) H = some (.int .u64 8, H) := fun H => by rw [x_int_uint]; rfl
  have c2 : ∀ ox oy, xbin Tryd.prog .shl T.uint64 ox oy (.int .u64 1) (.int .u64 8) = some (.int .u64 256) := fun ox oy => by rw [shlP (by decide)]; rfl
  have c3 : ∀ ox oy, xbin Tryd.prog .sub T.uint64 ox oy (.int .u64 256) (.int .u64 1) = some (.int .u64 255) := fun ox oy => by rw [xbin_sub]; rfl
  cases hp : puN 0 [a, b] with
  | none =>
    rw [hp] at lp
    simp only at lp ⊢
    apply pure_of _ (d_internal_strconv_ParseUint _ _ _ H) rfl
    rotate_left 2
    · simp (disch := first | with_reducible rfl | assumption | omega | rfl | (simp only [go_sem]; first | done | omega)) only [go_sem, ↓reduceIte, reduceCtorEq, Nat.reduceEqDiff, Nat.reduceAdd, Nat.reduceSub, Nat.reduceMul, Nat.reduceDiv, Nat.reduceMod, Nat.reduceLeDiff, Nat.reduceLT, Nat.reduceBEq, Int.reduceEq, Int.reduceBEq, Int.reduceBNe, Int.reduceLT, Int.reduceLE, Int.reduceAdd, Int.reduceSub, Int.reduceNeg, Int.reduceToNat, Int.reducePow, Nat.reducePow, Int.reduceMul, Int.reduceDiv, ↓s_internal_strconv_ParseUint, bl_mk, hne, c1, c2, c3, hcv, lp]
      rfl
    · exact s1
  | some m =>
    rw [hp] at lp
    simp only at lp ⊢
    apply pure_of _ (d_internal_strconv_ParseUint _ _ _ H) rfl
    rotate_left 2
    · simp (disch := first | with_reducible rfl | assumption | omega | rfl | (simp only [go_sem]; first | done | omega)) only [go_sem, ↓reduceIte, reduceCtorEq, Nat.reduceEqDiff, Nat.reduceAdd, Nat.reduceSub, Nat.reduceMul, Nat.reduceDiv, Nat.reduceMod, Nat.reduceLeDiff, Nat.reduceLT, Nat.reduceBEq, Int.reduceEq, Int.reduceBEq, Int.reduceBNe, Int.reduceLT, Int.reduceLE, Int.reduceAdd, Int.reduceSub, Int.reduceNeg, Int.reduceToNat, Int.reducePow, Nat.reducePow, Int.reduceMul, Int.reduceDiv, ↓s_internal_strconv_ParseUint, bl_mk, hne, c1, c2, c3, hcv, lp]
      rfl
    · exact s1

theorem iface_ne_nil : xbin Tryd.prog .neq T.error (.tmp 17) (.const .nilIface) errS .nilIface = some (.bool true) := by kernel_rfl
theorem nil_ne_nil : xbin Tryd.prog .neq T.error (.tmp 17) (.const .nilIface) .nilIface .nilIface = some (.bool false) := by kernel_rfl

theorem puN_par (a b : UInt8) : ∃ m : Nat, parD a b = m ∧ m < 256 ∧ (puN 0 [a, b] = some m ∨ (puN 0 [a, b] = none ∧ m = 0)) := by
  refine ⟨parD a b, rfl, parD_lt a b, ?_⟩
  unfold parD
  cases ha : pvD a with
  | none => right; simp [puN, ha]
  | some x =>
    cases hb : pvD b with
    | none => right; simp [puN, ha, hb]
    | some y => left; simp [puN, ha, hb]

theorem q_toError (s fn : ByteArray) (H : AHeap) (hs : (bl s).length ≤ 1000000) : CC F.strconv_toError [.string fn, .string s, .int .i64 16, .int .i64 8, errS] H = some (.iface 110 (.chan none), H) := by
  refine D_prim (show prims1 F.strconv_toError = some errV by kernel_rfl) ?_
  show (if s.size ≤ 1000000 ∧ T.internal_strconv_Error = 108 then some (Value.iface 110 (.chan none), H) else none) = _
  have e : s.size = (bl s).length := by cases s; rfl
  rw [if_pos ⟨by omega, by kernel_rfl⟩]

/-- ParseUint of two digits: its number, whatever the error. -/
theorem q_Parse (a b : UInt8) (H : AHeap) : ∃ ev H', CC F.strconv_ParseUint [.string (mk [a, b]), .int .i64 16, .int .i64 8] H = some (.tuple #[.int .u64 (parD a b : Int), ev], H') ∧ Still H H' := by
  obtain ⟨m, h1, h2, h3⟩ := puN_par a b
  have m1 := q_iParse a b H
  rw [h1]
  rcases h3 with h3 | ⟨h3, h4⟩
  · rw [h3] at m1
    refine ⟨.nilIface, H, ?_, Fr.refl H⟩
    apply pure_of _ (d_strconv_ParseUint _ _ _ H) rfl
    rotate_left 2
    · simp (disch := first | with_reducible rfl | assumption | omega | rfl | (simp only [go_sem]; first | done | omega)) only [go_sem, ↓reduceIte, reduceCtorEq, Nat.reduceEqDiff, Nat.reduceAdd, Nat.reduceSub, Nat.reduceMul, Nat.reduceDiv, Nat.reduceMod, Nat.reduceLeDiff, Nat.reduceLT, Nat.reduceBEq, Int.reduceEq, Int.reduceBEq, Int.reduceBNe, Int.reduceLT, Int.reduceLE, Int.reduceAdd, Int.reduceSub, Int.reduceNeg, Int.reduceToNat, Int.reducePow, Nat.reducePow, Int.reduceMul, Int.reduceDiv, ↓s_strconv_ParseUint, ↓enterK_eq m1, enterK_eq m1, nil_ne_nil]
      rfl
    · (repeat (first | exact Fr.refl _ | refine Fr.push ?_ _ | refine Fr.set ?_ _ _ (by intro h; first | omega | (simp only [go_sem] at h; omega))))
  · rw [h3] at m1
    subst h4
    have m2 := q_toError (mk [a, b]) (mk [80, 97, 114, 115, 101, 85, 105, 110, 116]) H (by rw [bl_mk]; simp)
    have hd := d_strconv_ParseUint (.string (mk [a, b])) (.int .i64 16) (.int .i64 8) H (r := (.tuple #[.int .u64 0, .iface 110 (.chan none)], H)) (by simp (disch := first | with_reducible rfl | assumption | omega | rfl | (simp only [go_sem]; first | done | omega)) only [go_sem, ↓reduceIte, reduceCtorEq, Nat.reduceEqDiff, Nat.reduceAdd, Nat.reduceSub, Nat.reduceMul, Nat.reduceDiv, Nat.reduceMod, Nat.reduceLeDiff, Nat.reduceLT, Nat.reduceBEq, Int.reduceEq, Int.reduceBEq, Int.reduceBNe, Int.reduceLT, Int.reduceLE, Int.reduceAdd, Int.reduceSub, Int.reduceNeg, Int.reduceToNat, Int.reducePow, Nat.reducePow, Int.reduceMul, Int.reduceDiv, ↓s_strconv_ParseUint, ↓enterK_eq m1, enterK_eq m1, iface_ne_nil, ↓enterK_eq m2, enterK_eq m2])
    obtain ⟨H', e, s⟩ := tidy_fr (v := .tuple #[.int .u64 0, .iface 110 (.chan none)]) (Fr.refl H : Still H H)
    exact ⟨_, H', hd.trans (congrArg some e), s⟩

/-! ### bytes -/
theorem l_pbytes (s : List UInt8) (hs : s.length ≤ 100000) (H0 : AHeap) : ∀ (f : Nat) (t : List UInt8) (i : Nat) (H : AHeap) (v : Value) (o : List UInt8), t.length ≤ f → s.drop i = t → Since H0 H v o → o.length ≤ i → i ≤ s.length →
    ∃ v' H', Since H0 H' v' (o ++ bytR t) ∧ ∀ K : K, l_pages_bytes_0 (.string (mk s)) v (.int .i64 (i : Int)) H (blkK [3] 0 K) = K .normal [(3, v')] H'
  | f, [], i, H, v, o, hf, hd, so, ho, hi => by
    have h : s.length ≤ i := List.drop_eq_nil_iff.1 hd
    have hlt : ¬ ((i : Int) + 1) < (s.length : Int) := by omega
    refine ⟨v, H, by simpa [bytR] using so, fun K => ?_⟩
    rw [r_pages_bytes_0]
    simp (disch := first | with_reducible rfl | assumption | omega | rfl | (simp only [go_sem]; first | done | omega)) only [go_sem, ↓reduceIte, reduceCtorEq, Nat.reduceEqDiff, Nat.reduceAdd, Nat.reduceSub, Nat.reduceMul, Nat.reduceDiv, Nat.reduceMod, Nat.reduceLeDiff, Nat.reduceLT, Nat.reduceBEq, Int.reduceEq, Int.reduceBEq, Int.reduceBNe, Int.reduceLT, Int.reduceLE, Int.reduceAdd, Int.reduceSub, Int.reduceNeg, Int.reduceToNat, Int.reducePow, Nat.reducePow, Int.reduceMul, Int.reduceDiv, ↓s_pages_bytes_b0, bl_mk, hlt]
  | f, [a], i, H, v, o, hf, hd, so, ho, hi => by
    have hl := congrArg List.length hd
    rw [List.length_drop] at hl
    simp at hl
    have hlt : ¬ ((i : Int) + 1) < (s.length : Int) := by omega
    refine ⟨v, H, by simpa [bytR] using so, fun K => ?_⟩
    rw [r_pages_bytes_0]
    simp (disch := first | with_reducible rfl | assumption | omega | rfl | (simp only [go_sem]; first | done | omega)) only [go_sem, ↓reduceIte, reduceCtorEq, Nat.reduceEqDiff, Nat.reduceAdd, Nat.reduceSub, Nat.reduceMul, Nat.reduceDiv, Nat.reduceMod, Nat.reduceLeDiff, Nat.reduceLT, Nat.reduceBEq, Int.reduceEq, Int.reduceBEq, Int.reduceBNe, Int.reduceLT, Int.reduceLE, Int.reduceAdd, Int.reduceSub, Int.reduceNeg, Int.reduceToNat, Int.reducePow, Nat.reducePow, Int.reduceMul, Int.reduceDiv, ↓s_pages_bytes_b0, bl_mk, hlt]
  | 0, _ :: _ :: _, _, _, _, _, hf, _, _, _, _ => by simp at hf
  | f + 1, a :: b :: t, i, H, v, o, hf, hd, so, ho, hi => by
    obtain ⟨h, hx0, hd'⟩ := drop_cons hd
    obtain ⟨h2, hx1, hd''⟩ := drop_cons hd'
    have hlt : ((i : Int) + 1) < (s.length : Int) := by omega
    have sl := slT_two (s := mk s) (q := .i64) (q' := .i64) (i := i) (j := i + 2) (by omega) (by rw [bl_mk]; omega)
    rw [bl_mk, List.drop_take, hd, show i + 2 - i = 2 by omega] at sl
    have sl : slT (.string (mk s)) (some (.int .i64 (i : Int))) (some (.int .i64 ((i : Int) + 2))) = some (.string (mk [a, b])) := sl
    obtain ⟨ev, H1, m1, s1⟩ := q_Parse a b H
    have hpl := parD_lt a b
    have c1 : ∀ H : AHeap, xconv Tryd.prog T.uint64 T.uint8 (.int .u64 (parD a b : Int)) H = some (.int .u8 (parD a b : Int), H) := fun H => by rw [x_uint64_uint8, wrapU8]; congr 3; omega
    obtain ⟨H2, hH2⟩ : ∃ H2, H1.push (.cells (EB.cells [UInt8.ofNat (parD a b)]) T.uint8 true) = H2 := ⟨_, rfl⟩
    obtain ⟨v1, H3, a1, so1⟩ := (so.to s1).lit [UInt8.ofNat (parD a b)] hH2 (by simp; omega)
    have hcell : EB.cells [UInt8.ofNat (parD a b)] = [.int .u8 (parD a b : Int)] := by
      rw [EB_cells]
      show [byteCell (by8 (parD a b))] = _
      rw [by8_cell]; congr 2; omega
    rw [hcell] at hH2
    have a1 : app T.uint8 1 1 v (srcS 1 (.slice (some ⟨H1.n, 0, none⟩) 1 2) H2) H2 = some (v1, H3) := a1
    obtain ⟨v', H', so', e'⟩ := l_pbytes s hs H0 f t (i + 1 + 1) H3 v1 _ (by simp at hf; omega) hd'' so1 (by simp; omega) (by omega)
    refine ⟨v', H', by rw [bytR]; simpa using so', fun K => ?_⟩
    have e' := e' K
    have hi2 : ((i + 1 + 1 : Nat) : Int) = (i : Int) + 2 := by omega
    rw [hi2] at e'
    rw [r_pages_bytes_0]
    simp (disch := first | with_reducible rfl | assumption | omega | rfl | (simp only [go_sem]; first | done | omega)) only [go_sem, ↓reduceIte, reduceCtorEq, Nat.reduceEqDiff, Nat.reduceAdd, Nat.reduceSub, Nat.reduceMul, Nat.reduceDiv, Nat.reduceMod, Nat.reduceLeDiff, Nat.reduceLT, Nat.reduceBEq, Int.reduceEq, Int.reduceBEq, Int.reduceBNe, Int.reduceLT, Int.reduceLE, Int.reduceAdd, Int.reduceSub, Int.reduceNeg, Int.reduceToNat, Int.reducePow, Nat.reducePow, Int.reduceMul, Int.reduceDiv, ↓s_pages_bytes_b0, bl_mk, hlt, sl, ↓enterK_eq m1, enterK_eq m1, c1, hH2, a1]
    exact e'

theorem q_pbytes (s : List UInt8) (H : AHeap) (hs : s.length ≤ 100000) : CC F.pages_bytes [.string (mk s)] H = some (.string (mk (bytR s)), H) := by
  obtain ⟨v', H', so, e⟩ := l_pbytes s hs H s.length s 0 H _ [] (Nat.le_refl _) rfl Since.nil (by simp) (by omega)
  rw [List.nil_append] at so
  have e : ∀ K : K, l_pages_bytes_0 (.string (mk s)) (.slice none 0 0) (.int .i64 0) H (blkK [3] 0 K) = K .normal [(3, v')] H' := e
  have st := BR.str so.own.sl
  apply pure_of _ (d_pages_bytes _ H) rfl
  rotate_left 2
  · simp (disch := first | with_reducible rfl | assumption | omega | rfl | (simp only [go_sem]; first | done | omega)) only [go_sem, ↓reduceIte, reduceCtorEq, Nat.reduceEqDiff, Nat.reduceAdd, Nat.reduceSub, Nat.reduceMul, Nat.reduceDiv, Nat.reduceMod, Nat.reduceLeDiff, Nat.reduceLT, Nat.reduceBEq, Int.reduceEq, Int.reduceBEq, Int.reduceBNe, Int.reduceLT, Int.reduceLE, Int.reduceAdd, Int.reduceSub, Int.reduceNeg, Int.reduceToNat, Int.reducePow, Nat.reducePow, Int.reduceMul, Int.reduceDiv, ↓s_pages_bytes, e, st]
    rfl
  · exact so.still

theorem bytR_len : ∀ (f : Nat) (l : List UInt8), l.length ≤ f → (bytR l).length ≤ l.length
  | _, [], _ => by simp [bytR]
  | _, [_], _ => by simp [bytR]
  | 0, _ :: _ :: _, h => by simp at h
  | f + 1, a :: b :: t, h => by
    have := bytR_len f t (by simp at h; omega)
    simp [bytR]; omega

theorem q_ValidKey (s : ByteArray) (H : AHeap) : CC F.keys_ValidKey [.string s] H = some (.bool (decide (1 ≤ (bl s).length) && decide ((bl s).length ≤ 24)), H) := by
  by_cases h1 : (1 : Int) ≤ ((bl s).length : Int)
  · by_cases h2 : ((bl s).length : Int) ≤ 24
    · rw [decide_eq_true (show 1 ≤ (bl s).length by omega), decide_eq_true (show (bl s).length ≤ 24 by omega)]
      apply pure_of _ (d_keys_ValidKey _ H) rfl
      rotate_left 2
      · simp (disch := first | with_reducible rfl | assumption | omega | rfl | (simp only [go_sem]; first | done | omega)) only [go_sem, ↓reduceIte, reduceCtorEq, Nat.reduceEqDiff, Nat.reduceAdd, Nat.reduceSub, Nat.reduceMul, Nat.reduceDiv, Nat.reduceMod, Nat.reduceLeDiff, Nat.reduceLT, Nat.reduceBEq, Int.reduceEq, Int.reduceBEq, Int.reduceBNe, Int.reduceLT, Int.reduceLE, Int.reduceAdd, Int.reduceSub, Int.reduceNeg, Int.reduceToNat, Int.reducePow, Nat.reducePow, Int.reduceMul, Int.reduceDiv, ↓s_keys_ValidKey, h1, h2]
        rfl
      · (repeat (first | exact Fr.refl _ | refine Fr.push ?_ _ | refine Fr.set ?_ _ _ (by intro h; first | omega | (simp only [go_sem] at h; omega))))
    · rw [decide_eq_true (show 1 ≤ (bl s).length by omega), decide_eq_false (show ¬ (bl s).length ≤ 24 by omega)]
      apply pure_of _ (d_keys_ValidKey _ H) rfl
      rotate_left 2
      · simp (disch := first | with_reducible rfl | assumption | omega | rfl | (simp only [go_sem]; first | done | omega)) only [go_sem, ↓reduceIte, reduceCtorEq, Nat.reduceEqDiff, Nat.reduceAdd, Nat.reduceSub, Nat.reduceMul, Nat.reduceDiv, Nat.reduceMod, Nat.reduceLeDiff, Nat.reduceLT, Nat.reduceBEq, Int.reduceEq, Int.reduceBEq, Int.reduceBNe, Int.reduceLT, Int.reduceLE, Int.reduceAdd, Int.reduceSub, Int.reduceNeg, Int.reduceToNat, Int.reducePow, Nat.reducePow, Int.reduceMul, Int.reduceDiv, ↓s_keys_ValidKey, h1, h2]
        rfl
      · (repeat (first | exact Fr.refl _ | refine Fr.push ?_ _ | refine Fr.set ?_ _ _ (by intro h; first | omega | (simp only [go_sem] at h; omega))))
  · rw [decide_eq_false (show ¬ 1 ≤ (bl s).length by omega)]
    apply pure_of _ (d_keys_ValidKey _ H) rfl
    rotate_left 2
    · simp (disch := first | with_reducible rfl | assumption | omega | rfl | (simp only [go_sem]; first | done | omega)) only [go_sem, ↓reduceIte, reduceCtorEq, Nat.reduceEqDiff, Nat.reduceAdd, Nat.reduceSub, Nat.reduceMul, Nat.reduceDiv, Nat.reduceMod, Nat.reduceLeDiff, Nat.reduceLT, Nat.reduceBEq, Int.reduceEq, Int.reduceBEq, Int.reduceBNe, Int.reduceLT, Int.reduceLE, Int.reduceAdd, Int.reduceSub, Int.reduceNeg, Int.reduceToNat, Int.reducePow, Nat.reducePow, Int.reduceMul, Int.reduceDiv, ↓s_keys_ValidKey, h1]
      rfl
    · (repeat (first | exact Fr.refl _ | refine Fr.push ?_ _ | refine Fr.set ?_ _ _ (by intro h; first | omega | (simp only [go_sem] at h; omega))))

end Go.Proofs.YtlkgfbcencoahaaDoor
